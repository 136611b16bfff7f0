/- Contracts: the program's curves by function values that hold what they captured; looks at rows. Contracts: sums of curves, sameness of curves, lights, names of codes. Contracts: films and layers that are made: empty, mirrors, turned, out of curves; the sum of products. Contracts: turned films, layers out of curves, sums of products. Contracts: a curve if it is finite; ratios. Contracts: curves of ratios. -/
import Derived.Test.YtfpjiclkhjdihaaCP
import Derived.Test.YtfpjiclkhjdihaaCA
namespace Go.Proofs.Ytfpjiclkhjdihaa
open Go.RowKit
set_option maxRecDepth 100000

theorem flatOne_any (g a x : Nat) (w : World) (hg : w.cell? ⟨g, 0, none⟩ = some (.float .f32 a)) : Calls Try.prog 51 #[.float .f32 x, .pointer (some ⟨g, 0, none⟩)] w (RetFq w (canon .f32 a)) := by
  go_enter Try.func51, Try.ntmps51
  go_wp2
  go_ret
  exact ⟨_, rfl, rfl, 0, rfl⟩
theorem iFlatCurve_any (a : Nat) (w : World) : Calls Try.prog 24 #[.float .f32 a] w (RetC 16 w fun _ => canon .f32 a) := by
  go_enter Try.func24, Try.ntmps24
  go_wp2_with fail
  refine (each_any 51 #[.pointer (some ⟨w.heap.size, 0, none⟩)] (fun _ => canon .f32 a) (fun _ => 0) _ (fun _ _ => by kernel_rfl) (fun x w1 hb => (flatOne_any w.heap.size a x w1 (((Blk.below (t := 24) (cs := #[.float .f32 a]) (by first | assumption | (repeat (first | assumption | (apply Blk.new_at; (focus (simp; done)); rfl) | apply Blk.alloc | apply Blk.drewN))) hb (by first | omega | (simp; done) | (simp; omega))).cell 0).trans rfl)).mono fun _ _ h => h.to)).mono ?_
  rintro e w1 ⟨r, rfl, hr, hb⟩
  have hZ : Blk w1 (w.heap.size + 1) 26 (fA 16 fun _ => 0) := Blk.below (by first | assumption | (repeat (first | assumption | (apply Blk.new_at; (focus (simp; done)); rfl) | apply Blk.alloc | apply Blk.drewN))) hb (by first | omega | (simp; done) | (simp; omega))
  have hB : Below w.heap.size w w1 := bCall (by repeat (first | assumption | exact Below.refl _ _ | refine bDrew ?_ _ | refine Below.alloc ?_ (by first | omega | (simp; done) | (simp; omega)) _ | refine Below.setCell ?_ (by first | omega | (simp; done) | (simp; omega)) _ | refine bRow ?_ (by first | omega | (simp; done) | (simp; omega)) _)) hb (by first | omega | (simp; done) | (simp; omega))
  have Hr := Lib.hid hr
  clear hr
  go_wp2_with (refine wpList_store_row rfl 26 _ _ rfl _ _ rfl rfl _ _ (by first | assumption | (repeat (first | assumption | (apply Blk.new_at; (focus (simp; done)); rfl) | apply Blk.alloc | apply Blk.drewN))) (by kernel_rfl) (by simp only [size_fA]) (all_fA _ _) ?_)
  exact bodyPost_ret (results_cell_row rfl _ _ (w.heap.size + 1) _ _ _ _ rfl hZ.setRow Try.underlying26 rfl (by kernel_rfl)) rfl ⟨_, rfl, Hr.out, (by repeat (first | assumption | exact Below.refl _ _ | refine bDrew ?_ _ | refine Below.alloc ?_ (by first | omega | (simp; done) | (simp; omega)) _ | refine Below.setCell ?_ (by first | omega | (simp; done) | (simp; omega)) _ | refine bRow ?_ (by first | omega | (simp; done) | (simp; omega)) _))⟩
end Go.Proofs.Ytfpjiclkhjdihaa

namespace Go.Proofs.Ytfpjiclkhjdihaa
open Go.RowKit
set_option maxRecDepth 100000

end Go.Proofs.Ytfpjiclkhjdihaa

namespace Go.Proofs.Ytfpjiclkhjdihaa
open Go.RowKit
set_option maxRecDepth 100000

theorem wpList_build_as {P : Program} {ops : Array Oper} {rest : List Oper} {o : Oper} {a : Act} {w : World} {Q : Exit → Act → World → Prop} (hg : o.guard = none) (t : TypeId) (parts : Array (Nat × Operand)) (ho : o.op = .build t parts)
    (cells : Array Value) (hc : P.built t (parts.map fun (i, x) => (i, a.eval x)).toList = some cells) (h : wpList P ops Q rest (a.put o.dst (.agg cells)) w) : wpList P ops Q (o :: rest) a w :=
  wpList_build hg t parts ho (by rw [hc]; rfl) (by rw [hc]; exact h)

/-- A film out of three curves; a layer out of two and a number. -/
def film3 (r b t : Nat → Nat) : Nat → Nat := fun j => if j < 16 then r j else if j < 32 then b (j - 16) else t (j - 32)
def layer3 (k s : Nat → Nat) (x : Nat) : Nat → Nat := fun j => if j < 16 then k j else if j < 32 then s (j - 16) else x
def emptyAt (i : Nat) : Option Nat := if i < 32 then canon .f32 0 else canon .f32 1065353216
def mirrorRes (x : Option Nat) : (Nat → Option Nat) × Int := if share x then (fun i => if i < 32 then x else fsub (canon .f32 1065353216) x, 0) else (fun _ => canon .f32 0, 2)
def turnRes (f : Nat → Nat) : (Nat → Option Nat) × Int := if filmOk f then (fun i => canon .f32 (film3 (rowAt f 16) (rowAt f 0) (rowAt f 32) i), 0) else (fun _ => canon .f32 0, 1)
def layerRes (k s : Nat → Nat) (x : Nat) : (Nat → Option Nat) × Int := if layerOk (layer3 k s x) then (fun i => canon .f32 (layer3 k s x i), 0) else (fun _ => canon .f32 0, 1)
theorem film3_at {r b t : Nat → Nat} {p q : Option Nat} (hr : ∀ i, i < 16 → canon .f32 (r i) = p) (hb : ∀ i, i < 16 → canon .f32 (b i) = p) (ht : ∀ i, i < 16 → canon .f32 (t i) = q) : ∀ i, i < 48 → canon .f32 (film3 r b t i) = if i < 32 then p else q := by
  intro i hi
  unfold film3
  by_cases h1 : i < 16
  · rw [if_pos h1, if_pos (by omega)]; exact hr i h1
  · by_cases h2 : i < 32
    · rw [if_neg h1, if_pos h2, if_pos h2]; exact hb _ (by omega)
    · rw [if_neg h1, if_neg h2, if_neg h2]; exact ht _ (by omega)

theorem l02Empty_any (w : World) : Calls Try.prog 61 #[] w (RetC 48 w emptyAt) := by
  have hZ : Blk (w.alloc (.cells (fA 48 fun _ => 0) 28)) w.heap.size 28 (fA 48 fun _ => 0) := Blk.new _ _ _
  have hb : Below w.heap.size w (w.alloc (.cells (fA 48 fun _ => 0) 28)) := (by repeat (first | assumption | exact Below.refl _ _ | refine bDrew ?_ _ | refine Below.alloc ?_ (by first | omega | (simp; done) | (simp; omega)) _ | refine Below.setCell ?_ (by first | omega | (simp; done) | (simp; omega)) _ | refine bRow ?_ (by first | omega | (simp; done) | (simp; omega)) _))
  go_enter Try.func61, Try.ntmps61
  go_wp2_with fail
  refine (l01Flat_any 1065353216 (w.alloc (.cells (fA 48 fun _ => 0) 28))).mono ?_
  rintro e w1 ⟨r0, rfl, hr, hb1⟩
  have hZ := hZ.below hb1 hZ.lt
  have hb := bCall hb hb1 hb.size
  have Hr := Lib.hid hr
  clear hr hb1
  go_wp2_with (first | (refine wpList_build_as rfl 28 _ rfl (fA 48 (film3 (fun _ => 0) (fun _ => 0) r0)) (by kernel_rfl) ?_) | (refine wpList_store_row rfl 28 _ _ rfl _ _ rfl rfl _ _ hZ (by kernel_rfl) (by simp only [size_fA]) (all_fA _ _) ?_))
  exact bodyPost_ret (results_cell_row rfl _ _ w.heap.size _ _ _ _ rfl hZ.setRow Try.underlying28 rfl (by kernel_rfl)) rfl ⟨_, rfl, film3_at (fun _ _ => rfl) (fun _ _ => rfl) Hr.out, (by repeat (first | assumption | exact Below.refl _ _ | refine bDrew ?_ _ | refine Below.alloc ?_ (by first | omega | (simp; done) | (simp; omega)) _ | refine Below.setCell ?_ (by first | omega | (simp; done) | (simp; omega)) _ | refine bRow ?_ (by first | omega | (simp; done) | (simp; omega)) _))⟩
theorem iEmptyFilm_any (w : World) : Calls Try.prog 11 #[] w (RetC 48 w emptyAt) := by
  have hZ : Blk (w.alloc (.cells (fA 48 fun _ => 0) 28)) w.heap.size 28 (fA 48 fun _ => 0) := Blk.new _ _ _
  have hb : Below w.heap.size w (w.alloc (.cells (fA 48 fun _ => 0) 28)) := (by repeat (first | assumption | exact Below.refl _ _ | refine bDrew ?_ _ | refine Below.alloc ?_ (by first | omega | (simp; done) | (simp; omega)) _ | refine Below.setCell ?_ (by first | omega | (simp; done) | (simp; omega)) _ | refine bRow ?_ (by first | omega | (simp; done) | (simp; omega)) _))
  go_enter Try.func11, Try.ntmps11
  go_wp2_with fail
  refine (iFlatCurve_any 1065353216 (w.alloc (.cells (fA 48 fun _ => 0) 28))).mono ?_
  rintro e w1 ⟨r0, rfl, hr, hb1⟩
  have hZ := hZ.below hb1 hZ.lt
  have hb := bCall hb hb1 hb.size
  have Hr := Lib.hid hr
  clear hr hb1
  go_wp2_with (first | (refine wpList_build_as rfl 28 _ rfl (fA 48 (film3 (fun _ => 0) (fun _ => 0) r0)) (by kernel_rfl) ?_) | (refine wpList_store_row rfl 28 _ _ rfl _ _ rfl rfl _ _ hZ (by kernel_rfl) (by simp only [size_fA]) (all_fA _ _) ?_))
  exact bodyPost_ret (results_cell_row rfl _ _ w.heap.size _ _ _ _ rfl hZ.setRow Try.underlying28 rfl (by kernel_rfl)) rfl ⟨_, rfl, film3_at (fun _ _ => rfl) (fun _ _ => rfl) Hr.out, (by repeat (first | assumption | exact Below.refl _ _ | refine bDrew ?_ _ | refine Below.alloc ?_ (by first | omega | (simp; done) | (simp; omega)) _ | refine Below.setCell ?_ (by first | omega | (simp; done) | (simp; omega)) _ | refine bRow ?_ (by first | omega | (simp; done) | (simp; omega)) _))⟩
theorem sMirrorFilm_any (a : Nat) (w : World) : Calls Try.prog 58 #[.float .f32 a] w (RetCC 48 w (mirrorRes (canon .f32 a)).1 (mirrorRes (canon .f32 a)).2) := by
  have hZ : Blk (w.alloc (.cells (fA 48 fun _ => 0) 28)) w.heap.size 28 (fA 48 fun _ => 0) := Blk.new _ _ _
  have hb : Below w.heap.size w (w.alloc (.cells (fA 48 fun _ => 0) 28)) := (by repeat (first | assumption | exact Below.refl _ _ | refine bDrew ?_ _ | refine Below.alloc ?_ (by first | omega | (simp; done) | (simp; omega)) _ | refine Below.setCell ?_ (by first | omega | (simp; done) | (simp; omega)) _ | refine bRow ?_ (by first | omega | (simp; done) | (simp; omega)) _))
  cases hs : share (canon .f32 a) with
  | false =>
    have hm : mirrorRes (canon .f32 a) = (fun _ => canon .f32 0, 2) := by unfold mirrorRes; rw [hs]; rfl
    rw [hm]
    clear hm
    unfold share at hs
    rw [Bool.and_eq_false_iff, ← o_ge, ← o_le] at hs
    cases h1 : (FloatKind.f32.format.order a 0 == some .gt || FloatKind.f32.format.order a 0 == some .eq) with
    | false =>
      clear hs
      go_enter Try.func58, Try.ntmps58
      go_wp2_with (first | (refine wpList_build_as rfl 28 _ rfl (fA 48 fun _ => 0) (by kernel_rfl) ?_) | (refine wpList_store_row rfl 28 _ _ rfl _ _ rfl rfl _ _ hZ (by kernel_rfl) (by simp only [size_fA]) (all_fA _ _) ?_))
      exact bodyPost_ret (results_cell_row2 rfl _ _ w.heap.size _ _ _ _ rfl hZ.setRow Try.underlying28 rfl (by kernel_rfl)) rfl ⟨_, rfl, fun _ _ => rfl, (by repeat (first | assumption | exact Below.refl _ _ | refine bDrew ?_ _ | refine Below.alloc ?_ (by first | omega | (simp; done) | (simp; omega)) _ | refine Below.setCell ?_ (by first | omega | (simp; done) | (simp; omega)) _ | refine bRow ?_ (by first | omega | (simp; done) | (simp; omega)) _))⟩
    | true =>
      have h2 : (FloatKind.f32.format.order a 1065353216 == some .lt || FloatKind.f32.format.order a 1065353216 == some .eq) = false := by
        rcases hs with h | h
        · rw [h1] at h; cases h
        · exact h
      clear hs
      go_enter Try.func58, Try.ntmps58
      go_wp2_with (first | (refine wpList_build_as rfl 28 _ rfl (fA 48 fun _ => 0) (by kernel_rfl) ?_) | (refine wpList_store_row rfl 28 _ _ rfl _ _ rfl rfl _ _ hZ (by kernel_rfl) (by simp only [size_fA]) (all_fA _ _) ?_))
      exact bodyPost_ret (results_cell_row2 rfl _ _ w.heap.size _ _ _ _ rfl hZ.setRow Try.underlying28 rfl (by kernel_rfl)) rfl ⟨_, rfl, fun _ _ => rfl, (by repeat (first | assumption | exact Below.refl _ _ | refine bDrew ?_ _ | refine Below.alloc ?_ (by first | omega | (simp; done) | (simp; omega)) _ | refine Below.setCell ?_ (by first | omega | (simp; done) | (simp; omega)) _ | refine bRow ?_ (by first | omega | (simp; done) | (simp; omega)) _))⟩
  | true =>
    have hm : mirrorRes (canon .f32 a) = (fun i => if i < 32 then canon .f32 a else fsub (canon .f32 1065353216) (canon .f32 a), 0) := by unfold mirrorRes; rw [hs]; rfl
    rw [hm]
    clear hm
    unfold share at hs
    rw [Bool.and_eq_true, ← o_ge, ← o_le] at hs
    obtain ⟨h1, h2⟩ := hs
    go_enter Try.func58, Try.ntmps58
    go_wp2_with fail
    refine (l01Flat_any a (w.alloc (.cells (fA 48 fun _ => 0) 28))).mono ?_
    rintro e w2 ⟨r0, rfl, hr, hb1⟩
    have hZ := hZ.below hb1 hZ.lt
    have hb := bCall hb hb1 hb.size
    have H0 := Lib.hid hr
    clear hr hb1
    go_wp2_with fail
    refine (l01Flat_any a w2).mono ?_
    rintro e w3 ⟨r1, rfl, hr, hb1⟩
    have hZ := hZ.below hb1 hZ.lt
    have hb := bCall hb hb1 hb.size
    have H1 := Lib.hid hr
    clear hr hb1
    go_wp2_with fail
    refine (l01Flat_any _ _).mono ?_
    rintro e w4 ⟨r2, rfl, hr, hb1⟩
    have hZ := (Blk.drewN hZ _).below hb1 hZ.lt
    have hb := bCall (bDrew hb _) hb1 hb.size
    rw [c_sub] at hr
    have H2 := Lib.hid hr
    clear hr hb1
    go_wp2_with (first | (refine wpList_build_as rfl 28 _ rfl (fA 48 (film3 r0 r1 r2)) (by kernel_rfl) ?_) | (refine wpList_store_row rfl 28 _ _ rfl _ _ rfl rfl _ _ hZ (by kernel_rfl) (by simp only [size_fA]) (all_fA _ _) ?_))
    exact bodyPost_ret (results_cell_row2 rfl _ _ w.heap.size _ _ _ _ rfl hZ.setRow Try.underlying28 rfl (by kernel_rfl)) rfl ⟨_, rfl, film3_at H0.out H1.out H2.out, (by repeat (first | assumption | exact Below.refl _ _ | refine bDrew ?_ _ | refine Below.alloc ?_ (by first | omega | (simp; done) | (simp; omega)) _ | refine Below.setCell ?_ (by first | omega | (simp; done) | (simp; omega)) _ | refine bRow ?_ (by first | omega | (simp; done) | (simp; omega)) _))⟩
end Go.Proofs.Ytfpjiclkhjdihaa

namespace Go.Proofs.Ytfpjiclkhjdihaa
open Go.RowKit
set_option maxRecDepth 100000

theorem RetCC.as {n : Nat} {w : World} {p : Nat → Option Nat} {c : Int} {q : (Nat → Option Nat) × Int} {e : Ending} {w' : World} (h : q = (p, c)) (hr : RetCC n w p c e w') : RetCC n w q.1 q.2 e w' := by subst h; exact hr

theorem iTurnFilm_any (f : Nat → Nat) (w : World) : Calls Try.prog 12 #[.agg (fA 48 f)] w (RetCC 48 w (turnRes f).1 (turnRes f).2) := by
  have hA : Blk ((w.alloc (.cells (fA 48 f) 28)).alloc (.cells (fA 48 fun _ => 0) 28)) w.heap.size 28 (fA 48 f) := (Blk.new _ _ _).alloc _
  have hZ : Blk ((w.alloc (.cells (fA 48 f) 28)).alloc (.cells (fA 48 fun _ => 0) 28)) (w.heap.size + 1) 28 (fA 48 fun _ => 0) := Blk.new_at _ _ (by simp) rfl
  have hb : Below w.heap.size w ((w.alloc (.cells (fA 48 f) 28)).alloc (.cells (fA 48 fun _ => 0) 28)) := (by repeat (first | assumption | exact Below.refl _ _ | refine bDrew ?_ _ | refine Below.alloc ?_ (by first | omega | (simp; done) | (simp; omega)) _ | refine Below.setCell ?_ (by first | omega | (simp; done) | (simp; omega)) _ | refine bRow ?_ (by first | omega | (simp; done) | (simp; omega)) _))
  go_enter Try.func12, Try.ntmps12
  go_wp2_with (refine wpList_load_row rfl 28 _ rfl _ rfl _ _ (0, 0) _ hA Try.underlying28 rfl (by kernel_rfl) ?_)
  refine (iValidFilm_any f ((w.alloc (.cells (fA 48 f) 28)).alloc (.cells (fA 48 fun _ => 0) 28))).mono ?_
  rintro e w1 ⟨rfl, hb1⟩
  have hA := hA.below hb1 hA.lt
  have hZ := hZ.below hb1 hZ.lt
  have hb := bCall hb hb1 hb.size
  clear hb1
  cases hs : filmOk f with
  | false =>
    have hm : turnRes f = (fun _ => canon .f32 0, 1) := by unfold turnRes; rw [hs]; rfl
    have Hm := Lib.hid hm
    clear hm hs
    go_wp2_with (first | (refine wpList_build_as rfl 28 _ rfl (fA 48 fun _ => 0) (by kernel_rfl) ?_) | (refine wpList_store_row rfl 28 _ _ rfl _ _ rfl rfl _ _ hZ (by kernel_rfl) (by simp only [size_fA]) (all_fA _ _) ?_))
    exact bodyPost_ret (results_cell_row2 rfl _ _ (w.heap.size + 1) _ _ _ _ rfl hZ.setRow Try.underlying28 rfl (by kernel_rfl)) rfl (RetCC.as Hm.out ⟨_, rfl, fun _ _ => rfl, (by repeat (first | assumption | exact Below.refl _ _ | refine bDrew ?_ _ | refine Below.alloc ?_ (by first | omega | (simp; done) | (simp; omega)) _ | refine Below.setCell ?_ (by first | omega | (simp; done) | (simp; omega)) _ | refine bRow ?_ (by first | omega | (simp; done) | (simp; omega)) _))⟩)
  | true =>
    have hm : turnRes f = (fun i => canon .f32 (film3 (rowAt f 16) (rowAt f 0) (rowAt f 32) i), 0) := by unfold turnRes; rw [hs]; rfl
    have Hm := Lib.hid hm
    clear hm hs
    go_wp2_with (first | (refine wpList_load_part rfl 26 _ rfl 16 16 hA rfl (by decide) Try.underlying26 rfl (by kernel_rfl) ?_) | (refine wpList_load_part rfl 26 _ rfl 0 16 hA rfl (by decide) Try.underlying26 rfl (by kernel_rfl) ?_) | (refine wpList_load_part rfl 26 _ rfl 32 16 hA rfl (by decide) Try.underlying26 rfl (by kernel_rfl) ?_) | (refine wpList_build_as rfl 28 _ rfl (fA 48 (film3 (rowAt f 16) (rowAt f 0) (rowAt f 32))) (by kernel_rfl) ?_) | (refine wpList_store_row rfl 28 _ _ rfl _ _ rfl rfl _ _ hZ (by kernel_rfl) (by simp only [size_fA]) (all_fA _ _) ?_))
    exact bodyPost_ret (results_cell_row2 rfl _ _ (w.heap.size + 1) _ _ _ _ rfl hZ.setRow Try.underlying28 rfl (by kernel_rfl)) rfl (RetCC.as Hm.out ⟨_, rfl, fun _ _ => rfl, (by repeat (first | assumption | exact Below.refl _ _ | refine bDrew ?_ _ | refine Below.alloc ?_ (by first | omega | (simp; done) | (simp; omega)) _ | refine Below.setCell ?_ (by first | omega | (simp; done) | (simp; omega)) _ | refine bRow ?_ (by first | omega | (simp; done) | (simp; omega)) _))⟩)
theorem iLayerOf_any (k s : Nat → Nat) (x : Nat) (w : World) : Calls Try.prog 21 #[.agg (fA 16 k), .agg (fA 16 s), .float .f32 x] w (RetCC 33 w (layerRes k s x).1 (layerRes k s x).2) := by
  have hK : Blk (((w.alloc (.cells (fA 16 k) 26)).alloc (.cells (fA 16 s) 26)).alloc (.cells (fA 33 fun _ => 0) 41)) w.heap.size 26 (fA 16 k) := ((Blk.new _ _ _).alloc _).alloc _
  have hS : Blk (((w.alloc (.cells (fA 16 k) 26)).alloc (.cells (fA 16 s) 26)).alloc (.cells (fA 33 fun _ => 0) 41)) (w.heap.size + 1) 26 (fA 16 s) := (Blk.new_at _ _ (by simp) rfl).alloc _
  have hZ0 : Blk ((((w.alloc (.cells (fA 16 k) 26)).alloc (.cells (fA 16 s) 26)).alloc (.cells (fA 33 fun _ => 0) 41)).alloc (.cells (fA 33 fun _ => 0) 41)) (w.heap.size + 1 + 1) 41 (fA 33 fun _ => 0) := (Blk.new_at _ _ (by simp) rfl).alloc _
  have hX0 : Blk ((((w.alloc (.cells (fA 16 k) 26)).alloc (.cells (fA 16 s) 26)).alloc (.cells (fA 33 fun _ => 0) 41)).alloc (.cells (fA 33 fun _ => 0) 41)) (w.heap.size + 1 + 1 + 1) 41 (fA 33 fun _ => 0) := Blk.new_at _ _ (by simp) rfl
  have hZ : Blk (((((w.alloc (.cells (fA 16 k) 26)).alloc (.cells (fA 16 s) 26)).alloc (.cells (fA 33 fun _ => 0) 41)).alloc (.cells (fA 33 fun _ => 0) 41)).setRow (w.heap.size + 1 + 1 + 1) (fA 33 (layer3 k s x))) (w.heap.size + 1 + 1) 41 (fA 33 fun _ => 0) := hZ0.farRow (by omega)
  have hX : Blk (((((w.alloc (.cells (fA 16 k) 26)).alloc (.cells (fA 16 s) 26)).alloc (.cells (fA 33 fun _ => 0) 41)).alloc (.cells (fA 33 fun _ => 0) 41)).setRow (w.heap.size + 1 + 1 + 1) (fA 33 (layer3 k s x))) (w.heap.size + 1 + 1 + 1) 41 (fA 33 (layer3 k s x)) := hX0.setRow
  have hb : Below w.heap.size w (((((w.alloc (.cells (fA 16 k) 26)).alloc (.cells (fA 16 s) 26)).alloc (.cells (fA 33 fun _ => 0) 41)).alloc (.cells (fA 33 fun _ => 0) 41)).setRow (w.heap.size + 1 + 1 + 1) (fA 33 (layer3 k s x))) := (by repeat (first | assumption | exact Below.refl _ _ | refine bDrew ?_ _ | refine Below.alloc ?_ (by first | omega | (simp; done) | (simp; omega)) _ | refine Below.setCell ?_ (by first | omega | (simp; done) | (simp; omega)) _ | refine bRow ?_ (by first | omega | (simp; done) | (simp; omega)) _))
  go_enter Try.func21, Try.ntmps21
  go_wp2_with (first | (refine wpList_load_row rfl 26 _ rfl _ rfl _ _ (0, 0) _ hK Try.underlying26 rfl (by kernel_rfl) ?_) | (refine wpList_load_row rfl 26 _ rfl _ rfl _ _ (0, 0) _ hS Try.underlying26 rfl (by kernel_rfl) ?_) | (refine wpList_build_as rfl 41 _ rfl (fA 33 (layer3 k s x)) (by kernel_rfl) ?_) | (refine wpList_store_row rfl 41 _ _ rfl _ _ rfl rfl _ _ hX0 (by kernel_rfl) (by simp only [size_fA]) (all_fA _ _) ?_) | (refine wpList_load_row rfl 41 _ rfl _ rfl _ _ (0, 0) _ hX Try.underlying41 rfl (by kernel_rfl) ?_))
  refine (iValidLayer_any (layer3 k s x) (((((w.alloc (.cells (fA 16 k) 26)).alloc (.cells (fA 16 s) 26)).alloc (.cells (fA 33 fun _ => 0) 41)).alloc (.cells (fA 33 fun _ => 0) 41)).setRow (w.heap.size + 1 + 1 + 1) (fA 33 (layer3 k s x)))).mono ?_
  rintro e w1 ⟨rfl, hb1⟩
  have hZ := hZ.below hb1 hZ.lt
  have hX := hX.below hb1 hX.lt
  have hb := bCall hb hb1 hb.size
  clear hb1 hK hS hZ0 hX0
  cases hs : layerOk (layer3 k s x) with
  | false =>
    have hm : layerRes k s x = (fun _ => canon .f32 0, 1) := by unfold layerRes; rw [hs]; rfl
    have Hm := Lib.hid hm
    clear hm hs
    go_wp2_with (first | (refine wpList_build_as rfl 41 _ rfl (fA 33 fun _ => 0) (by kernel_rfl) ?_) | (refine wpList_store_row rfl 41 _ _ rfl _ _ rfl rfl _ _ hZ (by kernel_rfl) (by simp only [size_fA]) (all_fA _ _) ?_))
    exact bodyPost_ret (results_cell_row2 rfl _ _ (w.heap.size + 1 + 1) _ _ _ _ rfl hZ.setRow Try.underlying41 rfl (by kernel_rfl)) rfl (RetCC.as Hm.out ⟨_, rfl, fun _ _ => rfl, (by repeat (first | assumption | exact Below.refl _ _ | refine bDrew ?_ _ | refine Below.alloc ?_ (by first | omega | (simp; done) | (simp; omega)) _ | refine Below.setCell ?_ (by first | omega | (simp; done) | (simp; omega)) _ | refine bRow ?_ (by first | omega | (simp; done) | (simp; omega)) _))⟩)
  | true =>
    have hm : layerRes k s x = (fun i => canon .f32 (layer3 k s x i), 0) := by unfold layerRes; rw [hs]; rfl
    have Hm := Lib.hid hm
    clear hm hs
    go_wp2_with (first | (refine wpList_load_row rfl 41 _ rfl _ rfl _ _ (0, 0) _ hX Try.underlying41 rfl (by kernel_rfl) ?_) | (refine wpList_store_row rfl 41 _ _ rfl _ _ rfl rfl _ _ hZ (by kernel_rfl) (by simp only [size_fA]) (all_fA _ _) ?_))
    exact bodyPost_ret (results_cell_row2 rfl _ _ (w.heap.size + 1 + 1) _ _ _ _ rfl hZ.setRow Try.underlying41 rfl (by kernel_rfl)) rfl (RetCC.as Hm.out ⟨_, rfl, fun _ _ => rfl, (by repeat (first | assumption | exact Below.refl _ _ | refine bDrew ?_ _ | refine Below.alloc ?_ (by first | omega | (simp; done) | (simp; omega)) _ | refine Below.setCell ?_ (by first | omega | (simp; done) | (simp; omega)) _ | refine bRow ?_ (by first | omega | (simp; done) | (simp; omega)) _))⟩)
end Go.Proofs.Ytfpjiclkhjdihaa

namespace Go.Proofs.Ytfpjiclkhjdihaa
open Go.RowKit
set_option maxRecDepth 100000

def finRes (p : Nat → Option Nat) : (Nat → Option Nat) × Int := if allTo 16 fun i => fin (p i) then (p, 0) else (fun _ => canon .f32 0, 4)
theorem finRes_congr {w : World} {p q : Nat → Option Nat} {e : Ending} {w' : World} (h : ∀ i, i < 16 → p i = q i) (hr : RetCC 16 w (finRes p).1 (finRes p).2 e w') : RetCC 16 w (finRes q).1 (finRes q).2 e w' := by
  have ha : (allTo 16 fun i => fin (p i)) = allTo 16 fun i => fin (q i) := allTo_congr fun i hi => by rw [h i hi]
  unfold finRes at hr ⊢
  rw [ha] at hr
  cases hq : (allTo 16 fun i => fin (q i)) with
  | false => rw [hq] at hr; exact hr
  | true =>
    rw [hq] at hr
    obtain ⟨r, h1, h2, h3⟩ := hr
    exact ⟨r, h1, fun i hi => (h2 i hi).trans (h i hi), h3⟩
theorem RetCC.in {n : Nat} {w w1 w' : World} {p : Nat → Option Nat} {c : Int} {e : Ending} (hb : Below w.heap.size w w1) (h : RetCC n w1 p c e w') : RetCC n w p c e w' := by
  obtain ⟨r, h1, h2, h3⟩ := h
  exact ⟨r, h1, h2, bCall hb h3 hb.size⟩

theorem finiteCurve_any (c : Nat → Nat) (w : World) : Calls Try.prog 69 #[.agg (fA 16 c)] w (RetCC 16 w (finRes fun i => canon .f32 (c i)).1 (finRes fun i => canon .f32 (c i)).2) := by
  have hA : Blk ((w.alloc (.cells (fA 16 c) 26)).alloc (.cells (fA 16 fun _ => 0) 26)) w.heap.size 26 (fA 16 c) := (Blk.new _ _ _).alloc _
  have hZ : Blk ((w.alloc (.cells (fA 16 c) 26)).alloc (.cells (fA 16 fun _ => 0) 26)) (w.heap.size + 1) 26 (fA 16 fun _ => 0) := Blk.new_at _ _ (by simp) rfl
  have hb : Below w.heap.size w ((w.alloc (.cells (fA 16 c) 26)).alloc (.cells (fA 16 fun _ => 0) 26)) := (by repeat (first | assumption | exact Below.refl _ _ | refine bDrew ?_ _ | refine Below.alloc ?_ (by first | omega | (simp; done) | (simp; omega)) _ | refine Below.setCell ?_ (by first | omega | (simp; done) | (simp; omega)) _ | refine bRow ?_ (by first | omega | (simp; done) | (simp; omega)) _))
  go_enter Try.func69, Try.ntmps69
  go_wp2_with (refine wpList_load_row rfl 26 _ rfl _ rfl _ _ (0, 0) _ hA Try.underlying26 rfl (by kernel_rfl) ?_)
  refine (iIsFiniteCurve_any c ((w.alloc (.cells (fA 16 c) 26)).alloc (.cells (fA 16 fun _ => 0) 26))).mono ?_
  rintro e w1 ⟨rfl, hb1⟩
  have hA := hA.below hb1 hA.lt
  have hZ := hZ.below hb1 hZ.lt
  have hb := bCall hb hb1 hb.size
  clear hb1
  cases hs : (allTo 16 fun i => fin (canon .f32 (c i))) with
  | false =>
    have Hm : Hid ((finRes fun i => canon .f32 (c i)) = (fun _ => canon .f32 0, 4)) := Lib.hid (by unfold finRes; rw [hs]; rfl)
    clear hs
    go_wp2_with (first | (refine wpList_build_as rfl 26 _ rfl (fA 16 fun _ => 0) (by kernel_rfl) ?_) | (refine wpList_store_row rfl 26 _ _ rfl _ _ rfl rfl _ _ hZ (by kernel_rfl) (by simp only [size_fA]) (all_fA _ _) ?_))
    exact bodyPost_ret (results_cell_row2 rfl _ _ (w.heap.size + 1) _ _ _ _ rfl hZ.setRow Try.underlying26 rfl (by kernel_rfl)) rfl (RetCC.as Hm.out ⟨_, rfl, fun _ _ => rfl, (by repeat (first | assumption | exact Below.refl _ _ | refine bDrew ?_ _ | refine Below.alloc ?_ (by first | omega | (simp; done) | (simp; omega)) _ | refine Below.setCell ?_ (by first | omega | (simp; done) | (simp; omega)) _ | refine bRow ?_ (by first | omega | (simp; done) | (simp; omega)) _))⟩)
  | true =>
    have Hm : Hid ((finRes fun i => canon .f32 (c i)) = (fun i => canon .f32 (c i), 0)) := Lib.hid (by unfold finRes; rw [hs]; rfl)
    clear hs
    go_wp2_with (first | (refine wpList_load_row rfl 26 _ rfl _ rfl _ _ (0, 0) _ hA Try.underlying26 rfl (by kernel_rfl) ?_) | (refine wpList_store_row rfl 26 _ _ rfl _ _ rfl rfl _ _ hZ (by kernel_rfl) (by simp only [size_fA]) (all_fA _ _) ?_))
    exact bodyPost_ret (results_cell_row2 rfl _ _ (w.heap.size + 1) _ _ _ _ rfl hZ.setRow Try.underlying26 rfl (by kernel_rfl)) rfl (RetCC.as Hm.out ⟨_, rfl, fun _ _ => rfl, (by repeat (first | assumption | exact Below.refl _ _ | refine bDrew ?_ _ | refine Below.alloc ?_ (by first | omega | (simp; done) | (simp; omega)) _ | refine Below.setCell ?_ (by first | omega | (simp; done) | (simp; omega)) _ | refine bRow ?_ (by first | omega | (simp; done) | (simp; omega)) _))⟩)
theorem l02Curve_any (c : Nat → Nat) (w : World) : Calls Try.prog 70 #[.agg (fA 16 c)] w (RetCC 16 w (finRes fun i => canon .f32 (c i)).1 (finRes fun i => canon .f32 (c i)).2) := by
  have hA : Blk ((w.alloc (.cells (fA 16 c) 26)).alloc (.cells (fA 16 fun _ => 0) 26)) w.heap.size 26 (fA 16 c) := (Blk.new _ _ _).alloc _
  have hZ : Blk ((w.alloc (.cells (fA 16 c) 26)).alloc (.cells (fA 16 fun _ => 0) 26)) (w.heap.size + 1) 26 (fA 16 fun _ => 0) := Blk.new_at _ _ (by simp) rfl
  have hb : Below w.heap.size w ((w.alloc (.cells (fA 16 c) 26)).alloc (.cells (fA 16 fun _ => 0) 26)) := (by repeat (first | assumption | exact Below.refl _ _ | refine bDrew ?_ _ | refine Below.alloc ?_ (by first | omega | (simp; done) | (simp; omega)) _ | refine Below.setCell ?_ (by first | omega | (simp; done) | (simp; omega)) _ | refine bRow ?_ (by first | omega | (simp; done) | (simp; omega)) _))
  go_enter Try.func70, Try.ntmps70
  go_wp2_with (refine wpList_load_row rfl 26 _ rfl _ rfl _ _ (0, 0) _ hA Try.underlying26 rfl (by kernel_rfl) ?_)
  refine (l01Curve_any c ((w.alloc (.cells (fA 16 c) 26)).alloc (.cells (fA 16 fun _ => 0) 26))).mono ?_
  rintro e w1 ⟨rfl, hb1⟩
  have hA := hA.below hb1 hA.lt
  have hZ := hZ.below hb1 hZ.lt
  have hb := bCall hb hb1 hb.size
  clear hb1
  cases hs : (allTo 16 fun i => fin (canon .f32 (c i))) with
  | false =>
    have Hm : Hid ((finRes fun i => canon .f32 (c i)) = (fun _ => canon .f32 0, 4)) := Lib.hid (by unfold finRes; rw [hs]; rfl)
    clear hs
    go_wp2_with (first | (refine wpList_build_as rfl 26 _ rfl (fA 16 fun _ => 0) (by kernel_rfl) ?_) | (refine wpList_store_row rfl 26 _ _ rfl _ _ rfl rfl _ _ hZ (by kernel_rfl) (by simp only [size_fA]) (all_fA _ _) ?_))
    exact bodyPost_ret (results_cell_row2 rfl _ _ (w.heap.size + 1) _ _ _ _ rfl hZ.setRow Try.underlying26 rfl (by kernel_rfl)) rfl (RetCC.as Hm.out ⟨_, rfl, fun _ _ => rfl, (by repeat (first | assumption | exact Below.refl _ _ | refine bDrew ?_ _ | refine Below.alloc ?_ (by first | omega | (simp; done) | (simp; omega)) _ | refine Below.setCell ?_ (by first | omega | (simp; done) | (simp; omega)) _ | refine bRow ?_ (by first | omega | (simp; done) | (simp; omega)) _))⟩)
  | true =>
    have Hm : Hid ((finRes fun i => canon .f32 (c i)) = (fun i => canon .f32 (c i), 0)) := Lib.hid (by unfold finRes; rw [hs]; rfl)
    clear hs
    go_wp2_with (first | (refine wpList_load_row rfl 26 _ rfl _ rfl _ _ (0, 0) _ hA Try.underlying26 rfl (by kernel_rfl) ?_) | (refine wpList_store_row rfl 26 _ _ rfl _ _ rfl rfl _ _ hZ (by kernel_rfl) (by simp only [size_fA]) (all_fA _ _) ?_))
    exact bodyPost_ret (results_cell_row2 rfl _ _ (w.heap.size + 1) _ _ _ _ rfl hZ.setRow Try.underlying26 rfl (by kernel_rfl)) rfl (RetCC.as Hm.out ⟨_, rfl, fun _ _ => rfl, (by repeat (first | assumption | exact Below.refl _ _ | refine bDrew ?_ _ | refine Below.alloc ?_ (by first | omega | (simp; done) | (simp; omega)) _ | refine Below.setCell ?_ (by first | omega | (simp; done) | (simp; omega)) _ | refine bRow ?_ (by first | omega | (simp; done) | (simp; omega)) _))⟩)
def ratioAt (x y : Option Nat) : Option Nat := if feq x (canon .f32 0) then canon .f32 0 else fdiv x y
def ratioRes (c d : Nat → Option Nat) : (Nat → Option Nat) × Int :=
  if (allTo 16 fun i => amount (c i)) && (allTo 16 fun i => amount (d i)) then finRes (fun i => ratioAt (c i) (d i)) else (fun _ => canon .f32 0, 2)
end Go.Proofs.Ytfpjiclkhjdihaa

namespace Go.Proofs.Ytfpjiclkhjdihaa
open Go.RowKit
set_option maxRecDepth 100000

theorem rowAt_zero (d : Nat → Nat) : rowAt d 0 = d := funext fun j => by simp [rowAt]

end Go.Proofs.Ytfpjiclkhjdihaa
