/- Contracts: the program's curves by function values that hold what they captured; looks at rows. Contracts: sums of curves, sameness of curves, lights, names of codes. Contracts: films and layers that are made: empty, mirrors, turned, out of curves; the sum of products. Contracts: turned films, layers out of curves, sums of products. Contracts: a curve if it is finite; ratios. Contracts: curves of ratios. -/
import Derived.Test.YtafbolnkohebjaaGreatDoorCP
import Derived.Test.YtafbolnkohebjaaGreatDoorCA
namespace Go.Proofs.YtafbolnkohebjaaGreatDoor
open Go.RowKit
set_option maxRecDepth 100000

theorem flatOne_any (g a x : Nat) (w : World) (hg : w.cell? ⟨g, 0, none⟩ = some (.float .f32 a)) : Calls Tryz.prog 34 #[.float .f32 x, .pointer (some ⟨g, 0, none⟩)] w (RetFq w (canon .f32 a)) := by
  go_enter Tryz.func34, Tryz.ntmps34
  go_wp2
  go_ret
  exact ⟨_, rfl, rfl, 0, rfl⟩
theorem iFlatCurve_any (a : Nat) (w : World) : Calls Tryz.prog 11 #[.float .f32 a] w (RetC 16 w fun _ => canon .f32 a) := by
  go_enter Tryz.func11, Tryz.ntmps11
  go_wp2_with fail
  refine (each_any 34 #[.pointer (some ⟨w.heap.size, 0, none⟩)] (fun _ => canon .f32 a) (fun _ => 0) _ (fun _ _ => by kernel_rfl) (fun x w1 hb => (flatOne_any w.heap.size a x w1 (((Blk.below (t := 24) (cs := #[.float .f32 a]) (by first | assumption | (repeat (first | assumption | (apply Blk.new_at; (focus (simp; done)); rfl) | apply Blk.alloc | apply Blk.drewN))) hb (by first | omega | (simp; done) | (simp; omega))).cell 0).trans rfl)).mono fun _ _ h => h.to)).mono ?_
  rintro e w1 ⟨r, rfl, hr, hb⟩
  have hZ : Blk w1 (w.heap.size + 1) 26 (fA 16 fun _ => 0) := Blk.below (by first | assumption | (repeat (first | assumption | (apply Blk.new_at; (focus (simp; done)); rfl) | apply Blk.alloc | apply Blk.drewN))) hb (by first | omega | (simp; done) | (simp; omega))
  have hB : Below w.heap.size w w1 := bCall (by repeat (first | assumption | exact Below.refl _ _ | refine bDrew ?_ _ | refine Below.alloc ?_ (by first | omega | (simp; done) | (simp; omega)) _ | refine Below.setCell ?_ (by first | omega | (simp; done) | (simp; omega)) _ | refine bRow ?_ (by first | omega | (simp; done) | (simp; omega)) _)) hb (by first | omega | (simp; done) | (simp; omega))
  have Hr := Lib.hid hr
  clear hr
  go_wp2_with (refine wpList_store_row rfl 26 _ _ rfl _ _ rfl rfl _ _ (by first | assumption | (repeat (first | assumption | (apply Blk.new_at; (focus (simp; done)); rfl) | apply Blk.alloc | apply Blk.drewN))) (by kernel_rfl) (by simp only [size_fA]) (all_fA _ _) ?_)
  exact bodyPost_ret (results_cell_row rfl _ _ (w.heap.size + 1) _ _ _ _ rfl hZ.setRow Tryz.underlying26 rfl (by kernel_rfl)) rfl ⟨_, rfl, Hr.out, (by repeat (first | assumption | exact Below.refl _ _ | refine bDrew ?_ _ | refine Below.alloc ?_ (by first | omega | (simp; done) | (simp; omega)) _ | refine Below.setCell ?_ (by first | omega | (simp; done) | (simp; omega)) _ | refine bRow ?_ (by first | omega | (simp; done) | (simp; omega)) _))⟩
theorem scaleOne_any (g a x : Nat) (w : World) (hg : w.cell? ⟨g, 0, none⟩ = some (.float .f32 a)) : Calls Tryz.prog 39 #[.float .f32 x, .pointer (some ⟨g, 0, none⟩)] w (RetFq w (fmul (canon .f32 x) (canon .f32 a))) := by
  go_enter Tryz.func39, Tryz.ntmps39
  go_wp2_with fail
  refine (mul_any _ _ _).mono ?_
  rintro e w1 ⟨r, rfl, hr, n, rfl⟩
  have Hr := Lib.hid hr
  clear hr
  go_wp2
  go_ret
  exact ⟨_, rfl, Hr.out, _, rfl⟩
theorem iScaleCurve_any (c : Nat → Nat) (a : Nat) (w : World) : Calls Tryz.prog 15 #[.agg (fA 16 c), .float .f32 a] w (RetC 16 w fun i => fmul (canon .f32 (c i)) (canon .f32 a)) := by
  go_enter Tryz.func15, Tryz.ntmps15
  go_wp2_with (refine wpList_load_row rfl 26 _ rfl (w.heap.size) rfl 26 (fA 16 c) (0, 0) _ (((Blk.new w _ _).alloc _).alloc _) Tryz.underlying26 rfl (by kernel_rfl) ?_)
  refine (each_any 39 #[.pointer (some ⟨w.heap.size + 1, 0, none⟩)] (fun x => fmul x (canon .f32 a)) c _ (fun _ _ => by kernel_rfl) (fun x w1 hb => (scaleOne_any (w.heap.size + 1) a x w1 (((Blk.below (t := 24) (cs := #[.float .f32 a]) (by first | assumption | (repeat (first | assumption | (apply Blk.new_at; (focus (simp; done)); rfl) | apply Blk.alloc | apply Blk.drewN))) hb (by first | omega | (simp; done) | (simp; omega))).cell 0).trans rfl)).mono fun _ _ h => h.to)).mono ?_
  rintro e w1 ⟨r, rfl, hr, hb⟩
  have hZ : Blk w1 (w.heap.size + 1 + 1) 26 (fA 16 fun _ => 0) := Blk.below (by first | assumption | (repeat (first | assumption | (apply Blk.new_at; (focus (simp; done)); rfl) | apply Blk.alloc | apply Blk.drewN))) hb (by first | omega | (simp; done) | (simp; omega))
  have hB : Below w.heap.size w w1 := bCall (by repeat (first | assumption | exact Below.refl _ _ | refine bDrew ?_ _ | refine Below.alloc ?_ (by first | omega | (simp; done) | (simp; omega)) _ | refine Below.setCell ?_ (by first | omega | (simp; done) | (simp; omega)) _ | refine bRow ?_ (by first | omega | (simp; done) | (simp; omega)) _)) hb (by first | omega | (simp; done) | (simp; omega))
  have Hr := Lib.hid hr
  clear hr
  go_wp2_with (refine wpList_store_row rfl 26 _ _ rfl _ _ rfl rfl _ _ (by first | assumption | (repeat (first | assumption | (apply Blk.new_at; (focus (simp; done)); rfl) | apply Blk.alloc | apply Blk.drewN))) (by kernel_rfl) (by simp only [size_fA]) (all_fA _ _) ?_)
  exact bodyPost_ret (results_cell_row rfl _ _ (w.heap.size + 1 + 1) _ _ _ _ rfl hZ.setRow Tryz.underlying26 rfl (by kernel_rfl)) rfl ⟨_, rfl, Hr.out, (by repeat (first | assumption | exact Below.refl _ _ | refine bDrew ?_ _ | refine Below.alloc ?_ (by first | omega | (simp; done) | (simp; omega)) _ | refine Below.setCell ?_ (by first | omega | (simp; done) | (simp; omega)) _ | refine bRow ?_ (by first | omega | (simp; done) | (simp; omega)) _))⟩
theorem mixOne_any (g a x y : Nat) (w : World) (hg : w.cell? ⟨g, 0, none⟩ = some (.float .f32 a)) : Calls Tryz.prog 35 #[.float .f32 x, .float .f32 y, .pointer (some ⟨g, 0, none⟩)] w (RetFq w (mixOf (canon .f32 a) (canon .f32 x) (canon .f32 y))) := by
  go_enter Tryz.func35, Tryz.ntmps35
  go_wp2_with fail
  refine wp_region_loose_lit (fun w' => ∃ n, w' = w.drewN n) (GFF fmul) (by kernel_rfl) (by kernel_rfl) ⟨1, rfl⟩ ?_
  repeat (refine wpLoose_plain rfl (fun K hK w1 hw1 => ?_); obtain ⟨n, rfl⟩ := hw1; go_simp; refine ⟨⟨_, rfl⟩, hK _ ?_⟩; clear hK K)
  refine wpLoose_plain rfl (fun K hK w1 hw1 => ?_); obtain ⟨n1, rfl⟩ := hw1; go_simp
  refine ⟨⟨_, rfl⟩, (mul_any _ _ _).mono ?_, fun u hu => hK _ ?_⟩
  · rintro e w' ⟨r, rfl, hr, m, rfl⟩; exact ⟨_, rfl, .mk hr, _, by rw [World.drewN_drewN]⟩
  clear hK K
  obtain ⟨r1, rfl, Hr1⟩ := hu.inv
  clear hu
  repeat (refine wpLoose_plain rfl (fun K hK w1 hw1 => ?_); obtain ⟨n, rfl⟩ := hw1; go_simp; refine ⟨⟨_, rfl⟩, hK _ ?_⟩; clear hK K)
  refine wpLoose_plain rfl (fun K hK w1 hw1 => ?_); obtain ⟨n2, rfl⟩ := hw1; go_simp
  refine ⟨⟨_, rfl⟩, (mul_any _ _ _).mono ?_, fun u hu => hK _ ?_⟩
  · rintro e w' ⟨r, rfl, hr, m, rfl⟩; exact ⟨_, rfl, .mk hr, _, by rw [World.drewN_drewN]⟩
  clear hK K
  obtain ⟨r2, rfl, Hr2⟩ := hu.inv
  clear hu
  repeat (refine wpLoose_plain rfl (fun K hK w1 hw1 => ?_); obtain ⟨n, rfl⟩ := hw1; go_simp; refine ⟨⟨_, rfl⟩, hK _ ?_⟩; clear hK K)
  (refine wpLoose_nil ?_; intro _ hw'; obtain ⟨nq, rfl⟩ := hw')
  go_wp2
  go_ret
  exact ⟨_, rfl, by rw [c_add, Hr1.out, Hr2.out, c_sub]; rfl, _, rfl⟩
theorem iMixCurves_any (c d : Nat → Nat) (a : Nat) (w : World) : Calls Tryz.prog 12 #[.agg (fA 16 c), .agg (fA 16 d), .float .f32 a] w (RetC 16 w fun i => mixOf (canon .f32 a) (canon .f32 (c i)) (canon .f32 (d i))) := by
  have lc : Blk ((((w.alloc (.cells (fA 16 c) 26)).alloc (.cells (fA 16 d) 26)).alloc (.cells #[.float .f32 a] 24)).alloc (.cells (fA 16 fun _ => 0) 26)) w.heap.size 26 (fA 16 c) := (((Blk.new w _ _).alloc _).alloc _).alloc _
  have ld : Blk ((((w.alloc (.cells (fA 16 c) 26)).alloc (.cells (fA 16 d) 26)).alloc (.cells #[.float .f32 a] 24)).alloc (.cells (fA 16 fun _ => 0) 26)) (w.heap.size + 1) 26 (fA 16 d) := ((Blk.new_at _ _ (by simp) rfl).alloc _).alloc _
  go_enter Tryz.func12, Tryz.ntmps12
  go_wp2_with (refine wpList_load_row rfl 26 _ rfl _ rfl _ _ (0, 0) _ (by assumption) Tryz.underlying26 rfl (by kernel_rfl) ?_)
  refine (with_any 35 #[.pointer (some ⟨w.heap.size + 1 + 1, 0, none⟩)] (fun x y => mixOf (canon .f32 a) x y) c d _ (fun _ _ => by kernel_rfl) (fun x y w1 hb => (mixOne_any (w.heap.size + 1 + 1) a x y w1 (((Blk.below (t := 24) (cs := #[.float .f32 a]) (by first | assumption | (repeat (first | assumption | (apply Blk.new_at; (focus (simp; done)); rfl) | apply Blk.alloc | apply Blk.drewN))) hb (by first | omega | (simp; done) | (simp; omega))).cell 0).trans rfl)).mono fun _ _ h => h.to)).mono ?_
  rintro e w1 ⟨r, rfl, hr, hb⟩
  have hZ : Blk w1 (w.heap.size + 1 + 1 + 1) 26 (fA 16 fun _ => 0) := Blk.below (by first | assumption | (repeat (first | assumption | (apply Blk.new_at; (focus (simp; done)); rfl) | apply Blk.alloc | apply Blk.drewN))) hb (by first | omega | (simp; done) | (simp; omega))
  have hB : Below w.heap.size w w1 := bCall (by repeat (first | assumption | exact Below.refl _ _ | refine bDrew ?_ _ | refine Below.alloc ?_ (by first | omega | (simp; done) | (simp; omega)) _ | refine Below.setCell ?_ (by first | omega | (simp; done) | (simp; omega)) _ | refine bRow ?_ (by first | omega | (simp; done) | (simp; omega)) _)) hb (by first | omega | (simp; done) | (simp; omega))
  have Hr := Lib.hid hr
  clear hr
  go_wp2_with (refine wpList_store_row rfl 26 _ _ rfl _ _ rfl rfl _ _ (by first | assumption | (repeat (first | assumption | (apply Blk.new_at; (focus (simp; done)); rfl) | apply Blk.alloc | apply Blk.drewN))) (by kernel_rfl) (by simp only [size_fA]) (all_fA _ _) ?_)
  exact bodyPost_ret (results_cell_row rfl _ _ (w.heap.size + 1 + 1 + 1) _ _ _ _ rfl hZ.setRow Tryz.underlying26 rfl (by kernel_rfl)) rfl ⟨_, rfl, Hr.out, (by repeat (first | assumption | exact Below.refl _ _ | refine bDrew ?_ _ | refine Below.alloc ?_ (by first | omega | (simp; done) | (simp; omega)) _ | refine Below.setCell ?_ (by first | omega | (simp; done) | (simp; omega)) _ | refine bRow ?_ (by first | omega | (simp; done) | (simp; omega)) _))⟩
end Go.Proofs.YtafbolnkohebjaaGreatDoor

namespace Go.Proofs.YtafbolnkohebjaaGreatDoor
open Go.RowKit
set_option maxRecDepth 100000

theorem iSumOfCurve_any (c : Nat → Nat) (w : World) : Calls Tryz.prog 8 #[.agg (fA 16 c)] w (RetF w (fsumTo (fun i => canon .f32 (c i)) 16)) := by
  have hsl : ∀ (g : Nat) (w : World), (Instr.sliceAt 26 (.pointer (some ⟨g, 0, none⟩)) none none none).run Tryz.prog w = .ok (.slice (some ⟨g, 0, none⟩) 16 16) w := fun _ _ => by kernel_rfl
  go_enter Tryz.func8, Tryz.ntmps8
  go_wp2_with fail
  refine (sum_any _ 16 _ c _ (Blk.new w _ _) (by omega)).mono ?_
  rintro e w1 ⟨r, rfl, hr, n, rfl⟩
  have Hr := Lib.hid hr
  clear hr
  go_wp2
  go_ret
  exact ⟨_, rfl, Hr.out, (by repeat (first | assumption | exact Below.refl _ _ | refine bDrew ?_ _ | refine Below.alloc ?_ (by first | omega | (simp; done) | (simp; omega)) _ | refine Below.setCell ?_ (by first | omega | (simp; done) | (simp; omega)) _ | refine bRow ?_ (by first | omega | (simp; done) | (simp; omega)) _))⟩
end Go.Proofs.YtafbolnkohebjaaGreatDoor

namespace Go.Proofs.YtafbolnkohebjaaGreatDoor
open Go.RowKit
set_option maxRecDepth 100000

theorem wpList_build_as {P : Program} {ops : Array Oper} {rest : List Oper} {o : Oper} {a : Act} {w : World} {Q : Exit → Act → World → Prop} (hg : o.guard = none) (t : TypeId) (parts : Array (Nat × Operand)) (ho : o.op = .build t parts)
    (cells : Array Value) (hc : P.built t (parts.map fun (i, x) => (i, a.eval x)).toList = some cells) (h : wpList P ops Q rest (a.put o.dst (.agg cells)) w) : wpList P ops Q (o :: rest) a w :=
  wpList_build hg t parts ho (by rw [hc]; rfl) (by rw [hc]; exact h)

/-- A film out of three curves; a layer out of two and a number. -/
def film3 (r b t : Nat → Nat) : Nat → Nat := fun j => if j < 16 then r j else if j < 32 then b (j - 16) else t (j - 32)
def layer3 (k s : Nat → Nat) (x : Nat) : Nat → Nat := fun j => if j < 16 then k j else if j < 32 then s (j - 16) else x
def emptyAt (i : Nat) : Option Nat := if i < 32 then canon .f32 0 else canon .f32 1065353216
def mirrorRes (x : Option Nat) : (Nat → Option Nat) × Int := if share x then (fun i => if i < 32 then x else fsub (canon .f32 1065353216) x, 0) else (fun _ => canon .f32 0, 2)
def turnRes (f : Nat → Nat) : (Nat → Option Nat) × Int := if filmOk f then (fun i => canon .f32 (film3 (rowAt f 16) (rowAt f 0) (rowAt f 32) i), 0) else (fun _ => canon .f32 0, 1)
def layerRes (k s : Nat → Nat) (x : Nat) : (Nat → Option Nat) × Int := if layerOk (layer3 k s x) then (fun i => canon .f32 (layer3 k s x i), 0) else (fun _ => canon .f32 0, 1)
theorem film3_at {r b t : Nat → Nat} {p q : Option Nat} (hr : ∀ i, i < 16 → canon .f32 (r i) = p) (hb : ∀ i, i < 16 → canon .f32 (b i) = p) (ht : ∀ i, i < 16 → canon .f32 (t i) = q) : ∀ i, i < 48 → canon .f32 (film3 r b t i) = if i < 32 then p else q := by
  intro i hi
  unfold film3
  by_cases h1 : i < 16
  · rw [if_pos h1, if_pos (by omega)]; exact hr i h1
  · by_cases h2 : i < 32
    · rw [if_neg h1, if_pos h2, if_pos h2]; exact hb _ (by omega)
    · rw [if_neg h1, if_neg h2, if_neg h2]; exact ht _ (by omega)

end Go.Proofs.YtafbolnkohebjaaGreatDoor

namespace Go.Proofs.YtafbolnkohebjaaGreatDoor
open Go.RowKit
set_option maxRecDepth 100000

theorem RetCC.as {n : Nat} {w : World} {p : Nat → Option Nat} {c : Int} {q : (Nat → Option Nat) × Int} {e : Ending} {w' : World} (h : q = (p, c)) (hr : RetCC n w p c e w') : RetCC n w q.1 q.2 e w' := by subst h; exact hr

theorem fsumTo_congr {p q : Nat → Option Nat} : ∀ {n : Nat}, (∀ i, i < n → p i = q i) → fsumTo p n = fsumTo q n
  | 0, _ => rfl
  | 1, h => h 0 (by omega)
  | n + 2, h => by
    show fadd (fsumTo p (n + 1)) (p (n + 1)) = fadd (fsumTo q (n + 1)) (q (n + 1))
    rw [fsumTo_congr (n := n + 1) fun i hi => h i (by omega), h (n + 1) (by omega)]
theorem iDotOfCurves_any (c d : Nat → Nat) (w : World) : Calls Tryz.prog 9 #[.agg (fA 16 c), .agg (fA 16 d)] w (RetF w (fsumTo (fun i => fmul (canon .f32 (c i)) (canon .f32 (d i))) 16)) := by
  have hC : Blk ((w.alloc (.cells (fA 16 c) 26)).alloc (.cells (fA 16 d) 26)) w.heap.size 26 (fA 16 c) := (Blk.new _ _ _).alloc _
  have hD : Blk ((w.alloc (.cells (fA 16 c) 26)).alloc (.cells (fA 16 d) 26)) (w.heap.size + 1) 26 (fA 16 d) := Blk.new_at _ _ (by simp) rfl
  have hb : Below w.heap.size w ((w.alloc (.cells (fA 16 c) 26)).alloc (.cells (fA 16 d) 26)) := (by repeat (first | assumption | exact Below.refl _ _ | refine bDrew ?_ _ | refine Below.alloc ?_ (by first | omega | (simp; done) | (simp; omega)) _ | refine Below.setCell ?_ (by first | omega | (simp; done) | (simp; omega)) _ | refine bRow ?_ (by first | omega | (simp; done) | (simp; omega)) _))
  go_enter Tryz.func9, Tryz.ntmps9
  go_wp2_with (first | (refine wpList_load_row rfl 26 _ rfl _ rfl _ _ (0, 0) _ hC Tryz.underlying26 rfl (by kernel_rfl) ?_) | (refine wpList_load_row rfl 26 _ rfl _ rfl _ _ (0, 0) _ hD Tryz.underlying26 rfl (by kernel_rfl) ?_))
  refine (iMulCurves_any c d _).mono ?_
  rintro e w1 ⟨r, rfl, hr, hb1⟩
  have hb := bCall hb hb1 hb.size
  have Hr := Lib.hid hr
  clear hr hb1
  go_wp2_with fail
  refine (iSumOfCurve_any r w1).mono ?_
  rintro e w2 ⟨q, rfl, hq, hb1⟩
  have Hq := Lib.hid hq
  clear hq
  go_wp2
  go_ret
  exact ⟨_, rfl, Hq.out.trans (fsumTo_congr Hr.out), bCall hb hb1 hb.size⟩
end Go.Proofs.YtafbolnkohebjaaGreatDoor

namespace Go.Proofs.YtafbolnkohebjaaGreatDoor
open Go.RowKit
set_option maxRecDepth 100000

def finRes (p : Nat → Option Nat) : (Nat → Option Nat) × Int := if allTo 16 fun i => fin (p i) then (p, 0) else (fun _ => canon .f32 0, 4)
theorem finRes_congr {w : World} {p q : Nat → Option Nat} {e : Ending} {w' : World} (h : ∀ i, i < 16 → p i = q i) (hr : RetCC 16 w (finRes p).1 (finRes p).2 e w') : RetCC 16 w (finRes q).1 (finRes q).2 e w' := by
  have ha : (allTo 16 fun i => fin (p i)) = allTo 16 fun i => fin (q i) := allTo_congr fun i hi => by rw [h i hi]
  unfold finRes at hr ⊢
  rw [ha] at hr
  cases hq : (allTo 16 fun i => fin (q i)) with
  | false => rw [hq] at hr; exact hr
  | true =>
    rw [hq] at hr
    obtain ⟨r, h1, h2, h3⟩ := hr
    exact ⟨r, h1, fun i hi => (h2 i hi).trans (h i hi), h3⟩
theorem RetCC.in {n : Nat} {w w1 w' : World} {p : Nat → Option Nat} {c : Int} {e : Ending} (hb : Below w.heap.size w w1) (h : RetCC n w1 p c e w') : RetCC n w p c e w' := by
  obtain ⟨r, h1, h2, h3⟩ := h
  exact ⟨r, h1, h2, bCall hb h3 hb.size⟩

def ratioAt (x y : Option Nat) : Option Nat := if feq x (canon .f32 0) then canon .f32 0 else fdiv x y
def ratioRes (c d : Nat → Option Nat) : (Nat → Option Nat) × Int :=
  if (allTo 16 fun i => amount (c i)) && (allTo 16 fun i => amount (d i)) then finRes (fun i => ratioAt (c i) (d i)) else (fun _ => canon .f32 0, 2)
end Go.Proofs.YtafbolnkohebjaaGreatDoor

namespace Go.Proofs.YtafbolnkohebjaaGreatDoor
open Go.RowKit
set_option maxRecDepth 100000

theorem rowAt_zero (d : Nat → Nat) : rowAt d 0 = d := funext fun j => by simp [rowAt]

end Go.Proofs.YtafbolnkohebjaaGreatDoor
