/- Contracts: films and layers that are made: empty, mirrors, turned, out of curves; the sum of products. -/
import Derived.Test.YtghmonkoleegjaaCP
import Derived.Test.YtghmonkoleegjaaCH
namespace Go.Proofs.Ytghmonkoleegjaa
open Go.RowKit
set_option maxRecDepth 100000

theorem wpList_build_as {P : Program} {ops : Array Oper} {rest : List Oper} {o : Oper} {a : Act} {w : World} {Q : Exit → Act → World → Prop} (hg : o.guard = none) (t : TypeId) (parts : Array (Nat × Operand)) (ho : o.op = .build t parts)
    (cells : Array Value) (hc : P.built t (parts.map fun (i, x) => (i, a.eval x)).toList = some cells) (h : wpList P ops Q rest (a.put o.dst (.agg cells)) w) : wpList P ops Q (o :: rest) a w :=
  wpList_build hg t parts ho (by rw [hc]; rfl) (by rw [hc]; exact h)

/-- A film out of three curves; a layer out of two and a number. -/
def film3 (r b t : Nat → Nat) : Nat → Nat := fun j => if j < 16 then r j else if j < 32 then b (j - 16) else t (j - 32)
def layer3 (k s : Nat → Nat) (x : Nat) : Nat → Nat := fun j => if j < 16 then k j else if j < 32 then s (j - 16) else x
def emptyAt (i : Nat) : Option Nat := if i < 32 then canon .f32 0 else canon .f32 1065353216
def mirrorRes (x : Option Nat) : (Nat → Option Nat) × Int := if share x then (fun i => if i < 32 then x else fsub (canon .f32 1065353216) x, 0) else (fun _ => canon .f32 0, 2)
def turnRes (f : Nat → Nat) : (Nat → Option Nat) × Int := if filmOk f then (fun i => canon .f32 (film3 (rowAt f 16) (rowAt f 0) (rowAt f 32) i), 0) else (fun _ => canon .f32 0, 1)
def layerRes (k s : Nat → Nat) (x : Nat) : (Nat → Option Nat) × Int := if layerOk (layer3 k s x) then (fun i => canon .f32 (layer3 k s x i), 0) else (fun _ => canon .f32 0, 1)
theorem film3_at {r b t : Nat → Nat} {p q : Option Nat} (hr : ∀ i, i < 16 → canon .f32 (r i) = p) (hb : ∀ i, i < 16 → canon .f32 (b i) = p) (ht : ∀ i, i < 16 → canon .f32 (t i) = q) : ∀ i, i < 48 → canon .f32 (film3 r b t i) = if i < 32 then p else q := by
  intro i hi
  unfold film3
  by_cases h1 : i < 16
  · rw [if_pos h1, if_pos (by omega)]; exact hr i h1
  · by_cases h2 : i < 32
    · rw [if_neg h1, if_pos h2, if_pos h2]; exact hb _ (by omega)
    · rw [if_neg h1, if_neg h2, if_neg h2]; exact ht _ (by omega)

theorem l02Empty_any (w : World) : Calls Try.prog 29 #[] w (RetC 48 w emptyAt) := by
  have hZ : Blk (w.alloc (.cells (fA 48 fun _ => 0) 28)) w.heap.size 28 (fA 48 fun _ => 0) := Blk.new _ _ _
  have hb : Below w.heap.size w (w.alloc (.cells (fA 48 fun _ => 0) 28)) := (by repeat (first | assumption | exact Below.refl _ _ | refine bDrew ?_ _ | refine Below.alloc ?_ (by first | omega | (simp; done) | (simp; omega)) _ | refine Below.setCell ?_ (by first | omega | (simp; done) | (simp; omega)) _ | refine bRow ?_ (by first | omega | (simp; done) | (simp; omega)) _))
  go_enter Try.func29, Try.ntmps29
  go_wp2_with fail
  refine (l01Flat_any 1065353216 (w.alloc (.cells (fA 48 fun _ => 0) 28))).mono ?_
  rintro e w1 ⟨r0, rfl, hr, hb1⟩
  have hZ := hZ.below hb1 hZ.lt
  have hb := bCall hb hb1 hb.size
  have Hr := Lib.hid hr
  clear hr hb1
  go_wp2_with (first | (refine wpList_build_as rfl 28 _ rfl (fA 48 (film3 (fun _ => 0) (fun _ => 0) r0)) (by kernel_rfl) ?_) | (refine wpList_store_row rfl 28 _ _ rfl _ _ rfl rfl _ _ hZ (by kernel_rfl) (by simp only [size_fA]) (all_fA _ _) ?_))
  exact bodyPost_ret (results_cell_row rfl _ _ w.heap.size _ _ _ _ rfl hZ.setRow Try.underlying28 rfl (by kernel_rfl)) rfl ⟨_, rfl, film3_at (fun _ _ => rfl) (fun _ _ => rfl) Hr.out, (by repeat (first | assumption | exact Below.refl _ _ | refine bDrew ?_ _ | refine Below.alloc ?_ (by first | omega | (simp; done) | (simp; omega)) _ | refine Below.setCell ?_ (by first | omega | (simp; done) | (simp; omega)) _ | refine bRow ?_ (by first | omega | (simp; done) | (simp; omega)) _))⟩
theorem iEmptyFilm_any (w : World) : Calls Try.prog 36 #[] w (RetC 48 w emptyAt) := by
  have hZ : Blk (w.alloc (.cells (fA 48 fun _ => 0) 28)) w.heap.size 28 (fA 48 fun _ => 0) := Blk.new _ _ _
  have hb : Below w.heap.size w (w.alloc (.cells (fA 48 fun _ => 0) 28)) := (by repeat (first | assumption | exact Below.refl _ _ | refine bDrew ?_ _ | refine Below.alloc ?_ (by first | omega | (simp; done) | (simp; omega)) _ | refine Below.setCell ?_ (by first | omega | (simp; done) | (simp; omega)) _ | refine bRow ?_ (by first | omega | (simp; done) | (simp; omega)) _))
  go_enter Try.func36, Try.ntmps36
  go_wp2_with fail
  refine (iFlatCurve_any 1065353216 (w.alloc (.cells (fA 48 fun _ => 0) 28))).mono ?_
  rintro e w1 ⟨r0, rfl, hr, hb1⟩
  have hZ := hZ.below hb1 hZ.lt
  have hb := bCall hb hb1 hb.size
  have Hr := Lib.hid hr
  clear hr hb1
  go_wp2_with (first | (refine wpList_build_as rfl 28 _ rfl (fA 48 (film3 (fun _ => 0) (fun _ => 0) r0)) (by kernel_rfl) ?_) | (refine wpList_store_row rfl 28 _ _ rfl _ _ rfl rfl _ _ hZ (by kernel_rfl) (by simp only [size_fA]) (all_fA _ _) ?_))
  exact bodyPost_ret (results_cell_row rfl _ _ w.heap.size _ _ _ _ rfl hZ.setRow Try.underlying28 rfl (by kernel_rfl)) rfl ⟨_, rfl, film3_at (fun _ _ => rfl) (fun _ _ => rfl) Hr.out, (by repeat (first | assumption | exact Below.refl _ _ | refine bDrew ?_ _ | refine Below.alloc ?_ (by first | omega | (simp; done) | (simp; omega)) _ | refine Below.setCell ?_ (by first | omega | (simp; done) | (simp; omega)) _ | refine bRow ?_ (by first | omega | (simp; done) | (simp; omega)) _))⟩
end Go.Proofs.Ytghmonkoleegjaa
