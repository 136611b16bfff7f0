/- Contracts: a curve if it is finite; ratios. -/
import Derived.Test.YtmikeegecifbfaaCR
namespace Go.Proofs.Ytmikeegecifbfaa
open Go.RowKit
set_option maxRecDepth 100000

def finRes (p : Nat → Option Nat) : (Nat → Option Nat) × Int := if allTo 16 fun i => fin (p i) then (p, 0) else (fun _ => canon .f32 0, 4)
theorem finRes_congr {w : World} {p q : Nat → Option Nat} {e : Ending} {w' : World} (h : ∀ i, i < 16 → p i = q i) (hr : RetCC 16 w (finRes p).1 (finRes p).2 e w') : RetCC 16 w (finRes q).1 (finRes q).2 e w' := by
  have ha : (allTo 16 fun i => fin (p i)) = allTo 16 fun i => fin (q i) := allTo_congr fun i hi => by rw [h i hi]
  unfold finRes at hr ⊢
  rw [ha] at hr
  cases hq : (allTo 16 fun i => fin (q i)) with
  | false => rw [hq] at hr; exact hr
  | true =>
    rw [hq] at hr
    obtain ⟨r, h1, h2, h3⟩ := hr
    exact ⟨r, h1, fun i hi => (h2 i hi).trans (h i hi), h3⟩
theorem RetCC.in {n : Nat} {w w1 w' : World} {p : Nat → Option Nat} {c : Int} {e : Ending} (hb : Below w.heap.size w w1) (h : RetCC n w1 p c e w') : RetCC n w p c e w' := by
  obtain ⟨r, h1, h2, h3⟩ := h
  exact ⟨r, h1, h2, bCall hb h3 hb.size⟩

theorem finiteCurve_any (c : Nat → Nat) (w : World) : Calls Try.prog 36 #[.agg (fA 16 c)] w (RetCC 16 w (finRes fun i => canon .f32 (c i)).1 (finRes fun i => canon .f32 (c i)).2) := by
  have hA : Blk ((w.alloc (.cells (fA 16 c) 26)).alloc (.cells (fA 16 fun _ => 0) 26)) w.heap.size 26 (fA 16 c) := (Blk.new _ _ _).alloc _
  have hZ : Blk ((w.alloc (.cells (fA 16 c) 26)).alloc (.cells (fA 16 fun _ => 0) 26)) (w.heap.size + 1) 26 (fA 16 fun _ => 0) := Blk.new_at _ _ (by simp) rfl
  have hb : Below w.heap.size w ((w.alloc (.cells (fA 16 c) 26)).alloc (.cells (fA 16 fun _ => 0) 26)) := (by repeat (first | assumption | exact Below.refl _ _ | refine bDrew ?_ _ | refine Below.alloc ?_ (by first | omega | (simp; done) | (simp; omega)) _ | refine Below.setCell ?_ (by first | omega | (simp; done) | (simp; omega)) _ | refine bRow ?_ (by first | omega | (simp; done) | (simp; omega)) _))
  go_enter Try.func36, Try.ntmps36
  go_wp2_with (refine wpList_load_row rfl 26 _ rfl _ rfl _ _ (0, 0) _ hA Try.underlying26 rfl (by kernel_rfl) ?_)
  refine (iIsFiniteCurve_any c ((w.alloc (.cells (fA 16 c) 26)).alloc (.cells (fA 16 fun _ => 0) 26))).mono ?_
  rintro e w1 ⟨rfl, hb1⟩
  have hA := hA.below hb1 hA.lt
  have hZ := hZ.below hb1 hZ.lt
  have hb := bCall hb hb1 hb.size
  clear hb1
  cases hs : (allTo 16 fun i => fin (canon .f32 (c i))) with
  | false =>
    have Hm : Hid ((finRes fun i => canon .f32 (c i)) = (fun _ => canon .f32 0, 4)) := Lib.hid (by unfold finRes; rw [hs]; rfl)
    clear hs
    go_wp2_with (first | (refine wpList_build_as rfl 26 _ rfl (fA 16 fun _ => 0) (by kernel_rfl) ?_) | (refine wpList_store_row rfl 26 _ _ rfl _ _ rfl rfl _ _ hZ (by kernel_rfl) (by simp only [size_fA]) (all_fA _ _) ?_))
    exact bodyPost_ret (results_cell_row2 rfl _ _ (w.heap.size + 1) _ _ _ _ rfl hZ.setRow Try.underlying26 rfl (by kernel_rfl)) rfl (RetCC.as Hm.out ⟨_, rfl, fun _ _ => rfl, (by repeat (first | assumption | exact Below.refl _ _ | refine bDrew ?_ _ | refine Below.alloc ?_ (by first | omega | (simp; done) | (simp; omega)) _ | refine Below.setCell ?_ (by first | omega | (simp; done) | (simp; omega)) _ | refine bRow ?_ (by first | omega | (simp; done) | (simp; omega)) _))⟩)
  | true =>
    have Hm : Hid ((finRes fun i => canon .f32 (c i)) = (fun i => canon .f32 (c i), 0)) := Lib.hid (by unfold finRes; rw [hs]; rfl)
    clear hs
    go_wp2_with (first | (refine wpList_load_row rfl 26 _ rfl _ rfl _ _ (0, 0) _ hA Try.underlying26 rfl (by kernel_rfl) ?_) | (refine wpList_store_row rfl 26 _ _ rfl _ _ rfl rfl _ _ hZ (by kernel_rfl) (by simp only [size_fA]) (all_fA _ _) ?_))
    exact bodyPost_ret (results_cell_row2 rfl _ _ (w.heap.size + 1) _ _ _ _ rfl hZ.setRow Try.underlying26 rfl (by kernel_rfl)) rfl (RetCC.as Hm.out ⟨_, rfl, fun _ _ => rfl, (by repeat (first | assumption | exact Below.refl _ _ | refine bDrew ?_ _ | refine Below.alloc ?_ (by first | omega | (simp; done) | (simp; omega)) _ | refine Below.setCell ?_ (by first | omega | (simp; done) | (simp; omega)) _ | refine bRow ?_ (by first | omega | (simp; done) | (simp; omega)) _))⟩)
theorem l02Curve_any (c : Nat → Nat) (w : World) : Calls Try.prog 67 #[.agg (fA 16 c)] w (RetCC 16 w (finRes fun i => canon .f32 (c i)).1 (finRes fun i => canon .f32 (c i)).2) := by
  have hA : Blk ((w.alloc (.cells (fA 16 c) 26)).alloc (.cells (fA 16 fun _ => 0) 26)) w.heap.size 26 (fA 16 c) := (Blk.new _ _ _).alloc _
  have hZ : Blk ((w.alloc (.cells (fA 16 c) 26)).alloc (.cells (fA 16 fun _ => 0) 26)) (w.heap.size + 1) 26 (fA 16 fun _ => 0) := Blk.new_at _ _ (by simp) rfl
  have hb : Below w.heap.size w ((w.alloc (.cells (fA 16 c) 26)).alloc (.cells (fA 16 fun _ => 0) 26)) := (by repeat (first | assumption | exact Below.refl _ _ | refine bDrew ?_ _ | refine Below.alloc ?_ (by first | omega | (simp; done) | (simp; omega)) _ | refine Below.setCell ?_ (by first | omega | (simp; done) | (simp; omega)) _ | refine bRow ?_ (by first | omega | (simp; done) | (simp; omega)) _))
  go_enter Try.func67, Try.ntmps67
  go_wp2_with (refine wpList_load_row rfl 26 _ rfl _ rfl _ _ (0, 0) _ hA Try.underlying26 rfl (by kernel_rfl) ?_)
  refine (l01Curve_any c ((w.alloc (.cells (fA 16 c) 26)).alloc (.cells (fA 16 fun _ => 0) 26))).mono ?_
  rintro e w1 ⟨rfl, hb1⟩
  have hA := hA.below hb1 hA.lt
  have hZ := hZ.below hb1 hZ.lt
  have hb := bCall hb hb1 hb.size
  clear hb1
  cases hs : (allTo 16 fun i => fin (canon .f32 (c i))) with
  | false =>
    have Hm : Hid ((finRes fun i => canon .f32 (c i)) = (fun _ => canon .f32 0, 4)) := Lib.hid (by unfold finRes; rw [hs]; rfl)
    clear hs
    go_wp2_with (first | (refine wpList_build_as rfl 26 _ rfl (fA 16 fun _ => 0) (by kernel_rfl) ?_) | (refine wpList_store_row rfl 26 _ _ rfl _ _ rfl rfl _ _ hZ (by kernel_rfl) (by simp only [size_fA]) (all_fA _ _) ?_))
    exact bodyPost_ret (results_cell_row2 rfl _ _ (w.heap.size + 1) _ _ _ _ rfl hZ.setRow Try.underlying26 rfl (by kernel_rfl)) rfl (RetCC.as Hm.out ⟨_, rfl, fun _ _ => rfl, (by repeat (first | assumption | exact Below.refl _ _ | refine bDrew ?_ _ | refine Below.alloc ?_ (by first | omega | (simp; done) | (simp; omega)) _ | refine Below.setCell ?_ (by first | omega | (simp; done) | (simp; omega)) _ | refine bRow ?_ (by first | omega | (simp; done) | (simp; omega)) _))⟩)
  | true =>
    have Hm : Hid ((finRes fun i => canon .f32 (c i)) = (fun i => canon .f32 (c i), 0)) := Lib.hid (by unfold finRes; rw [hs]; rfl)
    clear hs
    go_wp2_with (first | (refine wpList_load_row rfl 26 _ rfl _ rfl _ _ (0, 0) _ hA Try.underlying26 rfl (by kernel_rfl) ?_) | (refine wpList_store_row rfl 26 _ _ rfl _ _ rfl rfl _ _ hZ (by kernel_rfl) (by simp only [size_fA]) (all_fA _ _) ?_))
    exact bodyPost_ret (results_cell_row2 rfl _ _ (w.heap.size + 1) _ _ _ _ rfl hZ.setRow Try.underlying26 rfl (by kernel_rfl)) rfl (RetCC.as Hm.out ⟨_, rfl, fun _ _ => rfl, (by repeat (first | assumption | exact Below.refl _ _ | refine bDrew ?_ _ | refine Below.alloc ?_ (by first | omega | (simp; done) | (simp; omega)) _ | refine Below.setCell ?_ (by first | omega | (simp; done) | (simp; omega)) _ | refine bRow ?_ (by first | omega | (simp; done) | (simp; omega)) _))⟩)
def ratioAt (x y : Option Nat) : Option Nat := if feq x (canon .f32 0) then canon .f32 0 else fdiv x y
def ratioRes (c d : Nat → Option Nat) : (Nat → Option Nat) × Int :=
  if (allTo 16 fun i => amount (c i)) && (allTo 16 fun i => amount (d i)) then finRes (fun i => ratioAt (c i) (d i)) else (fun _ => canon .f32 0, 2)
theorem ratio_any (x y : Nat) (w : World) : Calls Try.prog 37 #[.float .f32 x, .float .f32 y] w (RetFq w (ratioAt (canon .f32 x) (canon .f32 y))) := by
  cases hx : (FloatKind.f32.format.order x 0 == some .eq) with
  | true =>
    have hm : ratioAt (canon .f32 x) (canon .f32 y) = canon .f32 0 := by unfold ratioAt; rw [← o_eq, hx]; rfl
    have Hm := Lib.hid hm
    clear hm
    go_enter Try.func37, Try.ntmps37
    go_wp2
    go_ret
    exact ⟨_, rfl, Hm.out.symm, 0, rfl⟩
  | false =>
    have hm : ratioAt (canon .f32 x) (canon .f32 y) = fdiv (canon .f32 x) (canon .f32 y) := by unfold ratioAt; rw [← o_eq, hx]; rfl
    have Hm := Lib.hid hm
    clear hm
    go_enter Try.func37, Try.ntmps37
    go_wp2
    go_ret
    exact ⟨_, rfl, (c_div ..).trans Hm.out.symm, _, rfl⟩
end Go.Proofs.Ytmikeegecifbfaa
