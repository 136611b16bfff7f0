/- Contracts: the look of a curve under a light. -/
import Derived.Test.YtmikeegecifbfaaDJ
namespace Go.Proofs.Ytmikeegecifbfaa
open Go.RowKit
set_option maxRecDepth 100000

def lookUnderMade (S : (Nat → Option Nat) × Int) : (Nat → Option Nat) × Int := if S.2 = 0 then lookRes S.1 else (fun _ => canon .f32 0, S.2)
theorem look_congr {w : World} {f f' : Nat → Option Nat} {e : Ending} {w' : World} (h : ∀ i, i < 3 → f i = f' i) (hr : RetCC 3 w (lookRes f).1 (lookRes f).2 e w') : RetCC 3 w (lookRes f').1 (lookRes f').2 e w' := by
  have ha : (allTo 3 fun i => fin (f i)) = allTo 3 fun i => fin (f' i) := allTo_congr fun i hi => by rw [h i hi]
  unfold lookRes at hr ⊢
  rw [ha] at hr
  split at hr
  · rename_i h1
    rw [if_pos h1]
    obtain ⟨r, h2, h3, h4⟩ := hr
    refine ⟨r, h2, fun i hi => (h3 i hi).trans ?_, h4⟩
    unfold look3
    simp only [h 0 (by omega), h 1 (by omega), h 2 (by omega)]
  · rename_i h1
    rw [if_neg h1]
    exact hr
theorem ne_facts' {c : Int} (h : ¬ c = 0) : (c == 0) = false ∧ (c != 0) = true := by simp [h]

theorem iLookUnder_any (l c : Nat → Nat) (w : World) : Calls Try.prog 21 #[.agg (fA 16 l), .agg (fA 16 c)] w (RetCC 3 w (lookUnderMade (seenRes (fun i => canon .f32 (l i)) fun i => canon .f32 (c i))).1 (lookUnderMade (seenRes (fun i => canon .f32 (l i)) fun i => canon .f32 (c i))).2) := by
  have hL : Blk (((w.alloc (.cells (fA 16 l) 26)).alloc (.cells (fA 16 c) 26)).alloc (.cells (fA 3 fun _ => 0) 38)) w.heap.size 26 (fA 16 l) := ((Blk.new _ _ _).alloc _).alloc _
  have hC : Blk (((w.alloc (.cells (fA 16 l) 26)).alloc (.cells (fA 16 c) 26)).alloc (.cells (fA 3 fun _ => 0) 38)) (w.heap.size + 1) 26 (fA 16 c) := (Blk.new_at _ _ (by simp) rfl).alloc _
  have hZ : Blk (((w.alloc (.cells (fA 16 l) 26)).alloc (.cells (fA 16 c) 26)).alloc (.cells (fA 3 fun _ => 0) 38)) (w.heap.size + 1 + 1) 38 (fA 3 fun _ => 0) := Blk.new_at _ _ (by simp) rfl
  have hb : Below w.heap.size w (((w.alloc (.cells (fA 16 l) 26)).alloc (.cells (fA 16 c) 26)).alloc (.cells (fA 3 fun _ => 0) 38)) := (by repeat (first | assumption | exact Below.refl _ _ | refine bDrew ?_ _ | refine Below.alloc ?_ (by first | omega | (simp; done) | (simp; omega)) _ | refine Below.setCell ?_ (by first | omega | (simp; done) | (simp; omega)) _ | refine bRow ?_ (by first | omega | (simp; done) | (simp; omega)) _))
  go_enter Try.func21, Try.ntmps21
  go_wp2_with (first | (refine wpList_load_row rfl 26 _ rfl _ rfl _ _ (0, 0) _ hL Try.underlying26 rfl (by kernel_rfl) ?_) | (refine wpList_load_row rfl 26 _ rfl _ rfl _ _ (0, 0) _ hC Try.underlying26 rfl (by kernel_rfl) ?_))
  refine (iSeenUnder_any l c _).mono ?_
  generalize hF : (seenRes (fun i => canon .f32 (l i)) fun i => canon .f32 (c i)) = S
  obtain ⟨p, cd⟩ := S
  have HF := Lib.hid hF
  clear hF
  rintro e w1 ⟨r, rfl, hr, hb1⟩
  have hZ := hZ.below hb1 hZ.lt
  have hb := bCall hb hb1 hb.size; clear hb1
  have Hr := Lib.hid hr
  clear hr hL hC
  have hR : Blk (w1.alloc (.cells (fA 3 r) 38)) w1.heap.size 38 (fA 3 r) := Blk.new _ _ _
  have hg : w.heap.size + 1 + 1 < w1.heap.size := hZ.lt
  have hZ := hZ.alloc (.cells (fA 3 r) 38)
  have hb : Below w.heap.size w (w1.alloc (.cells (fA 3 r) 38)) := Below.alloc hb hb.size _
  dsimp only at *
  by_cases hc : cd = 0
  · subst hc
    have Hm : Hid ((lookUnderMade (seenRes (fun i => canon .f32 (l i)) fun i => canon .f32 (c i))) = ((lookRes p).1, (lookRes p).2)) := Lib.hid (by rw [HF.out]; simp only [lookUnderMade, if_true])
    go_wp2_with (first | (refine wpList_store_new rfl 38 _ _ rfl _ rfl rfl (by kernel_rfl) rfl (all_fA _ _) ?_) | (refine wpList_load_row rfl 38 _ rfl _ rfl _ _ (0, 0) _ hR Try.underlying38 rfl (by kernel_rfl) ?_))
    refine (iLookOf_any r _).mono ?_
    intro e w4 h4
    obtain ⟨s, rfl, hs, hb1⟩ := look_congr Hr.out h4
    clear h4
    have hZ := hZ.below hb1 hZ.lt
    have hb := bCall hb hb1 hb.size
    have Hq := Lib.hid hs
    clear hs hb1
    go_wp2_with (refine wpList_store_row rfl 38 _ _ rfl _ _ rfl rfl _ _ hZ (by kernel_rfl) (by simp only [size_fA]) (all_fA _ _) ?_)
    exact bodyPost_ret (results_cell_row2 rfl _ _ (w.heap.size + 1 + 1) _ _ _ _ rfl hZ.setRow Try.underlying38 rfl (by kernel_rfl)) rfl (RetCC.as Hm.out ⟨s, rfl, Hq.out, (by repeat (first | assumption | exact Below.refl _ _ | refine bDrew ?_ _ | refine Below.alloc ?_ (by first | omega | (simp; done) | (simp; omega)) _ | refine Below.setCell ?_ (by first | omega | (simp; done) | (simp; omega)) _ | refine bRow ?_ (by first | omega | (simp; done) | (simp; omega)) _))⟩)
  · obtain ⟨h1, h2⟩ := ne_facts' hc
    have Hm : Hid ((lookUnderMade (seenRes (fun i => canon .f32 (l i)) fun i => canon .f32 (c i))) = (fun _ => canon .f32 0, cd)) := Lib.hid (by rw [HF.out]; simp only [lookUnderMade, hc, if_false])
    go_wp2_with (first | (refine wpList_store_new rfl 38 _ _ rfl _ rfl rfl (by kernel_rfl) rfl (all_fA _ _) ?_) | (refine wpList_build_as rfl 38 _ rfl (fA 3 fun _ => 0) (by kernel_rfl) ?_) | (refine wpList_store_row rfl 38 _ _ rfl _ _ rfl rfl _ _ hZ (by kernel_rfl) (by simp only [size_fA]) (all_fA _ _) ?_))
    exact bodyPost_ret (results_cell_row2 rfl _ _ (w.heap.size + 1 + 1) _ _ _ _ rfl hZ.setRow Try.underlying38 rfl (by kernel_rfl)) rfl (RetCC.as Hm.out ⟨_, rfl, fun _ _ => rfl, (by repeat (first | assumption | exact Below.refl _ _ | refine bDrew ?_ _ | refine Below.alloc ?_ (by first | omega | (simp; done) | (simp; omega)) _ | refine Below.setCell ?_ (by first | omega | (simp; done) | (simp; omega)) _ | refine bRow ?_ (by first | omega | (simp; done) | (simp; omega)) _))⟩)
end Go.Proofs.Ytmikeegecifbfaa
