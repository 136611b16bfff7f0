/- Ratios: comparisons of the law. -/
import Derived.Test.YtmikeegecifbfaaRatF
import Derived.Test.YtmikeegecifbfaaCnv
namespace Go.Proofs.Ytmikeegecifbfaa
open Go.RowKit
set_option maxRecDepth 100000

theorem lit_parts {x : Option Nat} (h : lit x = true) : fgt x (canon .f32 0) = true ∧ fle x (canon .f32 1065353216) = true := by
  unfold lit at h
  rwa [Bool.and_eq_true] at h
theorem gt_not_le {x y : Option Nat} (h : fgt x y = true) : fle x y = false := by
  unfold fgt at h
  unfold fle
  cases ho : cord .f32 x y with
  | none => rfl
  | some o => rw [ho] at h; cases o <;> first | rfl | cases h
theorem le_not_gt {x y : Option Nat} (h : fle x y = true) : fgt x y = false := by
  unfold fle at h
  unfold fgt
  cases ho : cord .f32 x y with
  | none => rfl
  | some o => rw [ho] at h; cases o <;> first | rfl | cases h
theorem gt_not_ge {x y : Option Nat} (hx : fin x = true) (hy : fin y = true) (h : fgt x y = true) : fge y x = false := by
  obtain ⟨u, hu⟩ := fin_is.1 hx
  obtain ⟨v, hv⟩ := fin_is.1 hy
  rw [fgt_is hu hv, decide_eq_true_eq] at h
  rw [fge_is hv hu, decide_eq_false_iff_not]
  grind
theorem dark_div : ratioRes (fun _ => canon .f32 1065353216) (fun _ => canon .f32 0) = (fun _ => canon .f32 0, 4) := by
  unfold ratioRes
  rw [if_pos (by rw [allTo_true fun i _ => amount01.1, allTo_true fun i _ => amount01.2.1]; rfl)]
  unfold finRes
  rw [if_neg (by
    intro h
    have := allTo_get h (j := 0) (by omega)
    dsimp only at this
    rw [ratio_dark] at this
    cases this)]
theorem dark_thick : thickRes (fun _ => canon .f32 1065353216) (fun _ => canon .f32 0) = (fun _ => canon .f32 0, 0) := by
  unfold thickRes
  rw [if_pos (by rw [allTo_true fun i _ => amount01.1, allTo_true fun i _ => amount01.2.1]; rfl), if_pos (allTo_true fun i hi => (by decide +kernel : thickOk (canon .f32 1065353216) (canon .f32 0) = true))]
  unfold finRes
  rw [if_pos (allTo_true fun i hi => by dsimp only; rw [thick_dark]; exact amount01.2.2.1)]
  dsimp only
  rw [thick_dark]
end Go.Proofs.Ytmikeegecifbfaa
