/- Contracts: the observers. -/
import Derived.Test.YtgnpmmohnphplaaCN
import Derived.Test.YtgnpmmohnphplaaCQ
import Derived.Test.YtgnpmmohnphplaaCV
import Derived.Test.YtgnpmmohnphplaaCG
namespace Go.Proofs.Ytgnpmmohnphplaa
open Go.RowKit
set_option maxRecDepth 100000

def obsAt (i : Nat) : Option Nat :=
  if i < 16 then fadd (bumpAt (canon .f32 1093140480) (canon .f32 1077936128) i) (fmul (bumpAt (canon .f32 1075838976) (canon .f32 1073741824) i) (canon .f32 1048576000))
  else if i < 32 then bumpAt (canon .f32 1090519040) (canon .f32 1077936128) (i - 16)
  else fmul (bumpAt (canon .f32 1077936128) (canon .f32 1073741824) (i - 32)) (canon .f32 1069547520)
theorem film3_is {r b t : Nat → Nat} {p : Nat → Option Nat} (hr : ∀ i, i < 16 → canon .f32 (r i) = p i) (hb : ∀ i, i < 16 → canon .f32 (b i) = p (16 + i)) (ht : ∀ i, i < 16 → canon .f32 (t i) = p (32 + i)) : ∀ i, i < 48 → canon .f32 (film3 r b t i) = p i := by
  intro i hi
  unfold film3
  by_cases h1 : i < 16
  · rw [if_pos h1]; exact hr i h1
  · rw [if_neg h1]
    by_cases h2 : i < 32
    · rw [if_pos h2, hb _ (by omega), show 16 + (i - 16) = i by omega]
    · rw [if_neg h2, ht _ (by omega), show 32 + (i - 32) = i by omega]
theorem obs_is {r4 r5 r7 : Nat → Nat} (h4 : ∀ i, i < 16 → canon .f32 (r4 i) = fadd (bumpAt (canon .f32 1093140480) (canon .f32 1077936128) i) (fmul (bumpAt (canon .f32 1075838976) (canon .f32 1073741824) i) (canon .f32 1048576000)))
    (h5 : ∀ i, i < 16 → canon .f32 (r5 i) = bumpAt (canon .f32 1090519040) (canon .f32 1077936128) i) (h7 : ∀ i, i < 16 → canon .f32 (r7 i) = fmul (bumpAt (canon .f32 1077936128) (canon .f32 1073741824) i) (canon .f32 1069547520)) :
    ∀ i, i < 48 → canon .f32 (film3 r4 r5 r7 i) = obsAt i := by
  refine film3_is ?_ ?_ ?_
  · intro i hi; rw [h4 i hi]; unfold obsAt; rw [if_pos hi]
  · intro i hi; rw [h5 i hi]; unfold obsAt; rw [if_neg (by omega), if_pos (by omega), show 16 + i - 16 = i by omega]
  · intro i hi; rw [h7 i hi]; unfold obsAt; rw [if_neg (by omega), if_neg (by omega), show 32 + i - 32 = i by omega]

theorem iObservers_any (w : World) : Calls Try.prog 16 #[] w (RetC 48 w obsAt) := by
  have hZ : Blk (w.alloc (.cells (fA 48 fun _ => 0) 25)) w.heap.size 25 (fA 48 fun _ => 0) := Blk.new _ _ _
  have hb : Below w.heap.size w (w.alloc (.cells (fA 48 fun _ => 0) 25)) := (by repeat (first | assumption | exact Below.refl _ _ | refine bDrew ?_ _ | refine Below.alloc ?_ (by first | omega | (simp; done) | (simp; omega)) _ | refine Below.setCell ?_ (by first | omega | (simp; done) | (simp; omega)) _ | refine bRow ?_ (by first | omega | (simp; done) | (simp; omega)) _))
  go_enter Try.func16, Try.ntmps16
  go_wp2_with fail
  refine (bump_any _ _ _).mono ?_
  rintro e w1 ⟨r1, rfl, hr1, hb1⟩
  have hZ := hZ.below hb1 hZ.lt
  have hb := bCall hb hb1 hb.size; clear hb1
  have H1 := Lib.hid hr1
  clear hr1
  go_wp2_with fail
  refine (bump_any _ _ _).mono ?_
  rintro e w2 ⟨r2, rfl, hr2, hb1⟩
  have hZ := hZ.below hb1 hZ.lt
  have hb := bCall hb hb1 hb.size; clear hb1
  have H2 := Lib.hid hr2
  clear hr2
  go_wp2_with fail
  refine (iScaleCurve_any _ _ _).mono ?_
  rintro e w3 ⟨r3, rfl, hr3, hb1⟩
  have hZ := hZ.below hb1 hZ.lt
  have hb := bCall hb hb1 hb.size; clear hb1
  have H3 := Lib.hid hr3
  clear hr3
  go_wp2_with fail
  refine (iAddCurves_any _ _ _).mono ?_
  rintro e w4 ⟨r4, rfl, hr4, hb1⟩
  have hZ := hZ.below hb1 hZ.lt
  have hb := bCall hb hb1 hb.size; clear hb1
  have H4 := Lib.hid hr4
  clear hr4
  go_wp2_with fail
  refine (bump_any _ _ _).mono ?_
  rintro e w5 ⟨r5, rfl, hr5, hb1⟩
  have hZ := hZ.below hb1 hZ.lt
  have hb := bCall hb hb1 hb.size; clear hb1
  have H5 := Lib.hid hr5
  clear hr5
  go_wp2_with fail
  refine (bump_any _ _ _).mono ?_
  rintro e w6 ⟨r6, rfl, hr6, hb1⟩
  have hZ := hZ.below hb1 hZ.lt
  have hb := bCall hb hb1 hb.size; clear hb1
  have H6 := Lib.hid hr6
  clear hr6
  go_wp2_with fail
  refine (iScaleCurve_any _ _ _).mono ?_
  rintro e w7 ⟨r7, rfl, hr7, hb1⟩
  have hZ := hZ.below hb1 hZ.lt
  have hb := bCall hb hb1 hb.size; clear hb1
  have H7 := Lib.hid hr7
  clear hr7
  have HO := Lib.hid (obs_is (fun i hi => by rw [H4.out i hi, H1.out i hi, H3.out i hi, H2.out i hi]) H5.out (fun i hi => by rw [H7.out i hi]; show fmul (canon .f32 (r6 i)) _ = _; rw [H6.out i hi]))
  clear H1 H2 H3 H4 H5 H6 H7
  go_wp2_with (first | (refine wpList_build_as rfl 25 _ rfl (fA 48 (film3 r4 r5 r7)) (by kernel_rfl) ?_) | (refine wpList_store_row rfl 25 _ _ rfl _ _ rfl rfl _ _ hZ (by kernel_rfl) (by simp only [size_fA]) (all_fA _ _) ?_))
  exact bodyPost_ret (results_cell_row rfl _ _ w.heap.size _ _ _ _ rfl hZ.setRow Try.underlying25 rfl (by kernel_rfl)) rfl ⟨_, rfl, HO.out, (by repeat (first | assumption | exact Below.refl _ _ | refine bDrew ?_ _ | refine Below.alloc ?_ (by first | omega | (simp; done) | (simp; omega)) _ | refine Below.setCell ?_ (by first | omega | (simp; done) | (simp; omega)) _ | refine bRow ?_ (by first | omega | (simp; done) | (simp; omega)) _))⟩
theorem l01Observers_any (w : World) : Calls Try.prog 48 #[] w (RetC 48 w obsAt) := by
  have hZ : Blk (w.alloc (.cells (fA 48 fun _ => 0) 25)) w.heap.size 25 (fA 48 fun _ => 0) := Blk.new _ _ _
  have hb : Below w.heap.size w (w.alloc (.cells (fA 48 fun _ => 0) 25)) := (by repeat (first | assumption | exact Below.refl _ _ | refine bDrew ?_ _ | refine Below.alloc ?_ (by first | omega | (simp; done) | (simp; omega)) _ | refine Below.setCell ?_ (by first | omega | (simp; done) | (simp; omega)) _ | refine bRow ?_ (by first | omega | (simp; done) | (simp; omega)) _))
  go_enter Try.func48, Try.ntmps48
  go_wp2_with fail
  refine (l01Bump_any _ _ _).mono ?_
  rintro e w1 ⟨r1, rfl, hr1, hb1⟩
  have hZ := hZ.below hb1 hZ.lt
  have hb := bCall hb hb1 hb.size; clear hb1
  have H1 := Lib.hid hr1
  clear hr1
  go_wp2_with fail
  refine (l01Bump_any _ _ _).mono ?_
  rintro e w2 ⟨r2, rfl, hr2, hb1⟩
  have hZ := hZ.below hb1 hZ.lt
  have hb := bCall hb hb1 hb.size; clear hb1
  have H2 := Lib.hid hr2
  clear hr2
  go_wp2_with fail
  refine (sScaleCurve_any _ _ _).mono ?_
  rintro e w3 ⟨r3, rfl, hr3, hb1⟩
  have hZ := hZ.below hb1 hZ.lt
  have hb := bCall hb hb1 hb.size; clear hb1
  have H3 := Lib.hid hr3
  clear hr3
  go_wp2_with fail
  refine (sAddCurves_any _ _ _).mono ?_
  rintro e w4 ⟨r4, rfl, hr4, hb1⟩
  have hZ := hZ.below hb1 hZ.lt
  have hb := bCall hb hb1 hb.size; clear hb1
  have H4 := Lib.hid hr4
  clear hr4
  go_wp2_with fail
  refine (l01Bump_any _ _ _).mono ?_
  rintro e w5 ⟨r5, rfl, hr5, hb1⟩
  have hZ := hZ.below hb1 hZ.lt
  have hb := bCall hb hb1 hb.size; clear hb1
  have H5 := Lib.hid hr5
  clear hr5
  go_wp2_with fail
  refine (l01Bump_any _ _ _).mono ?_
  rintro e w6 ⟨r6, rfl, hr6, hb1⟩
  have hZ := hZ.below hb1 hZ.lt
  have hb := bCall hb hb1 hb.size; clear hb1
  have H6 := Lib.hid hr6
  clear hr6
  go_wp2_with fail
  refine (sScaleCurve_any _ _ _).mono ?_
  rintro e w7 ⟨r7, rfl, hr7, hb1⟩
  have hZ := hZ.below hb1 hZ.lt
  have hb := bCall hb hb1 hb.size; clear hb1
  have H7 := Lib.hid hr7
  clear hr7
  have HO := Lib.hid (obs_is (fun i hi => by rw [H4.out i hi, H1.out i hi, H3.out i hi, H2.out i hi]) H5.out (fun i hi => by rw [H7.out i hi]; show fmul (canon .f32 (r6 i)) _ = _; rw [H6.out i hi]))
  clear H1 H2 H3 H4 H5 H6 H7
  go_wp2_with (first | (refine wpList_build_as rfl 25 _ rfl (fA 48 (film3 r4 r5 r7)) (by kernel_rfl) ?_) | (refine wpList_store_row rfl 25 _ _ rfl _ _ rfl rfl _ _ hZ (by kernel_rfl) (by simp only [size_fA]) (all_fA _ _) ?_))
  exact bodyPost_ret (results_cell_row rfl _ _ w.heap.size _ _ _ _ rfl hZ.setRow Try.underlying25 rfl (by kernel_rfl)) rfl ⟨_, rfl, HO.out, (by repeat (first | assumption | exact Below.refl _ _ | refine bDrew ?_ _ | refine Below.alloc ?_ (by first | omega | (simp; done) | (simp; omega)) _ | refine Below.setCell ?_ (by first | omega | (simp; done) | (simp; omega)) _ | refine bRow ?_ (by first | omega | (simp; done) | (simp; omega)) _))⟩
theorem sObservers_any (w : World) : Calls Try.prog 15 #[] w (RetC 48 w obsAt) := by
  have hZ : Blk (w.alloc (.cells (fA 48 fun _ => 0) 25)) w.heap.size 25 (fA 48 fun _ => 0) := Blk.new _ _ _
  have hb : Below w.heap.size w (w.alloc (.cells (fA 48 fun _ => 0) 25)) := (by repeat (first | assumption | exact Below.refl _ _ | refine bDrew ?_ _ | refine Below.alloc ?_ (by first | omega | (simp; done) | (simp; omega)) _ | refine Below.setCell ?_ (by first | omega | (simp; done) | (simp; omega)) _ | refine bRow ?_ (by first | omega | (simp; done) | (simp; omega)) _))
  go_enter Try.func15, Try.ntmps15
  go_wp2_with fail
  refine (l01Observers_any _).mono ?_
  rintro e w1 ⟨r, rfl, hr, hb1⟩
  have hZ := hZ.below hb1 hZ.lt
  have hb := bCall hb hb1 hb.size; clear hb1
  have Hr := Lib.hid hr
  clear hr
  go_wp2_with (refine wpList_store_row rfl 25 _ _ rfl _ _ rfl rfl _ _ hZ (by kernel_rfl) (by simp only [size_fA]) (all_fA _ _) ?_)
  exact bodyPost_ret (results_cell_row rfl _ _ w.heap.size _ _ _ _ rfl hZ.setRow Try.underlying25 rfl (by kernel_rfl)) rfl ⟨_, rfl, Hr.out, (by repeat (first | assumption | exact Below.refl _ _ | refine bDrew ?_ _ | refine Below.alloc ?_ (by first | omega | (simp; done) | (simp; omega)) _ | refine Below.setCell ?_ (by first | omega | (simp; done) | (simp; omega)) _ | refine bRow ?_ (by first | omega | (simp; done) | (simp; omega)) _))⟩
theorem eqCurveA3_any (a b : Nat → Nat) (h : ∀ i, i < 48 → canon .f32 (a i) = canon .f32 (b i)) (w : World) :
    Calls Try.prog 17 #[.agg (fA 48 a), .agg (fA 48 b)] w (RetB w true) := by
  have Hh := Lib.hid h
  clear h
  go_enter Try.func17, Try.ntmps17
  go_wp2
  go_loopw [5] (fun i wr => ∃ (k : Nat), k ≤ 3 ∧ i = .int .i64 k ∧ Below w.heap.size w wr ∧ Blk wr w.heap.size 25 (fA 48 a) ∧ Blk wr (w.heap.size + 1) 25 (fA 48 b)) (fun i _ => 3 - (intOf i).toNat)
  case atStart => exact ⟨0, by omega, rfl, (by repeat (first | assumption | exact Below.refl _ _ | refine bDrew ?_ _ | refine Below.alloc ?_ (by first | omega | (simp; done) | (simp; omega)) _ | refine Below.setCell ?_ (by first | omega | (simp; done) | (simp; omega)) _ | refine bRow ?_ (by first | omega | (simp; done) | (simp; omega)) _)), (by first | assumption | (repeat (first | assumption | (apply Blk.new_at; (focus (simp; done)); rfl) | apply Blk.alloc | apply Blk.drewN))), (by first | assumption | (repeat (first | assumption | (apply Blk.new_at; (focus (simp; done)); rfl) | apply Blk.alloc | apply Blk.drewN)))⟩
  case round =>
    obtain ⟨k, hk, rfl, hb, hA, hB⟩ := hrel
    by_cases hlt : k < 3
    · go_wp2_with fail
      refine wp_region_hr (fun f args u => u = .bool true) (by kernel_rfl) (by kernel_rfl) ?_
      (refine hr_plain rfl (fun K hK w1 hw1 => ?_); go_simp; refine ⟨R.refl _, hK _ _ ?_⟩; clear hK K)
      (refine hr_plain rfl (fun K hK w1 hw1 => ?_); go_simp; refine ⟨R.refl _, hK _ _ ?_⟩; clear hK K)
      (refine (hr_plain (rfl) (fun K hK w1 hw1 => lrUpon_part rfl (Blk.below hA hw1 hA.lt) (k * 16) 16 rfl (by first | decide | omega) Try.underlying24 rfl (by kernel_rfl) (fun N => hK _ _ ?_))); clear hK K)
      (refine hr_plain rfl (fun K hK w1 hw1 => ?_); go_simp; refine ⟨R.refl _, hK _ _ ?_⟩; clear hK K)
      (refine hr_plain rfl (fun K hK w1 hw1 => ?_); go_simp; refine ⟨R.refl _, hK _ _ ?_⟩; clear hK K)
      (refine (hr_plain (rfl) (fun K hK w1 hw1 => lrUpon_part rfl (Blk.below hB hw1 hB.lt) (k * 16) 16 rfl (by first | decide | omega) Try.underlying24 rfl (by kernel_rfl) (fun N => hK _ _ ?_))); clear hK K)
      refine hr_plain rfl (fun K hK w1 hw1 => ?_); go_simp; refine ⟨R.refl _, (eqCurve_any (rowAt a (k * 16)) (rowAt b (k * 16)) (fun i hi => Hh.out _ (by omega)) _).mono ?_, fun u hu => hK _ _ ?_⟩; (rintro e w' ⟨rfl, hb⟩; exact ⟨_, rfl, rfl, hb⟩); clear hK K; obtain rfl := hu
      (refine hr_plain rfl (fun K hK w1 hw1 => ?_); go_simp; refine ⟨R.refl _, hK _ _ ?_⟩; clear hK K)
      refine hr_nil ?_
      intro W1 hW1 _
      have hA := hA.below hW1 hA.lt
      have hB := hB.below hW1 hB.lt
      have hb := bCall hb hW1 hb.size
      go_wp2
      go_roundw
      case rel => exact ⟨k + 1, by omega, by go_num, hb, hA, hB⟩
      case measure => simp [intOf]; omega
    · go_wp2
      go_ret
      exact ⟨rfl, hb⟩
end Go.Proofs.Ytgnpmmohnphplaa
