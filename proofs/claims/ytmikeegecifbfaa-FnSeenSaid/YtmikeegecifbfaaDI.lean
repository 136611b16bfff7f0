/- Contracts: the observers. -/
import Derived.Test.YtmikeegecifbfaaCN
import Derived.Test.YtmikeegecifbfaaCQ
import Derived.Test.YtmikeegecifbfaaCV
import Derived.Test.YtmikeegecifbfaaCG
namespace Go.Proofs.Ytmikeegecifbfaa
open Go.RowKit
set_option maxRecDepth 100000

def obsAt (i : Nat) : Option Nat :=
  if i < 16 then fadd (bumpAt (canon .f32 1093140480) (canon .f32 1077936128) i) (fmul (bumpAt (canon .f32 1075838976) (canon .f32 1073741824) i) (canon .f32 1048576000))
  else if i < 32 then bumpAt (canon .f32 1090519040) (canon .f32 1077936128) (i - 16)
  else fmul (bumpAt (canon .f32 1077936128) (canon .f32 1073741824) (i - 32)) (canon .f32 1069547520)
theorem film3_is {r b t : Nat → Nat} {p : Nat → Option Nat} (hr : ∀ i, i < 16 → canon .f32 (r i) = p i) (hb : ∀ i, i < 16 → canon .f32 (b i) = p (16 + i)) (ht : ∀ i, i < 16 → canon .f32 (t i) = p (32 + i)) : ∀ i, i < 48 → canon .f32 (film3 r b t i) = p i := by
  intro i hi
  unfold film3
  by_cases h1 : i < 16
  · rw [if_pos h1]; exact hr i h1
  · rw [if_neg h1]
    by_cases h2 : i < 32
    · rw [if_pos h2, hb _ (by omega), show 16 + (i - 16) = i by omega]
    · rw [if_neg h2, ht _ (by omega), show 32 + (i - 32) = i by omega]
theorem obs_is {r4 r5 r7 : Nat → Nat} (h4 : ∀ i, i < 16 → canon .f32 (r4 i) = fadd (bumpAt (canon .f32 1093140480) (canon .f32 1077936128) i) (fmul (bumpAt (canon .f32 1075838976) (canon .f32 1073741824) i) (canon .f32 1048576000)))
    (h5 : ∀ i, i < 16 → canon .f32 (r5 i) = bumpAt (canon .f32 1090519040) (canon .f32 1077936128) i) (h7 : ∀ i, i < 16 → canon .f32 (r7 i) = fmul (bumpAt (canon .f32 1077936128) (canon .f32 1073741824) i) (canon .f32 1069547520)) :
    ∀ i, i < 48 → canon .f32 (film3 r4 r5 r7 i) = obsAt i := by
  refine film3_is ?_ ?_ ?_
  · intro i hi; rw [h4 i hi]; unfold obsAt; rw [if_pos hi]
  · intro i hi; rw [h5 i hi]; unfold obsAt; rw [if_neg (by omega), if_pos (by omega), show 16 + i - 16 = i by omega]
  · intro i hi; rw [h7 i hi]; unfold obsAt; rw [if_neg (by omega), if_neg (by omega), show 32 + i - 32 = i by omega]

theorem iObservers_any (w : World) : Calls Try.prog 45 #[] w (RetC 48 w obsAt) := by
  have hZ : Blk (w.alloc (.cells (fA 48 fun _ => 0) 55)) w.heap.size 55 (fA 48 fun _ => 0) := Blk.new _ _ _
  have hb : Below w.heap.size w (w.alloc (.cells (fA 48 fun _ => 0) 55)) := (by repeat (first | assumption | exact Below.refl _ _ | refine bDrew ?_ _ | refine Below.alloc ?_ (by first | omega | (simp; done) | (simp; omega)) _ | refine Below.setCell ?_ (by first | omega | (simp; done) | (simp; omega)) _ | refine bRow ?_ (by first | omega | (simp; done) | (simp; omega)) _))
  go_enter Try.func45, Try.ntmps45
  go_wp2_with fail
  refine (bump_any _ _ _).mono ?_
  rintro e w1 ⟨r1, rfl, hr1, hb1⟩
  have hZ := hZ.below hb1 hZ.lt
  have hb := bCall hb hb1 hb.size; clear hb1
  have H1 := Lib.hid hr1
  clear hr1
  go_wp2_with fail
  refine (bump_any _ _ _).mono ?_
  rintro e w2 ⟨r2, rfl, hr2, hb1⟩
  have hZ := hZ.below hb1 hZ.lt
  have hb := bCall hb hb1 hb.size; clear hb1
  have H2 := Lib.hid hr2
  clear hr2
  go_wp2_with fail
  refine (iScaleCurve_any _ _ _).mono ?_
  rintro e w3 ⟨r3, rfl, hr3, hb1⟩
  have hZ := hZ.below hb1 hZ.lt
  have hb := bCall hb hb1 hb.size; clear hb1
  have H3 := Lib.hid hr3
  clear hr3
  go_wp2_with fail
  refine (iAddCurves_any _ _ _).mono ?_
  rintro e w4 ⟨r4, rfl, hr4, hb1⟩
  have hZ := hZ.below hb1 hZ.lt
  have hb := bCall hb hb1 hb.size; clear hb1
  have H4 := Lib.hid hr4
  clear hr4
  go_wp2_with fail
  refine (bump_any _ _ _).mono ?_
  rintro e w5 ⟨r5, rfl, hr5, hb1⟩
  have hZ := hZ.below hb1 hZ.lt
  have hb := bCall hb hb1 hb.size; clear hb1
  have H5 := Lib.hid hr5
  clear hr5
  go_wp2_with fail
  refine (bump_any _ _ _).mono ?_
  rintro e w6 ⟨r6, rfl, hr6, hb1⟩
  have hZ := hZ.below hb1 hZ.lt
  have hb := bCall hb hb1 hb.size; clear hb1
  have H6 := Lib.hid hr6
  clear hr6
  go_wp2_with fail
  refine (iScaleCurve_any _ _ _).mono ?_
  rintro e w7 ⟨r7, rfl, hr7, hb1⟩
  have hZ := hZ.below hb1 hZ.lt
  have hb := bCall hb hb1 hb.size; clear hb1
  have H7 := Lib.hid hr7
  clear hr7
  have HO := Lib.hid (obs_is (fun i hi => by rw [H4.out i hi, H1.out i hi, H3.out i hi, H2.out i hi]) H5.out (fun i hi => by rw [H7.out i hi]; show fmul (canon .f32 (r6 i)) _ = _; rw [H6.out i hi]))
  clear H1 H2 H3 H4 H5 H6 H7
  go_wp2_with (first | (refine wpList_build_as rfl 55 _ rfl (fA 48 (film3 r4 r5 r7)) (by kernel_rfl) ?_) | (refine wpList_store_row rfl 55 _ _ rfl _ _ rfl rfl _ _ hZ (by kernel_rfl) (by simp only [size_fA]) (all_fA _ _) ?_))
  exact bodyPost_ret (results_cell_row rfl _ _ w.heap.size _ _ _ _ rfl hZ.setRow Try.underlying55 rfl (by kernel_rfl)) rfl ⟨_, rfl, HO.out, (by repeat (first | assumption | exact Below.refl _ _ | refine bDrew ?_ _ | refine Below.alloc ?_ (by first | omega | (simp; done) | (simp; omega)) _ | refine Below.setCell ?_ (by first | omega | (simp; done) | (simp; omega)) _ | refine bRow ?_ (by first | omega | (simp; done) | (simp; omega)) _))⟩
theorem l01Observers_any (w : World) : Calls Try.prog 71 #[] w (RetC 48 w obsAt) := by
  have hZ : Blk (w.alloc (.cells (fA 48 fun _ => 0) 55)) w.heap.size 55 (fA 48 fun _ => 0) := Blk.new _ _ _
  have hb : Below w.heap.size w (w.alloc (.cells (fA 48 fun _ => 0) 55)) := (by repeat (first | assumption | exact Below.refl _ _ | refine bDrew ?_ _ | refine Below.alloc ?_ (by first | omega | (simp; done) | (simp; omega)) _ | refine Below.setCell ?_ (by first | omega | (simp; done) | (simp; omega)) _ | refine bRow ?_ (by first | omega | (simp; done) | (simp; omega)) _))
  go_enter Try.func71, Try.ntmps71
  go_wp2_with fail
  refine (l01Bump_any _ _ _).mono ?_
  rintro e w1 ⟨r1, rfl, hr1, hb1⟩
  have hZ := hZ.below hb1 hZ.lt
  have hb := bCall hb hb1 hb.size; clear hb1
  have H1 := Lib.hid hr1
  clear hr1
  go_wp2_with fail
  refine (l01Bump_any _ _ _).mono ?_
  rintro e w2 ⟨r2, rfl, hr2, hb1⟩
  have hZ := hZ.below hb1 hZ.lt
  have hb := bCall hb hb1 hb.size; clear hb1
  have H2 := Lib.hid hr2
  clear hr2
  go_wp2_with fail
  refine (sScaleCurve_any _ _ _).mono ?_
  rintro e w3 ⟨r3, rfl, hr3, hb1⟩
  have hZ := hZ.below hb1 hZ.lt
  have hb := bCall hb hb1 hb.size; clear hb1
  have H3 := Lib.hid hr3
  clear hr3
  go_wp2_with fail
  refine (sAddCurves_any _ _ _).mono ?_
  rintro e w4 ⟨r4, rfl, hr4, hb1⟩
  have hZ := hZ.below hb1 hZ.lt
  have hb := bCall hb hb1 hb.size; clear hb1
  have H4 := Lib.hid hr4
  clear hr4
  go_wp2_with fail
  refine (l01Bump_any _ _ _).mono ?_
  rintro e w5 ⟨r5, rfl, hr5, hb1⟩
  have hZ := hZ.below hb1 hZ.lt
  have hb := bCall hb hb1 hb.size; clear hb1
  have H5 := Lib.hid hr5
  clear hr5
  go_wp2_with fail
  refine (l01Bump_any _ _ _).mono ?_
  rintro e w6 ⟨r6, rfl, hr6, hb1⟩
  have hZ := hZ.below hb1 hZ.lt
  have hb := bCall hb hb1 hb.size; clear hb1
  have H6 := Lib.hid hr6
  clear hr6
  go_wp2_with fail
  refine (sScaleCurve_any _ _ _).mono ?_
  rintro e w7 ⟨r7, rfl, hr7, hb1⟩
  have hZ := hZ.below hb1 hZ.lt
  have hb := bCall hb hb1 hb.size; clear hb1
  have H7 := Lib.hid hr7
  clear hr7
  have HO := Lib.hid (obs_is (fun i hi => by rw [H4.out i hi, H1.out i hi, H3.out i hi, H2.out i hi]) H5.out (fun i hi => by rw [H7.out i hi]; show fmul (canon .f32 (r6 i)) _ = _; rw [H6.out i hi]))
  clear H1 H2 H3 H4 H5 H6 H7
  go_wp2_with (first | (refine wpList_build_as rfl 55 _ rfl (fA 48 (film3 r4 r5 r7)) (by kernel_rfl) ?_) | (refine wpList_store_row rfl 55 _ _ rfl _ _ rfl rfl _ _ hZ (by kernel_rfl) (by simp only [size_fA]) (all_fA _ _) ?_))
  exact bodyPost_ret (results_cell_row rfl _ _ w.heap.size _ _ _ _ rfl hZ.setRow Try.underlying55 rfl (by kernel_rfl)) rfl ⟨_, rfl, HO.out, (by repeat (first | assumption | exact Below.refl _ _ | refine bDrew ?_ _ | refine Below.alloc ?_ (by first | omega | (simp; done) | (simp; omega)) _ | refine Below.setCell ?_ (by first | omega | (simp; done) | (simp; omega)) _ | refine bRow ?_ (by first | omega | (simp; done) | (simp; omega)) _))⟩
end Go.Proofs.Ytmikeegecifbfaa
