/- Proved: the statement FnRatios of this seat: for every input the law returns true, and each argument reads as it read. There is no condition. -/
import Derived.Test.YtmikeegecifbfaaRows
import Derived.Test.YtmikeegecifbfaaOpen
import Derived.Test.YtmikeegecifbfaaCA
import Derived.Test.YtmikeegecifbfaaCE
import Derived.Test.YtmikeegecifbfaaCG
import Derived.Test.YtmikeegecifbfaaCI
import Derived.Test.YtmikeegecifbfaaCU
import Derived.Test.YtmikeegecifbfaaCY
import Derived.Test.YtmikeegecifbfaaDP
import Derived.Test.YtmikeegecifbfaaLA
import Derived.Test.YtmikeegecifbfaaDra
import Derived.Test.YtmikeegecifbfaaRatG
import Derived.Test.YtmikeegecifbfaaEqa
import Derived.Test.YtmikeegecifbfaaHeld
import Derived.Test.YtmikeegecifbfaaLate
import Derived.WalkKit
import Derived.WalkSpells
import Derived.Outline
import Derived.ProofKit
import Derived.OpenShut
import Derived.ShutString
import Derived.ChangeOld
import Derived.Below
import Derived.IntWalk
import Derived.BigQuiet
namespace Go.Proofs.Ytmikeegecifbfaa.fnRatios
open Go.ChangeShapes Go.WideShapes Go.ChangeAt Go.RowKit
open Go.ChangeMaps (open_string shut_string)

set_option maxRecDepth 100000 in
set_option maxHeartbeats 4000000 in
theorem walk (a0 : Option Addr) (n0 c0 : Nat) (f0 : Nat → Nat) (a1 : Option Addr) (n1 c1 : Nat) (f1 : Nat → Nat) (w : World) (y0 : Byt w a0 n0 f0) (y1 : Byt w a1 n1 f1) : Calls Try.prog 3 #[.slice a0 n0 c0, .slice a1 n1 c1] w (RetB w true) := by
  go_enter Try.func3, Try.ntmps3
  by_cases hlong : 3000 < n0 ∨ 3000 < n1
  · go_wp2_with fail
    refine (a2Long_long a0 a1 n0 n1 c0 c1 hlong w).mono ?_
    rintro e w' ⟨rfl, rfl⟩
    go_wp2
    go_ret
    exact ⟨rfl, Below.refl _ _⟩
  · have hn0 : n0 ≤ 3000 := by omega
    have hn1 : n1 ≤ 3000 := by omega
    clear hlong
    go_wp2_with fail
    refine (a2Long_short a0 a1 n0 n1 c0 c1 hn0 hn1 w).mono ?_
    rintro e w0 ⟨rfl, hw⟩
    subst hw
    go_wp2_with fail
    refine (A2Curve_any a0 n0 c0 f0 w0 y0).mono ?_
    rintro e w1 ⟨U, hU, rfl, hb⟩
    obtain ⟨K, HK⟩ : ∃ K : Nat → Nat, Hid (∀ i, K i = pw (U i)) := ⟨fun i => pw (U i), Lib.hid fun _ => rfl⟩
    rw [show (fA 16 fun i => pw (U i)) = fA 16 K from fA_congr fun i _ => (HK.out i).symm]
    have hK : Blk (w1.alloc (.cells (fA 16 K) 26)) w1.heap.size 26 (fA 16 K) := Blk.new _ _ _
    have hb : Below w0.heap.size w0 (w1.alloc (.cells (fA 16 K) 26)) := hb.alloc hb.size _
    go_wp2_with (refine wpList_store_new rfl 26 _ _ rfl _ rfl rfl (by kernel_rfl) rfl (all_fA _ _) ?_)
    refine (A2Curve_any a1 n1 c1 f1 _ (y1.to hb (Nat.le_refl _))).mono ?_
    rintro e w2 ⟨V, hV, rfl, hb1⟩
    have hK := hK.below hb1 hK.lt
    have hb := bCall hb hb1 hb.size; clear hb1
    go_wp2_with fail
    refine (iFlatCurve_any _ _).mono ?_
    rintro e w3 ⟨r3, rfl, hr3, hb1⟩
    have hK := hK.below hb1 hK.lt
    have hb := bCall hb hb1 hb.size; clear hb1
    go_wp2_with fail
    refine (iAddCurves_any _ _ _).mono ?_
    rintro e w4 ⟨S, rfl, hS, hb1⟩
    have hK := hK.below hb1 hK.lt
    have hb := bCall hb hb1 hb.size; clear hb1
    have HA : Hid (RatAll (fun i => canon .f32 (K i)) (fun i => canon .f32 (S i))) := Lib.hid (fun i hi => by
      have h1 : canon .f32 (K i) = kOf (U i) := by
        have h2 := plain_word (U i) (hU i)
        rw [HK.out i]
        show canon .f32 (pw (U i)) = plain (U i)
        rw [h2]
        exact pw_canon (hU i)
      have h3 : canon .f32 (S i) = sOf (V i) := by
        have h4 := hS i hi
        have h5 := hr3 i hi
        dsimp only at h4 h5
        rw [h4, h5, pw_canon (hV i), ← plain_word (V i) (hV i)]
        rfl
      show RatOk (canon .f32 (K i)) (canon .f32 (S i))
      rw [h1, h3]
      exact rat_ok (hU i) (hV i))
    clear hS hr3 hU hV HK
    have hK := hK.alloc (.cells (fA 16 S) 26)
    have hS : Blk (w4.alloc (.cells (fA 16 S) 26)) w4.heap.size 26 (fA 16 S) := Blk.new _ _ _
    have hb : Below w0.heap.size w0 (w4.alloc (.cells (fA 16 S) 26)) := hb.alloc hb.size _
    go_wp2_with (first | (refine wpList_store_new rfl 26 _ _ rfl _ rfl rfl (by kernel_rfl) rfl (all_fA _ _) ?_) | (refine wpList_load_row rfl 26 _ rfl _ rfl _ _ (0, 0) _ hK Try.underlying26 rfl (by kernel_rfl) ?_) | (refine wpList_load_row rfl 26 _ rfl _ rfl _ _ (0, 0) _ hS Try.underlying26 rfl (by kernel_rfl) ?_))
    refine (iRatioCurve_any K S _).mono ?_
    rintro e w5 h5
    obtain ⟨Q, rfl, hq, hb1⟩ := h5.ok (res_ratio HA.out) (fun i _ => rfl)
    clear h5
    have hK := hK.below hb1 hK.lt
    have hS := hS.below hb1 hS.lt
    have hb := bCall hb hb1 hb.size; clear hb1
    have HQ := Lib.hid hq
    clear hq
    have hK := hK.alloc (.cells (fA 16 Q) 26)
    have hS := hS.alloc (.cells (fA 16 Q) 26)
    have hQ : Blk (w5.alloc (.cells (fA 16 Q) 26)) w5.heap.size 26 (fA 16 Q) := Blk.new _ _ _
    have hb : Below w0.heap.size w0 (w5.alloc (.cells (fA 16 Q) 26)) := hb.alloc hb.size _
    go_wp2_with (first | (refine wpList_store_new rfl 26 _ _ rfl _ rfl rfl (by kernel_rfl) rfl (all_fA _ _) ?_) | (refine wpList_load_row rfl 26 _ rfl _ rfl _ _ (0, 0) _ hQ Try.underlying26 rfl (by kernel_rfl) ?_))
    refine (iOfRatio_any Q _).mono ?_
    rintro e w6 h6
    obtain ⟨Rr, rfl, hr, hb1⟩ := h6.ok (res_of HA.out HQ.out) (p' := fun i => reflectAt (ratioAt (canon .f32 (K i)) (canon .f32 (S i)))) (fun i hi => by rw [HQ.out i hi])
    clear h6
    have hK := hK.below hb1 hK.lt
    have hS := hS.below hb1 hS.lt
    have hQ := hQ.below hb1 hQ.lt
    have hb := bCall hb hb1 hb.size; clear hb1
    have HRr := Lib.hid hr
    clear hr
    have hK := hK.alloc (.cells (fA 16 Rr) 26)
    have hS := hS.alloc (.cells (fA 16 Rr) 26)
    have hQ := hQ.alloc (.cells (fA 16 Rr) 26)
    have hR : Blk (w6.alloc (.cells (fA 16 Rr) 26)) w6.heap.size 26 (fA 16 Rr) := Blk.new _ _ _
    have hb : Below w0.heap.size w0 (w6.alloc (.cells (fA 16 Rr) 26)) := hb.alloc hb.size _
    go_wp2_with (first | (refine wpList_store_new rfl 26 _ _ rfl _ rfl rfl (by kernel_rfl) rfl (all_fA _ _) ?_) | (refine wpList_load_row rfl 26 _ rfl _ rfl _ _ (0, 0) _ hK Try.underlying26 rfl (by kernel_rfl) ?_) | (refine wpList_load_row rfl 26 _ rfl _ rfl _ _ (0, 0) _ hS Try.underlying26 rfl (by kernel_rfl) ?_))
    refine (iThickOf_any K S _).mono ?_
    rintro e w7 h7
    obtain ⟨T, rfl, ht, hb1⟩ := h7.ok (res_thick HA.out) (p' := fun i => reflectAt (ratioAt (canon .f32 (K i)) (canon .f32 (S i)))) (fun i hi => thick_is (HA.out i hi))
    clear h7
    have hK := hK.below hb1 hK.lt
    have hS := hS.below hb1 hS.lt
    have hQ := hQ.below hb1 hQ.lt
    have hR := hR.below hb1 hR.lt
    have hb := bCall hb hb1 hb.size; clear hb1
    have HT := Lib.hid ht
    clear ht
    have hK := hK.alloc (.cells (fA 16 T) 26)
    have hS := hS.alloc (.cells (fA 16 T) 26)
    have hQ := hQ.alloc (.cells (fA 16 T) 26)
    have hR := hR.alloc (.cells (fA 16 T) 26)
    have hT : Blk (w7.alloc (.cells (fA 16 T) 26)) w7.heap.size 26 (fA 16 T) := Blk.new _ _ _
    have hb : Below w0.heap.size w0 (w7.alloc (.cells (fA 16 T) 26)) := hb.alloc hb.size _
    go_wp2_with (first | (refine wpList_store_new rfl 26 _ _ rfl _ rfl rfl (by kernel_rfl) rfl (all_fA _ _) ?_) | (refine wpList_load_row rfl 26 _ rfl _ rfl _ _ (0, 0) _ hK Try.underlying26 rfl (by kernel_rfl) ?_) | (refine wpList_load_row rfl 26 _ rfl _ rfl _ _ (0, 0) _ hS Try.underlying26 rfl (by kernel_rfl) ?_))
    refine (sThickOf_any K S _).mono ?_
    rintro e w8 h8
    obtain ⟨D, rfl, hd, hb1⟩ := h8.ok (res_thick HA.out) (p' := fun i => reflectAt (ratioAt (canon .f32 (K i)) (canon .f32 (S i)))) (fun i hi => thick_is (HA.out i hi))
    clear h8
    have hQ := hQ.below hb1 hQ.lt
    have hR := hR.below hb1 hR.lt
    have hT := hT.below hb1 hT.lt
    have hb := bCall hb hb1 hb.size; clear hb1
    have HD := Lib.hid hd
    clear hd hK hS
    have hQ := hQ.alloc (.cells (fA 16 D) 26)
    have hR := hR.alloc (.cells (fA 16 D) 26)
    have hT := hT.alloc (.cells (fA 16 D) 26)
    have hD : Blk (w8.alloc (.cells (fA 16 D) 26)) w8.heap.size 26 (fA 16 D) := Blk.new _ _ _
    have hb : Below w0.heap.size w0 (w8.alloc (.cells (fA 16 D) 26)) := hb.alloc hb.size _
    go_wp2_with (first | (refine wpList_store_new rfl 26 _ _ rfl _ rfl rfl (by kernel_rfl) rfl (all_fA _ _) ?_) | (refine wpList_load_row rfl 26 _ rfl _ rfl _ _ (0, 0) _ hR Try.underlying26 rfl (by kernel_rfl) ?_))
    refine (iRatioOf_any Rr _).mono ?_
    rintro e w9 h9
    obtain ⟨B, rfl, hB, hb1⟩ := h9.ok (res_back HA.out HRr.out) (p' := fun i => unratio (reflectAt (ratioAt (canon .f32 (K i)) (canon .f32 (S i))))) (fun i hi => by rw [HRr.out i hi])
    clear h9
    have hQ := hQ.below hb1 hQ.lt
    have hR := hR.below hb1 hR.lt
    have hT := hT.below hb1 hT.lt
    have hD := hD.below hb1 hD.lt
    have hb := bCall hb hb1 hb.size; clear hb1
    have HB := Lib.hid hB
    clear hB
    have hQ := hQ.alloc (.cells (fA 16 B) 26)
    have hR := hR.alloc (.cells (fA 16 B) 26)
    have hT := hT.alloc (.cells (fA 16 B) 26)
    have hD := hD.alloc (.cells (fA 16 B) 26)
    have hB : Blk (w9.alloc (.cells (fA 16 B) 26)) w9.heap.size 26 (fA 16 B) := Blk.new _ _ _
    have hb : Below w0.heap.size w0 (w9.alloc (.cells (fA 16 B) 26)) := hb.alloc hb.size _
    go_wp2_with (first | (refine wpList_store_new rfl 26 _ _ rfl _ rfl rfl (by kernel_rfl) rfl (all_fA _ _) ?_))
    obtain ⟨W, hW⟩ : ∃ W : World, W = w9.alloc (.cells (fA 16 B) 26) := ⟨_, rfl⟩
    rw [← hW] at hQ hR hT hD hB hb ⊢
    have hq5 := hQ.lt
    have hr6 := hR.lt
    have ht7 := hT.lt
    have hd8 := hD.lt
    have hb9 := hB.lt
    have hlb := hb.size
    clear hW
    refine wp_region_lr_late 8 6 (G3 8 7 (IsC 16 fun _ => canon .f32 1056964608) (IsC 16 fun i => fadd (ratioAt (canon .f32 (K i)) (canon .f32 (S i))) (canon .f32 1056964608)) (IsOk 16 fun i => reflectAt (fadd (ratioAt (canon .f32 (K i)) (canon .f32 (S i))) (canon .f32 1056964608)))) (by kernel_rfl) (by kernel_rfl) (fun _ _ d _ _ h => by cases d <;> exact h) ?_
    simp only [List.take_succ_cons, List.take_zero, List.drop_succ_cons, List.drop_zero]
    (refine wpLR_plain rfl (fun K hK w1 hw1 => lrUpon_load rfl _ rfl _ _ _ _ (Blk.below hQ hw1 hQ.lt) Try.underlying26 rfl (by kernel_rfl) (fun N => hK _ _ ?_)); clear hK K)
    (refine wpLR_plain rfl (fun K0 hK0 w1 hw1 => ?_); go_simp; refine ⟨R.refl _, (iFlatCurve_any _ _).mono ?_, fun u hu => hK0 _ _ ?_⟩; (intro e w' h; obtain ⟨u, hu, hq, hb⟩ := h.is; exact ⟨u, hu, .mk1 (by decide) hq, hb⟩); clear hK0 K0; obtain ⟨r1, rfl, H1⟩ := hu.of1 (by decide); clear hu)
    (refine wpLR_plain rfl (fun K0 hK0 w1 hw1 => ?_); go_simp; refine ⟨R.refl _, (iAddCurves_any _ _ _).mono ?_, fun u hu => hK0 _ _ ?_⟩; (rintro e w' ⟨x, hx, hy, hb⟩; exact ⟨_, hx, .mk2 (by decide) (by decide) ⟨x, rfl, Lib.hid fun i hi => by rw [hy i hi]; dsimp only; rw [HQ.out i hi, H1.out i hi]⟩, hb⟩); clear hK0 K0; obtain ⟨r2, rfl, H2⟩ := hu.of2 (by decide) (by decide); clear hu H1)
    (refine wpLR_plain rfl (fun K0 hK0 w1 hw1 => ?_); go_simp; refine ⟨R.refl _, (iOfRatio_any _ _).mono ?_, fun u hu => hK0 _ _ ?_⟩; (intro e w' h; obtain ⟨u, hu, hq, hb⟩ := (h.ok (res_of2 HA.out H2.out) (p' := fun i => reflectAt (fadd (ratioAt (canon .f32 (K i)) (canon .f32 (S i))) (canon .f32 1056964608))) (fun i hi => by rw [H2.out i hi])).is; exact ⟨u, hu, .mk3 (by decide) (by decide) hq, hb⟩); clear hK0 K0; obtain ⟨P, rfl, HP⟩ := hu.of3 (by decide) (by decide); clear hu H2)
    (refine wpLR_plain rfl (fun K hK w1 hw1 => ?_); go_simp; refine ⟨R.refl _, hK _ _ ?_⟩; clear hK K)
    (refine wpLR_plain rfl (fun K hK w1 hw1 => ?_); go_simp; refine ⟨R.refl _, hK _ _ ?_⟩; clear hK K)
    (refine wpLR_plain rfl (fun K hK w1 hw1 => ?_); go_simp; refine ⟨R.refl _, hK _ _ ?_⟩; clear hK K)
    (refine wpLR_plain rfl (fun K hK v0 hv0 => ?_); go_simp; refine ⟨Below.alloc (Below.refl _ _) (Nat.le_refl _) _, hK _ _ ?_⟩; clear hK K)
    refine wpLR_nil ?_
    intro W1 hW1 hSS
    have hZ : Blk W1 v0.heap.size 26 (fA 16 fun _ => 0) := (Blk.new _ _ _).below hSS.2 (Blk.new _ _ _).lt
    clear hSS
    have hQ := hQ.below hW1 hQ.lt
    have hR := hR.below hW1 hR.lt
    have hT := hT.below hW1 hT.lt
    have hD := hD.below hW1 hD.lt
    have hB := hB.below hW1 hB.lt
    have hg : W.heap.size ≤ v0.heap.size := hv0.size
    have hQ2 := hQ.farRow (g' := v0.heap.size) (cs' := fA 16 P) (by omega)
    have hR2 := hR.farRow (g' := v0.heap.size) (cs' := fA 16 P) (by omega)
    have hT2 := hT.farRow (g' := v0.heap.size) (cs' := fA 16 P) (by omega)
    have hD2 := hD.farRow (g' := v0.heap.size) (cs' := fA 16 P) (by omega)
    have hB2 := hB.farRow (g' := v0.heap.size) (cs' := fA 16 P) (by omega)
    have hP2 : Blk (W1.setRow v0.heap.size (fA 16 P)) v0.heap.size 26 (fA 16 P) := hZ.setRow
    have hb2 := bRow (bCall hb hW1 hb.size) (g := v0.heap.size) (by omega) (fA 16 P)
    clear hQ hR hT hD hB hb
    go_wp2_with (first | (refine wpList_store_row rfl 26 _ _ rfl _ _ rfl rfl _ _ hZ (by kernel_rfl) (by simp only [size_fA]) (all_fA _ _) ?_) | (refine wpList_load_partW rfl 26 _ rfl 0 16 hT2 rfl (by decide) Try.underlying26 rfl (by kernel_rfl) ?_) | (refine wpList_load_partW rfl 26 _ rfl 0 16 hD2 rfl (by decide) Try.underlying26 rfl (by kernel_rfl) ?_) | (refine wpList_load_partW rfl 26 _ rfl 0 16 hR2 rfl (by decide) Try.underlying26 rfl (by kernel_rfl) ?_))
    refine (same_any _ _ (fun i hi => by rw [show rowAt T 0 i = T i by simp [rowAt], show rowAt D 0 i = D i by simp [rowAt], HT.out i hi, HD.out i hi]) _).mono ?_
    rintro e w10 ⟨rfl, hb1⟩
    have hQ := hQ2.below hb1 hQ2.lt
    have hR := hR2.below hb1 hR2.lt
    have hT := hT2.below hb1 hT2.lt
    have hB := hB2.below hb1 hB2.lt
    have hP := hP2.below hb1 hP2.lt
    have hb := bCall hb2 hb1 hb2.size
    clear hQ2 hR2 hT2 hD2 hB2 hP2 hb2 hb1 hZ hW1
    go_wp2_with (first | (refine wpList_load_partW rfl 26 _ rfl 0 16 hT rfl (by decide) Try.underlying26 rfl (by kernel_rfl) ?_) | (refine wpList_load_partW rfl 26 _ rfl 0 16 hR rfl (by decide) Try.underlying26 rfl (by kernel_rfl) ?_))
    refine (same_any _ _ (fun i hi => by rw [show rowAt T 0 i = T i by simp [rowAt], show rowAt Rr 0 i = Rr i by simp [rowAt], HT.out i hi, HRr.out i hi]) _).mono ?_
    rintro e w11 ⟨rfl, hb1⟩
    have hQ := hQ.below hb1 hQ.lt
    have hR := hR.below hb1 hR.lt
    have hB := hB.below hb1 hB.lt
    have hP := hP.below hb1 hP.lt
    have hb := bCall hb hb1 hb.size; clear hb1
    clear hT HT HD
    go_wp2
    go_loopw [19] (fun i wr => ∃ (k : Nat), k ≤ 16 ∧ i = .int .i64 k ∧ Below w0.heap.size w0 wr ∧ Blk wr w5.heap.size 26 (fA 16 Q) ∧ Blk wr w6.heap.size 26 (fA 16 Rr) ∧ Blk wr w9.heap.size 26 (fA 16 B) ∧ Blk wr v0.heap.size 26 (fA 16 P)) (fun i _ => 16 - (intOf i).toNat)
    case atStart => exact ⟨0, by omega, rfl, hb, hQ, hR, hB, hP⟩
    case round =>
      clear hb hQ hR hB hP
      obtain ⟨k, hk, rfl, hb, hQ, hR, hB, hP⟩ := hrel
      by_cases hlt : k < 16
      · have o1 : (FloatKind.f32.format.order (Rr k) 0 == some .lt || FloatKind.f32.format.order (Rr k) 0 == some .eq) = false := by
          rw [o_le, HRr.out k hlt]; exact gt_not_le (lit_parts (HA.out k hlt).litr).1
        have o2 : (FloatKind.f32.format.order (Rr k) 1065353216 == some .gt) = false := by
          rw [o_gt, HRr.out k hlt]; exact le_not_gt (lit_parts (HA.out k hlt).litr).2
        have o3 : (FloatKind.f32.format.order (P k) (Rr k) == some .gt || FloatKind.f32.format.order (P k) (Rr k) == some .eq) = false := by
          rw [o_ge, HRr.out k hlt, HP.out k hlt]; exact gt_not_ge (HA.out k hlt).finr (HA.out k hlt).finp (HA.out k hlt).less
        have h4 : near (canon .f32 (B k)) (canon .f32 (Q k)) (canon .f32 981668463) = true := by
          rw [HB.out k hlt, HQ.out k hlt]; exact (HA.out k hlt).close
        go_wp2_with fail
        refine wp_region_hr (fun f args u => u = .bool true) (by kernel_rfl) (by kernel_rfl) ?_
        (refine hr_plain rfl (fun K hK w1 hw1 => ?_); go_simp; refine ⟨R.refl _, hK _ _ ?_⟩; clear hK K)
        (refine hr_plain rfl (fun K hK w1 hw1 => ?_); go_simp; refine ⟨R.refl _, hK _ _ ?_⟩; clear hK K)
        (refine (hr_plain (rfl) (fun K hK w1 hw1 => ?_)); have c1 := ((Blk.below hR hw1 hR.lt).cell k).trans (get_fA_lt Rr (by omega)); go_simp; refine ⟨R.refl _, hK _ _ ?_⟩; clear hK K)
        (refine hr_plain rfl (fun K hK w1 hw1 => ?_); go_simp; refine ⟨R.refl _, hK _ _ ?_⟩; clear hK K)
        (refine hr_plain rfl (fun K hK w1 hw1 => ?_); go_simp; refine ⟨R.refl _, hK _ _ ?_⟩; clear hK K)
        (refine (hr_want (by kernel_rfl) (fun K hK w1 hw1 => ?_)); go_simp; refine ⟨R.refl _, hK _ _ ?_⟩; clear hK K)
        (refine (hr_want (by kernel_rfl) (fun K hK w1 hw1 => ?_)); go_simp; refine ⟨R.refl _, hK _ _ ?_⟩; clear hK K)
        (refine (hr_want (by kernel_rfl) (fun K hK w1 hw1 => ?_)); have c1 := ((Blk.below hR hw1 hR.lt).cell k).trans (get_fA_lt Rr (by omega)); go_simp; refine ⟨R.refl _, hK _ _ ?_⟩; clear hK K)
        (refine (hr_want (by kernel_rfl) (fun K hK w1 hw1 => ?_)); go_simp; refine ⟨R.refl _, hK _ _ ?_⟩; clear hK K)
        (refine hr_plain rfl (fun K hK w1 hw1 => ?_); go_simp; refine ⟨R.refl _, hK _ _ ?_⟩; clear hK K)
        (refine hr_plain rfl (fun K hK w1 hw1 => ?_); go_simp; refine ⟨R.refl _, hK _ _ ?_⟩; clear hK K)
        (refine (hr_want (by kernel_rfl) (fun K hK w1 hw1 => ?_)); go_simp; refine ⟨R.refl _, hK _ _ ?_⟩; clear hK K)
        (refine (hr_want (by kernel_rfl) (fun K hK w1 hw1 => ?_)); go_simp; refine ⟨R.refl _, hK _ _ ?_⟩; clear hK K)
        (refine (hr_want (by kernel_rfl) (fun K hK w1 hw1 => ?_)); have c1 := ((Blk.below hP hw1 hP.lt).cell k).trans (get_fA_lt P (by omega)); go_simp; refine ⟨R.refl _, hK _ _ ?_⟩; clear hK K)
        (refine (hr_want (by kernel_rfl) (fun K hK w1 hw1 => ?_)); go_simp; refine ⟨R.refl _, hK _ _ ?_⟩; clear hK K)
        (refine (hr_want (by kernel_rfl) (fun K hK w1 hw1 => ?_)); go_simp; refine ⟨R.refl _, hK _ _ ?_⟩; clear hK K)
        (refine (hr_want (by kernel_rfl) (fun K hK w1 hw1 => ?_)); have c1 := ((Blk.below hR hw1 hR.lt).cell k).trans (get_fA_lt Rr (by omega)); go_simp; refine ⟨R.refl _, hK _ _ ?_⟩; clear hK K)
        (refine (hr_want (by kernel_rfl) (fun K hK w1 hw1 => ?_)); go_simp; refine ⟨R.refl _, hK _ _ ?_⟩; clear hK K)
        (refine hr_plain rfl (fun K hK w1 hw1 => ?_); go_simp; refine ⟨R.refl _, hK _ _ ?_⟩; clear hK K)
        (refine hr_plain rfl (fun K hK w1 hw1 => ?_); go_simp; refine ⟨R.refl _, hK _ _ ?_⟩; clear hK K)
        (refine (hr_want (by kernel_rfl) (fun K hK w1 hw1 => ?_)); go_simp; refine ⟨R.refl _, hK _ _ ?_⟩; clear hK K)
        (refine (hr_want (by kernel_rfl) (fun K hK w1 hw1 => ?_)); go_simp; refine ⟨R.refl _, hK _ _ ?_⟩; clear hK K)
        (refine (hr_want (by kernel_rfl) (fun K hK w1 hw1 => ?_)); have c1 := ((Blk.below hB hw1 hB.lt).cell k).trans (get_fA_lt B (by omega)); go_simp; refine ⟨R.refl _, hK _ _ ?_⟩; clear hK K)
        (refine (hr_want (by kernel_rfl) (fun K hK w1 hw1 => ?_)); go_simp; refine ⟨R.refl _, hK _ _ ?_⟩; clear hK K)
        (refine (hr_want (by kernel_rfl) (fun K hK w1 hw1 => ?_)); go_simp; refine ⟨R.refl _, hK _ _ ?_⟩; clear hK K)
        (refine (hr_want (by kernel_rfl) (fun K hK w1 hw1 => ?_)); have c1 := ((Blk.below hQ hw1 hQ.lt).cell k).trans (get_fA_lt Q (by omega)); go_simp; refine ⟨R.refl _, hK _ _ ?_⟩; clear hK K)
        refine (hr_want (by kernel_rfl) (fun K hK w1 hw1 => ?_)); go_simp; refine ⟨R.refl _, (a2Near_yes _ _ _ h4 _).mono ?_, fun u hu => hK _ _ ?_⟩; (rintro e w' ⟨rfl, hb⟩; exact ⟨_, rfl, rfl, hb.below0⟩); clear hK K; obtain rfl := hu
        (refine (hr_want (by kernel_rfl) (fun K hK w1 hw1 => ?_)); go_simp; refine ⟨R.refl _, hK _ _ ?_⟩; clear hK K)
        (refine hr_plain rfl (fun K hK w1 hw1 => ?_); go_simp; refine ⟨R.refl _, hK _ _ ?_⟩; clear hK K)
        refine hr_nil ?_
        intro W2 hW1 _
        have hQ := hQ.below hW1 hQ.lt
        have hR := hR.below hW1 hR.lt
        have hB := hB.below hW1 hB.lt
        have hP := hP.below hW1 hP.lt
        have hb := bCall hb hW1 hb.size
        clear hW1
        go_wp2
        go_roundw
        case rel => exact ⟨k + 1, by omega, by go_num, hb, hQ, hR, hB, hP⟩
        case measure => simp [intOf]; omega
      · obtain rfl : k = 16 := by omega
        go_wp2_with fail
        clear hQ hR hB hP HQ HRr HB HP HA
        refine (iFlatCurve_any _ _).mono ?_
        rintro e w12 ⟨r4, rfl, hr4, hb1⟩
        rw [fA_of (W := fun _ => 1065353216) fun i hi => (hr4 i hi).trans (by kernel_rfl)]
        have hb := bCall hb hb1 hb.size; clear hb1
        clear hr4
        go_wp2_with fail
        refine (iFlatCurve_any _ _).mono ?_
        rintro e w13 ⟨r5, rfl, hr5, hb1⟩
        rw [fA_of (W := fun _ => 0) fun i hi => (hr5 i hi).trans (by kernel_rfl)]
        have hb := bCall hb hb1 hb.size; clear hb1
        clear hr5
        go_wp2_with fail
        refine (iRatioCurve_any _ _ _).mono ?_
        rintro e w14 h14
        rw [dark_div] at h14
        obtain ⟨r6, rfl, _, hb1⟩ := h14
        have hb := bCall hb hb1 hb.size; clear hb1
        have hb := hb.alloc hb.size (.cells (fA 16 r6) 26)
        go_wp2_with (refine wpList_store_new rfl 26 _ _ rfl _ rfl rfl (by kernel_rfl) rfl (all_fA _ _) ?_)
        refine (iFlatCurve_any _ _).mono ?_
        rintro e w15 ⟨r7, rfl, hr7, hb1⟩
        rw [fA_of (W := fun _ => 1065353216) fun i hi => (hr7 i hi).trans (by kernel_rfl)]
        have hb := bCall hb hb1 hb.size; clear hb1
        clear hr7
        go_wp2_with fail
        refine (iFlatCurve_any _ _).mono ?_
        rintro e w16 ⟨r8, rfl, hr8, hb1⟩
        rw [fA_of (W := fun _ => 0) fun i hi => (hr8 i hi).trans (by kernel_rfl)]
        have hb := bCall hb hb1 hb.size; clear hb1
        clear hr8
        go_wp2_with fail
        refine (iThickOf_any _ _ _).mono ?_
        rintro e w17 h17
        rw [dark_thick] at h17
        obtain ⟨r9, rfl, hr9, hb1⟩ := h17
        rw [fA_of (W := fun _ => 0) fun i hi => (hr9 i hi).trans (by kernel_rfl)]
        have hb := bCall hb hb1 hb.size; clear hb1
        clear hr9
        have hZ : Blk (w17.alloc (.cells (fA 16 fun _ => 0) 26)) w17.heap.size 26 (fA 16 fun _ => 0) := Blk.new _ _ _
        have hb := hb.alloc hb.size (.cells (fA 16 fun _ => 0) 26)
        go_wp2_with (refine wpList_store_new rfl 26 _ _ rfl _ rfl rfl (by kernel_rfl) rfl (all_fA _ _) ?_)
        refine wp_region_hr (fun f args u => ∃ r, u = .agg (fA 16 r) ∧ ∀ i, i < 16 → canon .f32 (r i) = canon .f32 0) (by kernel_rfl) (by kernel_rfl) ?_
        (refine hr_plain rfl (fun K hK w1 hw1 => ?_); go_simp; refine ⟨R.refl _, hK _ _ ?_⟩; clear hK K)
        (refine hr_plain rfl (fun K hK w1 hw1 => ?_); go_simp; refine ⟨R.refl _, hK _ _ ?_⟩; clear hK K)
        (refine hr_plain rfl (fun K hK w1 hw1 => ?_); go_simp; refine ⟨R.refl _, hK _ _ ?_⟩; clear hK K)
        (refine (hr_want (by kernel_rfl) (fun K hK w1 hw1 => ?_)); go_simp; refine ⟨R.refl _, hK _ _ ?_⟩; clear hK K)
        (refine (hr_want (by kernel_rfl) (fun K hK w1 hw1 => ?_)); go_simp; refine ⟨R.refl _, hK _ _ ?_⟩; clear hK K)
        (refine hr_plain rfl (fun K hK w1 hw1 => ?_); go_simp; refine ⟨R.refl _, hK _ _ ?_⟩; clear hK K)
        (refine hr_plain rfl (fun K hK w1 hw1 => ?_); go_simp; refine ⟨R.refl _, hK _ _ ?_⟩; clear hK K)
        refine (hr_want (by kernel_rfl) (fun K hK w1 hw1 => lrUpon_load rfl _ rfl _ _ _ _ (Blk.below hZ hw1 hZ.lt) Try.underlying26 rfl (by kernel_rfl) (fun N => hK _ _ ?_))); clear hK K
        refine (hr_want (by kernel_rfl) (fun K hK w1 hw1 => ?_)); go_simp; refine ⟨R.refl _, (iFlatCurve_any _ _).mono ?_, fun u hu => hK _ _ ?_⟩; (rintro e w' ⟨r, rfl, hr, hb⟩; exact ⟨_, rfl, ⟨r, rfl, hr⟩, hb⟩); clear hK K; obtain ⟨z, rfl, hz⟩ := hu
        rw [fA_of (W := fun _ => 0) fun i hi => (hz i hi).trans (by kernel_rfl)]
        have hne : ∀ w, (binOp .eql 26 (.agg (fA 16 fun _ => 0)) (.agg (fA 16 fun _ => 0))).run Try.prog w = .ok (.bool true) w := fun w => eql_row w 16 Try.underlying26 Try.underlying24 (by kernel_rfl) fun i hi => order_refl (by kernel_rfl)
        have heg : ∀ w x y, (eqGuard .eql 26 x y (.agg (fA 16 fun _ => 0)) (.agg (fA 16 fun _ => 0))).run Try.prog w = .ok () w := fun w x y => run_eqGuard_agg w _ _ _ _ _ _ (by kernel_rfl)
        refine (hr_want (by kernel_rfl) (fun K hK w1 hw1 => ?_)); go_simp; refine ⟨R.refl _, hK _ _ ?_⟩; clear hK K
        (refine hr_plain rfl (fun K hK w1 hw1 => ?_); go_simp; refine ⟨R.refl _, hK _ _ ?_⟩; clear hK K)
        (refine hr_plain rfl (fun K hK w1 hw1 => ?_); go_simp; refine ⟨R.refl _, hK _ _ ?_⟩; clear hK K)
        refine hr_nil ?_
        intro W2 hW1 _
        have hb := bCall hb hW1 hb.size
        clear hW1 hne heg
        go_wp2
        go_ret
        exact ⟨rfl, hb⟩

theorem own : ownKnob Try.prog.godebug = none := by kernel_rfl
theorem laidOut : laidOutB Try.prog = true := by kernel_rfl
set_option maxRecDepth 100000 in
theorem lifted (os : Os) (started : os.Started) (H : Type) (enc : TypeId × Value → H) :
    ReturnsInHanded {} Try.checked os 3 .any (Rows.fnRatiosSpec.pre6 enc Try.prog Try.f3 Rows.fnRatiosRow.domain false) (Rows.fnRatiosSpec.post enc Try.prog Try.f3 false true false false) := by
  refine returnsInHanded_of_change (C := Try.checked) own started (by kernel_rfl) Try.func3
    (ChangeSpec.witness6 (enc := enc) (C := Try.checked) false ⟨#[], #[.slice none 0 0, .slice none 0 0], []⟩ 8 (by kernel_rfl) (by kernel_rfl) (by kernel_rfl) (by kernel_rfl)) ?_
  intro W base args ds gs before hval0 hW hcnd _
  have hval : ∀ (j : Nat) t v, Try.f3.params[j]? = some t → args[j]? = some v → Value.okWide Try.prog W .any base t v := hval0
  have hW' := hW
  obtain ⟨p, q, hA0, hV, rfl, hfz, hnd⟩ := hW
  have hA : DataW.TrodAll enc Try.prog W 0 (fun _ => true) true Try.f3.params.toList args.toList ds p := hA0
  rw [Try.params3] at hA hval
  obtain ⟨v0, vs0, d0, ds0, p0, q0, hargs, rfl, rfl, h0, r0⟩ := trodAll_cons hA
  obtain ⟨v1, vs1, d1, ds1, p1, q1, rfl, rfl, rfl, h1, r1⟩ := trodAll_cons r0
  obtain ⟨rfl, rfl, rfl⟩ := trodAll_nil r1
  obtain rfl : args = #[v0, v1] := by cases args; simp_all
  obtain ⟨rfl, rfl⟩ := trodVars_none hV
  have k0 := h0
  have lt0 : ∀ x ∈ p0, x.block < W.heap.size := by obtain ⟨m, hm⟩ := k0; exact DataW.trod_lt m _ _ _ hm
  obtain ⟨a0, n0, c0, rfl⟩ := okWide_slice Try.underlying22 (hval 0 22 v0 rfl rfl)
  obtain ⟨f0, w0⟩ := open_byt Try.underlying22 Try.underlying5 (by kernel_rfl) h0
  have k1 := h1
  have lt1 : ∀ x ∈ p1, x.block < W.heap.size := by obtain ⟨m, hm⟩ := k1; exact DataW.trod_lt m _ _ _ hm
  obtain ⟨a1, n1, c1, rfl⟩ := okWide_slice Try.underlying22 (hval 1 22 v1 rfl rfl)
  obtain ⟨f1, w1⟩ := open_byt Try.underlying22 Try.underlying5 (by kernel_rfl) h1
  clear hA0 hval0
  refine (walk a0 n0 c0 f0 a1 n1 c1 f1 W w0 w1).mono fun e W' ⟨he, bel⟩ => ?_
  subst he
  exact ⟨_, rfl, _, _, _, [], _, [], hW', trodAll_mk1 (shut_bool Try.underlying4 _), (trodAll_cons_mk (Below.trod laidOut (by kernel_rfl) (of_decide_eq_true (by kernel_rfl)) k0 bel lt0) (trodAll_cons_mk (Below.trod laidOut (by kernel_rfl) (of_decide_eq_true (by kernel_rfl)) k1 bel lt1) trodAll_mk0)), rfl, bel.frame _, fun h => by cases h⟩
theorem over : Rows.fnRatiosRow.holds Try.pinned (OpenSpec.ofChange Rows.fnRatiosSpec) :=
  OpenClaim.holds_of_wide 3 Try.f3 rfl rfl rfl rfl rfl rfl rfl ⟨rfl, rfl, rfl, rfl, rfl⟩ rfl rfl rfl rfl rfl (by kernel_rfl) Try.func3 (by kernel_rfl)
    (of_decide_eq_true (by kernel_rfl)) (by unfold Func.isWrapper; first | (rw [if_pos (by decide +kernel)]; kernel_rfl) | (rw [if_neg (by decide +kernel)]; exact ⟨rfl, rfl⟩))
    (fun os started H enc _ => lifted os started H enc)
theorem proved : Rows.FnRatiosSaid := over
#print axioms proved
end Go.Proofs.Ytmikeegecifbfaa.fnRatios
namespace Go.Proofs.Ytmikeegecifbfaa
/-- The row, under a short name, for the claim. -/
theorem fnRatios_holds : Rows.FnRatiosSaid := fnRatios.proved
end Go.Proofs.Ytmikeegecifbfaa

