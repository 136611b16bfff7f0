/- Proved: the statement FnCurves of this seat (its tied card): for every input the law returns true, and each argument reads as it read; the listed tables hold what the program's text lays. -/
import Derived.Test.YtafbolnkohebjaaGreatDoorCards
import Derived.Test.YtafbolnkohebjaaGreatDoorTie
import Derived.Test.YtafbolnkohebjaaGreatDoorOpen
import Derived.Test.YtafbolnkohebjaaGreatDoorHD
import Derived.Test.YtafbolnkohebjaaGreatDoorDra
import Derived.Test.YtafbolnkohebjaaGreatDoorFcC
import Derived.Test.YtafbolnkohebjaaGreatDoorHO
import Derived.Test.YtafbolnkohebjaaGreatDoorHN
import Derived.Test.YtafbolnkohebjaaGreatDoorHR
import Derived.Test.YtafbolnkohebjaaGreatDoorHC
import Derived.Test.YtafbolnkohebjaaGreatDoorHF
import Derived.Test.YtafbolnkohebjaaGreatDoorCA
import Derived.Test.YtafbolnkohebjaaGreatDoorCR
import Derived.Test.YtafbolnkohebjaaGreatDoorCP
import Derived.Test.YtafbolnkohebjaaGreatDoorGen
import Derived.Test.YtafbolnkohebjaaGreatDoorHeld
import Derived.Test.YtafbolnkohebjaaGreatDoorFnt
import Derived.Test.YtafbolnkohebjaaGreatDoorCon
import Derived.SevenTiedAt
import Derived.Deep.Cut
import Derived.WalkKit
import Derived.WalkSpells
import Derived.Outline
import Derived.ProofKit
import Derived.OpenShut
import Derived.ShutString
import Derived.ChangeOld
import Derived.Below
import Derived.IntWalk
import Derived.BigQuiet
import Derived.Deep.QuietTactic
namespace Go.Proofs.YtafbolnkohebjaaGreatDoor.fnCurves
open Go.ChangeShapes Go.WideShapes Go.ChangeAt Go.RowKit

set_option maxRecDepth 100000 in
set_option maxHeartbeats 40000000 in
theorem walk (a0 : Option Addr) (n0 c0 : Nat) (f0 : Nat → Nat) (a1 : Option Addr) (n1 c1 : Nat) (f1 : Nat → Nat) (w : World) (y0 : Byt w a0 n0 f0) (y1 : Byt w a1 n1 f1) (ht : Tab w) (he : Errs w) (hm : MaxL w) : Calls Tryz.prog 3 #[.slice a0 n0 c0, .slice a1 n1 c1] w (RetB w true) := by
  go_enter Tryz.func3, Tryz.ntmps3
  have Ht := Lib.hid ht
  have He := Lib.hid he
  have Hm := Lib.hid hm
  have hlt0 := ht.lt
  clear ht he hm
  by_cases hlong : 3000 < n0 ∨ 3000 < n1
  · go_wp2_with fail
    refine (a2Long_long a0 a1 n0 n1 c0 c1 hlong w).mono ?_
    rintro e w' ⟨rfl, rfl⟩
    go_wp2
    go_ret
    exact ⟨rfl, Below.refl _ _⟩
  · have hn0 : n0 ≤ 3000 := by omega
    have hn1 : n1 ≤ 3000 := by omega
    clear hlong
    go_wp2_with fail
    refine (a2Long_short a0 a1 n0 n1 c0 c1 hn0 hn1 w).mono ?_
    rintro e w0 ⟨rfl, hw⟩
    subst hw
    go_wp2_with fail
    refine (A2Curve_any a0 n0 c0 f0 _ y0).mono ?_
    rintro e w2 ⟨V, hV, rfl, hb⟩
    obtain ⟨C, hC⟩ : ∃ K : Nat → Nat, Hid (∀ i, K i = pw (V i)) := ⟨fun i => pw (V i), Lib.hid fun _ => rfl⟩
    rw [show (fA 16 fun i => pw (V i)) = fA 16 C from fA_congr fun i _ => (hC.out i).symm]
    have HC : Hid (Drw C V) := Lib.hid ⟨hC.out, hV⟩
    clear hC hV
    have kC : Blk (w2.alloc (.cells (fA 16 C) 26)) w2.heap.size 26 (fA 16 C) := Blk.new _ _ _
    replace hb : Below w0.heap.size w0 (w2.alloc (.cells (fA 16 C) 26)) := hb.alloc hb.size _
    go_wp2_with (first | (refine wpList_store_new rfl 26 _ _ rfl _ rfl rfl (by kernel_rfl) rfl (all_fA _ _) ?_))
    refine (A2Curve_any a1 n1 c1 f1 _ (y1.to hb (Nat.le_refl _))).mono ?_
    rintro e w3 ⟨U, hU, rfl, hb1⟩
    obtain ⟨D, hD⟩ : ∃ K : Nat → Nat, Hid (∀ i, K i = pw (U i)) := ⟨fun i => pw (U i), Lib.hid fun _ => rfl⟩
    rw [show (fA 16 fun i => pw (U i)) = fA 16 D from fA_congr fun i _ => (hD.out i).symm]
    have HD : Hid (Drw D U) := Lib.hid ⟨hD.out, hU⟩
    clear hD hU
    replace kC := kC.below hb1 kC.lt
    replace hb := bCall hb hb1 hb.size
    clear hb1
    replace kC := kC.alloc (.cells (fA 16 D) 26)
    have kD : Blk (w3.alloc (.cells (fA 16 D) 26)) w3.heap.size 26 (fA 16 D) := Blk.new _ _ _
    replace hb : Below w0.heap.size w0 (w3.alloc (.cells (fA 16 D) 26)) := hb.alloc hb.size _
    go_wp2_with (first | (refine wpList_store_new rfl 26 _ _ rfl _ rfl rfl (by kernel_rfl) rfl (all_fA _ _) ?_))
    refine (A2Plain_any a1 n1 c1 f1 _ (y1.to hb (Nat.le_refl _))).mono ?_
    rintro e w4 ⟨q, hq, rfl, hb1⟩
    obtain ⟨X, hX⟩ : ∃ X, X = pw q := ⟨_, rfl⟩
    rw [← hX]
    have HX := Lib.hid hX
    have Hq := Lib.hid hq
    clear hX hq
    replace kC := kC.below hb1 kC.lt
    replace kD := kD.below hb1 kD.lt
    replace hb := bCall hb hb1 hb.size
    clear hb1
    go_wp2_with (first | (refine wpList_store_new rfl 26 _ _ rfl _ rfl rfl (by kernel_rfl) rfl (all_fA _ _) ?_) | (refine wpList_load_row rfl 26 _ rfl _ rfl _ _ (0, 0) _ kC Tryz.underlying26 rfl (by kernel_rfl) ?_) | (refine wpList_load_row rfl 26 _ rfl _ rfl _ _ (0, 0) _ kD Tryz.underlying26 rfl (by kernel_rfl) ?_))
    refine (iAddCurves_any C D _).mono ?_
    rintro e w11 ⟨S, rfl, hS_, hb1⟩
    have HS := Lib.hid hS_
    clear hS_
    replace kC := kC.below hb1 kC.lt
    replace kD := kD.below hb1 kD.lt
    replace hb := bCall hb hb1 hb.size
    clear hb1
    replace kC := kC.alloc (.cells (fA 16 S) 26)
    replace kD := kD.alloc (.cells (fA 16 S) 26)
    have kS : Blk (w11.alloc (.cells (fA 16 S) 26)) w11.heap.size 26 (fA 16 S) := Blk.new _ _ _
    replace hb : Below w0.heap.size w0 (w11.alloc (.cells (fA 16 S) 26)) := hb.alloc hb.size _
    go_wp2_with (first | (refine wpList_store_new rfl 26 _ _ rfl _ rfl rfl (by kernel_rfl) rfl (all_fA _ _) ?_))
    obtain ⟨WS, hWS⟩ : ∃ W : World, W = w11.alloc (.cells (fA 16 S) 26) := ⟨_, rfl⟩
    rw [← hWS] at kC kD kS hb ⊢
    clear hWS
    refine wp_region_hr GC (by kernel_rfl) (by kernel_rfl) ?_
    (refine (hr_plain rfl (fun K hK w1 hw1 => lrUpon_load rfl _ rfl _ _ _ _ (Blk.below kD hw1 kD.lt) Tryz.underlying26 rfl (by kernel_rfl) (fun N => hK _ _ ?_))); clear hK K)
    (refine (hr_plain rfl (fun K hK w1 hw1 => lrUpon_load rfl _ rfl _ _ _ _ (Blk.below kC hw1 kC.lt) Tryz.underlying26 rfl (by kernel_rfl) (fun N => hK _ _ ?_))); clear hK K)
    (refine (hr_plain rfl (fun K hK w1 hw1 => ?_)); go_simp; refine ⟨R.refl _, (iAddCurves_any _ _ _).mono ?_, fun u hu => hK _ _ ?_⟩; (rintro e w' ⟨r, rfl, hr, hb⟩; exact ⟨_, rfl, GC.add hr, hb⟩); clear hK K; obtain ⟨r1, rfl, Hr1⟩ := GC.ofAdd hu; clear hu)
    (refine (hr_plain rfl (fun K hK w1 hw1 => lrUpon_load rfl _ rfl _ _ _ _ (Blk.below kS hw1 kS.lt) Tryz.underlying26 rfl (by kernel_rfl) (fun N => hK _ _ ?_))); clear hK K)
    have hne : ∀ w, (binOp .neq 26 (.agg (fA 16 r1)) (.agg (fA 16 S))).run Tryz.prog w = .ok (.bool false) w := fun w => neq_row w 16 Tryz.underlying26 Tryz.underlying24 (by kernel_rfl) (add_swap HC.out HD.out HS.out Hr1.out)
    have heg : ∀ w x y, (eqGuard .neq 26 x y (.agg (fA 16 r1)) (.agg (fA 16 S))).run Tryz.prog w = .ok () w := fun w x y => run_eqGuard_agg w _ _ _ _ _ _ (by kernel_rfl)
    (refine hr_plain rfl (fun K hK w1 hw1 => ?_); go_simp; refine ⟨R.refl _, hK _ _ ?_⟩; clear hK K)
    (refine hr_plain rfl (fun K hK w1 hw1 => ?_); go_simp; refine ⟨R.refl _, hK _ _ ?_⟩; clear hK K)
    clear hne heg
    (refine (hr_want (by kernel_rfl) (fun K hK w1 hw1 => lrUpon_load rfl _ rfl _ _ _ _ (Blk.below kS hw1 kS.lt) Tryz.underlying26 rfl (by kernel_rfl) (fun N => hK _ _ ?_))); clear hK K)
    (refine (hr_want (by kernel_rfl) (fun K hK w1 hw1 => ?_)); go_simp; refine ⟨R.refl _, (iSumOfCurve_any _ _).mono ?_, fun u hu => hK _ _ ?_⟩; (rintro e w' ⟨r, rfl, hr, hb⟩; exact ⟨_, rfl, GC.sum hr, hb⟩); clear hK K; obtain ⟨x1, rfl, Hx1⟩ := GC.ofSum hu; clear hu)
    (refine (hr_want (by kernel_rfl) (fun K hK w1 hw1 => lrUpon_load rfl _ rfl _ _ _ _ (Blk.below kC hw1 kC.lt) Tryz.underlying26 rfl (by kernel_rfl) (fun N => hK _ _ ?_))); clear hK K)
    (refine (hr_want (by kernel_rfl) (fun K hK w1 hw1 => ?_)); go_simp; refine ⟨R.refl _, (iSumOfCurve_any _ _).mono ?_, fun u hu => hK _ _ ?_⟩; (rintro e w' ⟨r, rfl, hr, hb⟩; exact ⟨_, rfl, GC.sum hr, hb⟩); clear hK K; obtain ⟨x2, rfl, Hx2⟩ := GC.ofSum hu; clear hu)
    (refine (hr_want (by kernel_rfl) (fun K hK w1 hw1 => lrUpon_load rfl _ rfl _ _ _ _ (Blk.below kD hw1 kD.lt) Tryz.underlying26 rfl (by kernel_rfl) (fun N => hK _ _ ?_))); clear hK K)
    (refine (hr_want (by kernel_rfl) (fun K hK w1 hw1 => ?_)); go_simp; refine ⟨R.refl _, (iSumOfCurve_any _ _).mono ?_, fun u hu => hK _ _ ?_⟩; (rintro e w' ⟨r, rfl, hr, hb⟩; exact ⟨_, rfl, GC.sum hr, hb⟩); clear hK K; obtain ⟨x3, rfl, Hx3⟩ := GC.ofSum hu; clear hu)
    obtain ⟨x4, q4, n4, h4⟩ := op_word (op := .add) (x := x2) (y := x3) (sum_some HC.out HD.out Hx2.out Hx3.out)
    have o4 : FloatKind.f32.format.order x1 x4 = some .eq := sum_sum HC.out HD.out HS.out Hx1.out Hx2.out Hx3.out h4
    clear h4
    (refine (hr_want (by kernel_rfl) (fun K hK w1 hw1 => ?_)); go_simp; refine ⟨R.refl _, hK _ _ ?_⟩; clear hK K)
    (refine (hr_want (by kernel_rfl) (fun K hK w1 hw1 => ?_)); go_simp; refine ⟨R.refl _, hK _ _ ?_⟩; clear hK K)
    clear q4 n4 o4 Hx1 Hx2 Hx3
    (refine hr_plain rfl (fun K hK w1 hw1 => ?_); go_simp; refine ⟨R.refl _, hK _ _ ?_⟩; clear hK K)
    (refine hr_plain rfl (fun K hK w1 hw1 => ?_); go_simp; refine ⟨R.refl _, hK _ _ ?_⟩; clear hK K)
    (refine (hr_want (by kernel_rfl) (fun K hK w1 hw1 => lrUpon_load rfl _ rfl _ _ _ _ (Blk.below kC hw1 kC.lt) Tryz.underlying26 rfl (by kernel_rfl) (fun N => hK _ _ ?_))); clear hK K)
    (refine (hr_want (by kernel_rfl) (fun K hK w1 hw1 => lrUpon_load rfl _ rfl _ _ _ _ (Blk.below kD hw1 kD.lt) Tryz.underlying26 rfl (by kernel_rfl) (fun N => hK _ _ ?_))); clear hK K)
    (refine (hr_want (by kernel_rfl) (fun K hK w1 hw1 => ?_)); go_simp; refine ⟨R.refl _, (iDotOfCurves_any _ _ _).mono ?_, fun u hu => hK _ _ ?_⟩; (rintro e w' ⟨r, rfl, hr, hb⟩; exact ⟨_, rfl, GC.dot hr, hb⟩); clear hK K; obtain ⟨x5, rfl, Hx5⟩ := GC.ofDot hu; clear hu)
    (refine (hr_want (by kernel_rfl) (fun K hK w1 hw1 => lrUpon_load rfl _ rfl _ _ _ _ (Blk.below kC hw1 kC.lt) Tryz.underlying26 rfl (by kernel_rfl) (fun N => hK _ _ ?_))); clear hK K)
    (refine (hr_want (by kernel_rfl) (fun K hK w1 hw1 => lrUpon_load rfl _ rfl _ _ _ _ (Blk.below kD hw1 kD.lt) Tryz.underlying26 rfl (by kernel_rfl) (fun N => hK _ _ ?_))); clear hK K)
    (refine (hr_want (by kernel_rfl) (fun K hK w1 hw1 => ?_)); go_simp; refine ⟨R.refl _, (iMulCurves_any _ _ _).mono ?_, fun u hu => hK _ _ ?_⟩; (rintro e w' ⟨r, rfl, hr, hb⟩; exact ⟨_, rfl, GC.mul hr, hb⟩); clear hK K; obtain ⟨r2, rfl, Hr2⟩ := GC.ofMul hu; clear hu)
    (refine (hr_want (by kernel_rfl) (fun K hK w1 hw1 => ?_)); go_simp; refine ⟨R.refl _, (iSumOfCurve_any _ _).mono ?_, fun u hu => hK _ _ ?_⟩; (rintro e w' ⟨r, rfl, hr, hb⟩; exact ⟨_, rfl, GC.sum hr, hb⟩); clear hK K; obtain ⟨x6, rfl, Hx6⟩ := GC.ofSum hu; clear hu)
    have o5 : FloatKind.f32.format.order x5 x6 = some .eq := dot_mul HC.out HD.out Hr2.out Hx5.out Hx6.out
    (refine (hr_want (by kernel_rfl) (fun K hK w1 hw1 => ?_)); go_simp; refine ⟨R.refl _, hK _ _ ?_⟩; clear hK K)
    clear o5 Hx5 Hx6 Hr2
    (refine hr_plain rfl (fun K hK w1 hw1 => ?_); go_simp; refine ⟨R.refl _, hK _ _ ?_⟩; clear hK K)
    (refine hr_plain rfl (fun K hK w1 hw1 => ?_); go_simp; refine ⟨R.refl _, hK _ _ ?_⟩; clear hK K)
    (refine (hr_want (by kernel_rfl) (fun K hK w1 hw1 => lrUpon_load rfl _ rfl _ _ _ _ (Blk.below kC hw1 kC.lt) Tryz.underlying26 rfl (by kernel_rfl) (fun N => hK _ _ ?_))); clear hK K)
    (refine (hr_want (by kernel_rfl) (fun K hK w1 hw1 => ?_)); go_simp; refine ⟨R.refl _, (iFlatCurve_any _ _).mono ?_, fun u hu => hK _ _ ?_⟩; (rintro e w' ⟨r, rfl, hr, hb⟩; exact ⟨_, rfl, GC.flat hr, hb⟩); clear hK K; obtain ⟨r3, rfl, Hr3⟩ := GC.ofFlat hu; clear hu)
    (refine (hr_want (by kernel_rfl) (fun K hK w1 hw1 => ?_)); go_simp; refine ⟨R.refl _, (iDotOfCurves_any _ _ _).mono ?_, fun u hu => hK _ _ ?_⟩; (rintro e w' ⟨r, rfl, hr, hb⟩; exact ⟨_, rfl, GC.dot hr, hb⟩); clear hK K; obtain ⟨x7, rfl, Hx7⟩ := GC.ofDot hu; clear hu)
    (refine (hr_want (by kernel_rfl) (fun K hK w1 hw1 => lrUpon_load rfl _ rfl _ _ _ _ (Blk.below kC hw1 kC.lt) Tryz.underlying26 rfl (by kernel_rfl) (fun N => hK _ _ ?_))); clear hK K)
    (refine (hr_want (by kernel_rfl) (fun K hK w1 hw1 => ?_)); go_simp; refine ⟨R.refl _, (iSumOfCurve_any _ _).mono ?_, fun u hu => hK _ _ ?_⟩; (rintro e w' ⟨r, rfl, hr, hb⟩; exact ⟨_, rfl, GC.sum hr, hb⟩); clear hK K; obtain ⟨x8, rfl, Hx8⟩ := GC.ofSum hu; clear hu)
    have o6 : FloatKind.f32.format.order x7 x8 = some .eq := dot_one HC.out Hr3.out Hx7.out Hx8.out
    (refine (hr_want (by kernel_rfl) (fun K hK w1 hw1 => ?_)); go_simp; refine ⟨R.refl _, hK _ _ ?_⟩; clear hK K)
    (refine hr_plain rfl (fun K hK w1 hw1 => ?_); go_simp; refine ⟨R.refl _, hK _ _ ?_⟩; clear hK K)
    clear o6 Hx7 Hx8 Hr3 Hr1
    refine hr_nil ?_
    intro W2 hW1 hSS
    clear hSS
    replace kC := kC.below hW1 kC.lt
    replace kD := kD.below hW1 kD.lt
    replace kS := kS.below hW1 kS.lt
    replace hb := bCall hb hW1 hb.size
    clear hW1
    clear kS
    clear HS
    go_wp2_with (first | (refine wpList_store_new rfl 26 _ _ rfl _ rfl rfl (by kernel_rfl) rfl (all_fA _ _) ?_) | (refine wpList_load_row rfl 26 _ rfl _ rfl _ _ (0, 0) _ kC Tryz.underlying26 rfl (by kernel_rfl) ?_) | (refine wpList_load_row rfl 26 _ rfl _ rfl _ _ (0, 0) _ kD Tryz.underlying26 rfl (by kernel_rfl) ?_))
    refine (iMixCurves_any C D X _).mono ?_
    rintro e w12 ⟨M, rfl, hM_, hb1⟩
    have HM := Lib.hid hM_
    clear hM_
    replace kC := kC.below hb1 kC.lt
    replace kD := kD.below hb1 kD.lt
    replace hb := bCall hb hb1 hb.size
    clear hb1
    replace kC := kC.alloc (.cells (fA 16 M) 26)
    replace kD := kD.alloc (.cells (fA 16 M) 26)
    have kM : Blk (w12.alloc (.cells (fA 16 M) 26)) w12.heap.size 26 (fA 16 M) := Blk.new _ _ _
    replace hb : Below w0.heap.size w0 (w12.alloc (.cells (fA 16 M) 26)) := hb.alloc hb.size _
    obtain ⟨bl, hbl, bl16, bl1, bl2⟩ := least_of HC.out.2
    obtain ⟨bm, hbm, bm16, bm1, bm2⟩ := greatest_of HC.out.2
    go_wp2_with (first | (refine wpList_store_new rfl 26 _ _ rfl _ rfl rfl (by kernel_rfl) rfl (all_fA _ _) ?_) | (refine wpList_load_row rfl 26 _ rfl _ rfl _ _ (0, 0) _ kC Tryz.underlying26 rfl (by kernel_rfl) ?_))
    refine (iLeastOf_any C _).mono ?_
    rintro e w13 ⟨L, rfl, hL_, hb1⟩
    rw [show (fun i => canon .f32 (C i)) = fun i => canon .f32 (pw (V i)) from funext fun i => by rw [HC.out.1 i], hbl] at hL_ ⊢
    have HL : Hid (canon .f32 L = canon .f32 (C bl)) := Lib.hid (hL_.trans (by rw [HC.out.1 bl]; rfl))
    clear hL_
    rw [show endAt (some bl) = (bl : Int) from rfl]
    replace kC := kC.below hb1 kC.lt
    replace kD := kD.below hb1 kD.lt
    replace kM := kM.below hb1 kM.lt
    replace hb := bCall hb hb1 hb.size
    clear hb1
    go_wp2_with (first | (refine wpList_store_new rfl 26 _ _ rfl _ rfl rfl (by kernel_rfl) rfl (all_fA _ _) ?_) | (refine wpList_load_row rfl 26 _ rfl _ rfl _ _ (0, 0) _ kC Tryz.underlying26 rfl (by kernel_rfl) ?_))
    refine (iGreatestOf_any C _).mono ?_
    rintro e w14 ⟨G, rfl, hG_, hb1⟩
    rw [show (fun i => canon .f32 (C i)) = fun i => canon .f32 (pw (V i)) from funext fun i => by rw [HC.out.1 i], hbm] at hG_ ⊢
    have HG : Hid (canon .f32 G = canon .f32 (C bm)) := Lib.hid (hG_.trans (by rw [HC.out.1 bm]; rfl))
    clear hG_
    rw [show endAt (some bm) = (bm : Int) from rfl]
    replace kC := kC.below hb1 kC.lt
    replace kD := kD.below hb1 kD.lt
    replace kM := kM.below hb1 kM.lt
    replace hb := bCall hb hb1 hb.size
    clear hb1
    have Hbl := Lib.hid bl1
    have Hbl2 := Lib.hid bl2
    have Hbm := Lib.hid bm1
    have Hbm2 := Lib.hid bm2
    clear bl1 bl2 bm1 bm2 hbl hbm
    go_wp2_with (first | (refine wpList_store_new rfl 26 _ _ rfl _ rfl rfl (by kernel_rfl) rfl (all_fA _ _) ?_) | (refine wpList_load_row rfl 26 _ rfl _ rfl _ _ (0, 0) _ kC Tryz.underlying26 rfl (by kernel_rfl) ?_))
    refine (iScaleCurve_any C X _).mono ?_
    rintro e w15 ⟨Z, rfl, hZ_, hb1⟩
    have HZ := Lib.hid hZ_
    clear hZ_
    replace kC := kC.below hb1 kC.lt
    replace kD := kD.below hb1 kD.lt
    replace kM := kM.below hb1 kM.lt
    replace hb := bCall hb hb1 hb.size
    clear hb1
    replace kC := kC.alloc (.cells (fA 16 Z) 26)
    replace kD := kD.alloc (.cells (fA 16 Z) 26)
    replace kM := kM.alloc (.cells (fA 16 Z) 26)
    have kZ : Blk (w15.alloc (.cells (fA 16 Z) 26)) w15.heap.size 26 (fA 16 Z) := Blk.new _ _ _
    replace hb : Below w0.heap.size w0 (w15.alloc (.cells (fA 16 Z) 26)) := hb.alloc hb.size _
    go_wp2_with (first | (refine wpList_store_new rfl 26 _ _ rfl _ rfl rfl (by kernel_rfl) rfl (all_fA _ _) ?_))
    go_loopw [15] (fun i wr => ∃ (j : Nat), j ≤ 16 ∧ i = .int .i64 j ∧ Below w0.heap.size w0 wr ∧ Blk wr w2.heap.size 26 (fA 16 C) ∧ Blk wr w3.heap.size 26 (fA 16 D) ∧ Blk wr w12.heap.size 26 (fA 16 M) ∧ Blk wr w15.heap.size 26 (fA 16 Z)) (fun i _ => 16 - (intOf i).toNat)
    case atStart => exact ⟨0, by omega, rfl, hb, kC, kD, kM, kZ⟩
    case round =>
      clear hb kC kD kM kZ
      obtain ⟨j, hj, rfl, hb, kC, kD, kM, kZ⟩ := hrel
      by_cases hlt : j < 16
      · have o1 : (FloatKind.f32.format.order (C j) L == some .lt) = false := low_lt HC.out HL.out (Hbl.out j hlt)
        have o2 : (FloatKind.f32.format.order (C j) G == some .gt) = false := high_gt HC.out HG.out (Hbm.out j hlt)
        obtain ⟨x5, q5, n5, h5⟩ := op_word (op := .mul) (x := C j) (y := X) (scale_prt HC.out HX.out Hq.out j).some
        have o5 : FloatKind.f32.format.order (Z j) x5 = some .eq := scale_eq HC.out HX.out Hq.out (HZ.out j hlt) h5
        clear h5
        have HP := Lib.hid (mixed_prt HC.out HD.out HX.out Hq.out (HM.out j hlt))
        have HI := Lib.hid (mixed_in (V := V) (U := U) (j := j) Hq.out)
        go_wp2_with fail
        simp only [List.append_eq, List.cons_append, List.nil_append]
        by_cases hl : j < bl
        · have dl : decide ((j : Int) < (bl : Int)) = true := by simp; omega
          have o3 : (FloatKind.f32.format.order (C j) L == some .eq) = false := low_eq HC.out HL.out (Hbl2.out j hl)
          by_cases hm : j < bm
          · have dm : decide ((j : Int) < (bm : Int)) = true := by simp; omega
            have o4 : (FloatKind.f32.format.order (C j) G == some .eq) = false := high_eq HC.out HG.out (Hbm2.out j hm)
            by_cases h6 : mixN V U q j < V j * 64
            · have h7 : ¬ mixN V U q j < U j * 64 := fun h => HI.out.1 ⟨h6, h⟩
              have o6 : (FloatKind.f32.format.order (M j) (C j) == some .lt) = true := by rw [mixed_lt HP.out (HC.out.prt j)]; exact decide_eq_true h6
              have o7 : (FloatKind.f32.format.order (M j) (D j) == some .lt) = false := by rw [mixed_lt HP.out (HD.out.prt j)]; exact decide_eq_false h7
              have o8 : (FloatKind.f32.format.order (M j) (C j) == some .gt) = false := by rw [mixed_gt HP.out (HC.out.prt j)]; exact decide_eq_false (by omega)
              clear h6 h7
              as_aux_lemma =>
                have e1 := (kC.cell j).trans (get_fA_lt C hlt)
                have e2 := (kD.cell j).trans (get_fA_lt D hlt)
                have e3 := (kM.cell j).trans (get_fA_lt M hlt)
                have e4 := (kZ.cell j).trans (get_fA_lt Z hlt)
                go_quiet (fail)
                clear e1 e2 e3 e4 o1 o2 o5 o6 o8 dl dm hl hm q5 n5
                replace kC := kC.drewN nq
                replace kD := kD.drewN nq
                replace kM := kM.drewN nq
                replace kZ := kZ.drewN nq
                replace hb := bDrew hb nq
                go_wp2
                go_roundw
                case rel => exact ⟨j + 1, by omega, by go_num, hb, kC, kD, kM, kZ⟩
                case measure => simp [intOf]; omega
            by_cases h8 : V j * 64 < mixN V U q j
            · have h9 : ¬ U j * 64 < mixN V U q j := fun h => HI.out.2 ⟨h8, h⟩
              have o6 : (FloatKind.f32.format.order (M j) (C j) == some .lt) = false := by rw [mixed_lt HP.out (HC.out.prt j)]; exact decide_eq_false h6
              have o8 : (FloatKind.f32.format.order (M j) (C j) == some .gt) = true := by rw [mixed_gt HP.out (HC.out.prt j)]; exact decide_eq_true h8
              have o9 : (FloatKind.f32.format.order (M j) (D j) == some .gt) = false := by rw [mixed_gt HP.out (HD.out.prt j)]; exact decide_eq_false h9
              clear h6 h8 h9
              as_aux_lemma =>
                have e1 := (kC.cell j).trans (get_fA_lt C hlt)
                have e2 := (kD.cell j).trans (get_fA_lt D hlt)
                have e3 := (kM.cell j).trans (get_fA_lt M hlt)
                have e4 := (kZ.cell j).trans (get_fA_lt Z hlt)
                go_quiet (fail)
                clear e1 e2 e3 e4 o1 o2 o5 o6 o8 dl dm hl hm q5 n5
                replace kC := kC.drewN nq
                replace kD := kD.drewN nq
                replace kM := kM.drewN nq
                replace kZ := kZ.drewN nq
                replace hb := bDrew hb nq
                go_wp2
                go_roundw
                case rel => exact ⟨j + 1, by omega, by go_num, hb, kC, kD, kM, kZ⟩
                case measure => simp [intOf]; omega
            have o6 : (FloatKind.f32.format.order (M j) (C j) == some .lt) = false := by rw [mixed_lt HP.out (HC.out.prt j)]; exact decide_eq_false h6
            have o8 : (FloatKind.f32.format.order (M j) (C j) == some .gt) = false := by rw [mixed_gt HP.out (HC.out.prt j)]; exact decide_eq_false h8
            clear h6 h8
            as_aux_lemma =>
              have e1 := (kC.cell j).trans (get_fA_lt C hlt)
              have e2 := (kD.cell j).trans (get_fA_lt D hlt)
              have e3 := (kM.cell j).trans (get_fA_lt M hlt)
              have e4 := (kZ.cell j).trans (get_fA_lt Z hlt)
              go_quiet (fail)
              clear e1 e2 e3 e4 o1 o2 o5 o6 o8 dl dm hl hm q5 n5
              replace kC := kC.drewN nq
              replace kD := kD.drewN nq
              replace kM := kM.drewN nq
              replace kZ := kZ.drewN nq
              replace hb := bDrew hb nq
              go_wp2
              go_roundw
              case rel => exact ⟨j + 1, by omega, by go_num, hb, kC, kD, kM, kZ⟩
              case measure => simp [intOf]; omega
          · have dm : decide ((j : Int) < (bm : Int)) = false := by simp; omega
            by_cases h6 : mixN V U q j < V j * 64
            · have h7 : ¬ mixN V U q j < U j * 64 := fun h => HI.out.1 ⟨h6, h⟩
              have o6 : (FloatKind.f32.format.order (M j) (C j) == some .lt) = true := by rw [mixed_lt HP.out (HC.out.prt j)]; exact decide_eq_true h6
              have o7 : (FloatKind.f32.format.order (M j) (D j) == some .lt) = false := by rw [mixed_lt HP.out (HD.out.prt j)]; exact decide_eq_false h7
              have o8 : (FloatKind.f32.format.order (M j) (C j) == some .gt) = false := by rw [mixed_gt HP.out (HC.out.prt j)]; exact decide_eq_false (by omega)
              clear h6 h7
              as_aux_lemma =>
                have e1 := (kC.cell j).trans (get_fA_lt C hlt)
                have e2 := (kD.cell j).trans (get_fA_lt D hlt)
                have e3 := (kM.cell j).trans (get_fA_lt M hlt)
                have e4 := (kZ.cell j).trans (get_fA_lt Z hlt)
                go_quiet (fail)
                clear e1 e2 e3 e4 o1 o2 o5 o6 o8 dl dm hl hm q5 n5
                replace kC := kC.drewN nq
                replace kD := kD.drewN nq
                replace kM := kM.drewN nq
                replace kZ := kZ.drewN nq
                replace hb := bDrew hb nq
                go_wp2
                go_roundw
                case rel => exact ⟨j + 1, by omega, by go_num, hb, kC, kD, kM, kZ⟩
                case measure => simp [intOf]; omega
            by_cases h8 : V j * 64 < mixN V U q j
            · have h9 : ¬ U j * 64 < mixN V U q j := fun h => HI.out.2 ⟨h8, h⟩
              have o6 : (FloatKind.f32.format.order (M j) (C j) == some .lt) = false := by rw [mixed_lt HP.out (HC.out.prt j)]; exact decide_eq_false h6
              have o8 : (FloatKind.f32.format.order (M j) (C j) == some .gt) = true := by rw [mixed_gt HP.out (HC.out.prt j)]; exact decide_eq_true h8
              have o9 : (FloatKind.f32.format.order (M j) (D j) == some .gt) = false := by rw [mixed_gt HP.out (HD.out.prt j)]; exact decide_eq_false h9
              clear h6 h8 h9
              as_aux_lemma =>
                have e1 := (kC.cell j).trans (get_fA_lt C hlt)
                have e2 := (kD.cell j).trans (get_fA_lt D hlt)
                have e3 := (kM.cell j).trans (get_fA_lt M hlt)
                have e4 := (kZ.cell j).trans (get_fA_lt Z hlt)
                go_quiet (fail)
                clear e1 e2 e3 e4 o1 o2 o5 o6 o8 dl dm hl hm q5 n5
                replace kC := kC.drewN nq
                replace kD := kD.drewN nq
                replace kM := kM.drewN nq
                replace kZ := kZ.drewN nq
                replace hb := bDrew hb nq
                go_wp2
                go_roundw
                case rel => exact ⟨j + 1, by omega, by go_num, hb, kC, kD, kM, kZ⟩
                case measure => simp [intOf]; omega
            have o6 : (FloatKind.f32.format.order (M j) (C j) == some .lt) = false := by rw [mixed_lt HP.out (HC.out.prt j)]; exact decide_eq_false h6
            have o8 : (FloatKind.f32.format.order (M j) (C j) == some .gt) = false := by rw [mixed_gt HP.out (HC.out.prt j)]; exact decide_eq_false h8
            clear h6 h8
            as_aux_lemma =>
              have e1 := (kC.cell j).trans (get_fA_lt C hlt)
              have e2 := (kD.cell j).trans (get_fA_lt D hlt)
              have e3 := (kM.cell j).trans (get_fA_lt M hlt)
              have e4 := (kZ.cell j).trans (get_fA_lt Z hlt)
              go_quiet (fail)
              clear e1 e2 e3 e4 o1 o2 o5 o6 o8 dl dm hl hm q5 n5
              replace kC := kC.drewN nq
              replace kD := kD.drewN nq
              replace kM := kM.drewN nq
              replace kZ := kZ.drewN nq
              replace hb := bDrew hb nq
              go_wp2
              go_roundw
              case rel => exact ⟨j + 1, by omega, by go_num, hb, kC, kD, kM, kZ⟩
              case measure => simp [intOf]; omega
        · have dl : decide ((j : Int) < (bl : Int)) = false := by simp; omega
          by_cases hm : j < bm
          · have dm : decide ((j : Int) < (bm : Int)) = true := by simp; omega
            have o4 : (FloatKind.f32.format.order (C j) G == some .eq) = false := high_eq HC.out HG.out (Hbm2.out j hm)
            by_cases h6 : mixN V U q j < V j * 64
            · have h7 : ¬ mixN V U q j < U j * 64 := fun h => HI.out.1 ⟨h6, h⟩
              have o6 : (FloatKind.f32.format.order (M j) (C j) == some .lt) = true := by rw [mixed_lt HP.out (HC.out.prt j)]; exact decide_eq_true h6
              have o7 : (FloatKind.f32.format.order (M j) (D j) == some .lt) = false := by rw [mixed_lt HP.out (HD.out.prt j)]; exact decide_eq_false h7
              have o8 : (FloatKind.f32.format.order (M j) (C j) == some .gt) = false := by rw [mixed_gt HP.out (HC.out.prt j)]; exact decide_eq_false (by omega)
              clear h6 h7
              as_aux_lemma =>
                have e1 := (kC.cell j).trans (get_fA_lt C hlt)
                have e2 := (kD.cell j).trans (get_fA_lt D hlt)
                have e3 := (kM.cell j).trans (get_fA_lt M hlt)
                have e4 := (kZ.cell j).trans (get_fA_lt Z hlt)
                go_quiet (fail)
                clear e1 e2 e3 e4 o1 o2 o5 o6 o8 dl dm hl hm q5 n5
                replace kC := kC.drewN nq
                replace kD := kD.drewN nq
                replace kM := kM.drewN nq
                replace kZ := kZ.drewN nq
                replace hb := bDrew hb nq
                go_wp2
                go_roundw
                case rel => exact ⟨j + 1, by omega, by go_num, hb, kC, kD, kM, kZ⟩
                case measure => simp [intOf]; omega
            by_cases h8 : V j * 64 < mixN V U q j
            · have h9 : ¬ U j * 64 < mixN V U q j := fun h => HI.out.2 ⟨h8, h⟩
              have o6 : (FloatKind.f32.format.order (M j) (C j) == some .lt) = false := by rw [mixed_lt HP.out (HC.out.prt j)]; exact decide_eq_false h6
              have o8 : (FloatKind.f32.format.order (M j) (C j) == some .gt) = true := by rw [mixed_gt HP.out (HC.out.prt j)]; exact decide_eq_true h8
              have o9 : (FloatKind.f32.format.order (M j) (D j) == some .gt) = false := by rw [mixed_gt HP.out (HD.out.prt j)]; exact decide_eq_false h9
              clear h6 h8 h9
              as_aux_lemma =>
                have e1 := (kC.cell j).trans (get_fA_lt C hlt)
                have e2 := (kD.cell j).trans (get_fA_lt D hlt)
                have e3 := (kM.cell j).trans (get_fA_lt M hlt)
                have e4 := (kZ.cell j).trans (get_fA_lt Z hlt)
                go_quiet (fail)
                clear e1 e2 e3 e4 o1 o2 o5 o6 o8 dl dm hl hm q5 n5
                replace kC := kC.drewN nq
                replace kD := kD.drewN nq
                replace kM := kM.drewN nq
                replace kZ := kZ.drewN nq
                replace hb := bDrew hb nq
                go_wp2
                go_roundw
                case rel => exact ⟨j + 1, by omega, by go_num, hb, kC, kD, kM, kZ⟩
                case measure => simp [intOf]; omega
            have o6 : (FloatKind.f32.format.order (M j) (C j) == some .lt) = false := by rw [mixed_lt HP.out (HC.out.prt j)]; exact decide_eq_false h6
            have o8 : (FloatKind.f32.format.order (M j) (C j) == some .gt) = false := by rw [mixed_gt HP.out (HC.out.prt j)]; exact decide_eq_false h8
            clear h6 h8
            as_aux_lemma =>
              have e1 := (kC.cell j).trans (get_fA_lt C hlt)
              have e2 := (kD.cell j).trans (get_fA_lt D hlt)
              have e3 := (kM.cell j).trans (get_fA_lt M hlt)
              have e4 := (kZ.cell j).trans (get_fA_lt Z hlt)
              go_quiet (fail)
              clear e1 e2 e3 e4 o1 o2 o5 o6 o8 dl dm hl hm q5 n5
              replace kC := kC.drewN nq
              replace kD := kD.drewN nq
              replace kM := kM.drewN nq
              replace kZ := kZ.drewN nq
              replace hb := bDrew hb nq
              go_wp2
              go_roundw
              case rel => exact ⟨j + 1, by omega, by go_num, hb, kC, kD, kM, kZ⟩
              case measure => simp [intOf]; omega
          · have dm : decide ((j : Int) < (bm : Int)) = false := by simp; omega
            by_cases h6 : mixN V U q j < V j * 64
            · have h7 : ¬ mixN V U q j < U j * 64 := fun h => HI.out.1 ⟨h6, h⟩
              have o6 : (FloatKind.f32.format.order (M j) (C j) == some .lt) = true := by rw [mixed_lt HP.out (HC.out.prt j)]; exact decide_eq_true h6
              have o7 : (FloatKind.f32.format.order (M j) (D j) == some .lt) = false := by rw [mixed_lt HP.out (HD.out.prt j)]; exact decide_eq_false h7
              have o8 : (FloatKind.f32.format.order (M j) (C j) == some .gt) = false := by rw [mixed_gt HP.out (HC.out.prt j)]; exact decide_eq_false (by omega)
              clear h6 h7
              as_aux_lemma =>
                have e1 := (kC.cell j).trans (get_fA_lt C hlt)
                have e2 := (kD.cell j).trans (get_fA_lt D hlt)
                have e3 := (kM.cell j).trans (get_fA_lt M hlt)
                have e4 := (kZ.cell j).trans (get_fA_lt Z hlt)
                go_quiet (fail)
                clear e1 e2 e3 e4 o1 o2 o5 o6 o8 dl dm hl hm q5 n5
                replace kC := kC.drewN nq
                replace kD := kD.drewN nq
                replace kM := kM.drewN nq
                replace kZ := kZ.drewN nq
                replace hb := bDrew hb nq
                go_wp2
                go_roundw
                case rel => exact ⟨j + 1, by omega, by go_num, hb, kC, kD, kM, kZ⟩
                case measure => simp [intOf]; omega
            by_cases h8 : V j * 64 < mixN V U q j
            · have h9 : ¬ U j * 64 < mixN V U q j := fun h => HI.out.2 ⟨h8, h⟩
              have o6 : (FloatKind.f32.format.order (M j) (C j) == some .lt) = false := by rw [mixed_lt HP.out (HC.out.prt j)]; exact decide_eq_false h6
              have o8 : (FloatKind.f32.format.order (M j) (C j) == some .gt) = true := by rw [mixed_gt HP.out (HC.out.prt j)]; exact decide_eq_true h8
              have o9 : (FloatKind.f32.format.order (M j) (D j) == some .gt) = false := by rw [mixed_gt HP.out (HD.out.prt j)]; exact decide_eq_false h9
              clear h6 h8 h9
              as_aux_lemma =>
                have e1 := (kC.cell j).trans (get_fA_lt C hlt)
                have e2 := (kD.cell j).trans (get_fA_lt D hlt)
                have e3 := (kM.cell j).trans (get_fA_lt M hlt)
                have e4 := (kZ.cell j).trans (get_fA_lt Z hlt)
                go_quiet (fail)
                clear e1 e2 e3 e4 o1 o2 o5 o6 o8 dl dm hl hm q5 n5
                replace kC := kC.drewN nq
                replace kD := kD.drewN nq
                replace kM := kM.drewN nq
                replace kZ := kZ.drewN nq
                replace hb := bDrew hb nq
                go_wp2
                go_roundw
                case rel => exact ⟨j + 1, by omega, by go_num, hb, kC, kD, kM, kZ⟩
                case measure => simp [intOf]; omega
            have o6 : (FloatKind.f32.format.order (M j) (C j) == some .lt) = false := by rw [mixed_lt HP.out (HC.out.prt j)]; exact decide_eq_false h6
            have o8 : (FloatKind.f32.format.order (M j) (C j) == some .gt) = false := by rw [mixed_gt HP.out (HC.out.prt j)]; exact decide_eq_false h8
            clear h6 h8
            as_aux_lemma =>
              have e1 := (kC.cell j).trans (get_fA_lt C hlt)
              have e2 := (kD.cell j).trans (get_fA_lt D hlt)
              have e3 := (kM.cell j).trans (get_fA_lt M hlt)
              have e4 := (kZ.cell j).trans (get_fA_lt Z hlt)
              go_quiet (fail)
              clear e1 e2 e3 e4 o1 o2 o5 o6 o8 dl dm hl hm q5 n5
              replace kC := kC.drewN nq
              replace kD := kD.drewN nq
              replace kM := kM.drewN nq
              replace kZ := kZ.drewN nq
              replace hb := bDrew hb nq
              go_wp2
              go_roundw
              case rel => exact ⟨j + 1, by omega, by go_num, hb, kC, kD, kM, kZ⟩
              case measure => simp [intOf]; omega
      · obtain rfl : j = 16 := by omega
        clear kM kZ HM HZ
        as_aux_lemma =>
          have db0 : decide ((bl : Int) < 0) = false := by simp
          have db1 : decide ((15 : Int) < (bl : Int)) = false := by simp; omega
          have dm0 : decide ((bm : Int) < 0) = false := by simp
          have dm1 : decide ((15 : Int) < (bm : Int)) = false := by simp; omega
          have lb1 : (bl : Int) < 16 := by omega
          have lm1 : (bm : Int) < 16 := by omega
          have o1 : FloatKind.f32.format.order (C bl) L = some .eq := end_eq HC.out HL.out
          have o2 : FloatKind.f32.format.order (C bm) G = some .eq := end_eq HC.out HG.out
          go_wp2_with fail
          refine wp_region_hr GC (by kernel_rfl) (by kernel_rfl) ?_
          (refine hr_plain rfl (fun K hK w1 hw1 => ?_); go_simp; refine ⟨R.refl _, hK _ _ ?_⟩; clear hK K)
          (refine hr_plain rfl (fun K hK w1 hw1 => ?_); go_simp; refine ⟨R.refl _, hK _ _ ?_⟩; clear hK K)
          (refine hr_plain rfl (fun K hK w1 hw1 => ?_); go_simp; refine ⟨R.refl _, hK _ _ ?_⟩; clear hK K)
          (refine (hr_want (by kernel_rfl) (fun K hK w1 hw1 => ?_)); go_simp; refine ⟨R.refl _, hK _ _ ?_⟩; clear hK K)
          (refine (hr_want (by kernel_rfl) (fun K hK w1 hw1 => ?_)); go_simp; refine ⟨R.refl _, hK _ _ ?_⟩; clear hK K)
          (refine hr_plain rfl (fun K hK w1 hw1 => ?_); go_simp; refine ⟨R.refl _, hK _ _ ?_⟩; clear hK K)
          (refine hr_plain rfl (fun K hK w1 hw1 => ?_); go_simp; refine ⟨R.refl _, hK _ _ ?_⟩; clear hK K)
          (refine (hr_want (by kernel_rfl) (fun K hK w1 hw1 => ?_)); go_simp; refine ⟨R.refl _, hK _ _ ?_⟩; clear hK K)
          (refine (hr_want (by kernel_rfl) (fun K hK w1 hw1 => ?_)); go_simp; refine ⟨R.refl _, hK _ _ ?_⟩; clear hK K)
          (refine hr_plain rfl (fun K hK w1 hw1 => ?_); go_simp; refine ⟨R.refl _, hK _ _ ?_⟩; clear hK K)
          (refine hr_plain rfl (fun K hK w1 hw1 => ?_); go_simp; refine ⟨R.refl _, hK _ _ ?_⟩; clear hK K)
          (refine (hr_want (by kernel_rfl) (fun K hK w1 hw1 => ?_)); go_simp; refine ⟨R.refl _, hK _ _ ?_⟩; clear hK K)
          (refine (hr_want (by kernel_rfl) (fun K hK w1 hw1 => ?_)); go_simp; refine ⟨R.refl _, hK _ _ ?_⟩; clear hK K)
          (refine hr_plain rfl (fun K hK w1 hw1 => ?_); go_simp; refine ⟨R.refl _, hK _ _ ?_⟩; clear hK K)
          (refine hr_plain rfl (fun K hK w1 hw1 => ?_); go_simp; refine ⟨R.refl _, hK _ _ ?_⟩; clear hK K)
          (refine (hr_want (by kernel_rfl) (fun K hK w1 hw1 => ?_)); go_simp; refine ⟨R.refl _, hK _ _ ?_⟩; clear hK K)
          (refine (hr_want (by kernel_rfl) (fun K hK w1 hw1 => ?_)); go_simp; refine ⟨R.refl _, hK _ _ ?_⟩; clear hK K)
          (refine (hr_want (by kernel_rfl) (fun K hK w1 hw1 => ?_)); have c1 := ((Blk.below kC hw1 kC.lt).cell bl).trans (get_fA_lt C (by omega)); go_simp; refine ⟨R.refl _, hK _ _ ?_⟩; clear hK K)
          (refine (hr_want (by kernel_rfl) (fun K hK w1 hw1 => ?_)); go_simp; refine ⟨R.refl _, hK _ _ ?_⟩; clear hK K)
          (refine (hr_want (by kernel_rfl) (fun K hK w1 hw1 => ?_)); go_simp; refine ⟨R.refl _, hK _ _ ?_⟩; clear hK K)
          (refine hr_plain rfl (fun K hK w1 hw1 => ?_); go_simp; refine ⟨R.refl _, hK _ _ ?_⟩; clear hK K)
          (refine hr_plain rfl (fun K hK w1 hw1 => ?_); go_simp; refine ⟨R.refl _, hK _ _ ?_⟩; clear hK K)
          (refine (hr_want (by kernel_rfl) (fun K hK w1 hw1 => ?_)); go_simp; refine ⟨R.refl _, hK _ _ ?_⟩; clear hK K)
          (refine (hr_want (by kernel_rfl) (fun K hK w1 hw1 => ?_)); go_simp; refine ⟨R.refl _, hK _ _ ?_⟩; clear hK K)
          (refine (hr_want (by kernel_rfl) (fun K hK w1 hw1 => ?_)); have c1 := ((Blk.below kC hw1 kC.lt).cell bm).trans (get_fA_lt C (by omega)); go_simp; refine ⟨R.refl _, hK _ _ ?_⟩; clear hK K)
          (refine (hr_want (by kernel_rfl) (fun K hK w1 hw1 => ?_)); go_simp; refine ⟨R.refl _, hK _ _ ?_⟩; clear hK K)
          (refine (hr_want (by kernel_rfl) (fun K hK w1 hw1 => ?_)); go_simp; refine ⟨R.refl _, hK _ _ ?_⟩; clear hK K)
          (refine hr_plain rfl (fun K hK w1 hw1 => ?_); go_simp; refine ⟨R.refl _, hK _ _ ?_⟩; clear hK K)
          (refine hr_plain rfl (fun K hK w1 hw1 => ?_); go_simp; refine ⟨R.refl _, hK _ _ ?_⟩; clear hK K)
          (refine (hr_want (by kernel_rfl) (fun K hK w1 hw1 => lrUpon_load rfl _ rfl _ _ _ _ (Blk.below kC hw1 kC.lt) Tryz.underlying26 rfl (by kernel_rfl) (fun N => hK _ _ ?_))); clear hK K)
          (refine (hr_want (by kernel_rfl) (fun K hK w1 hw1 => lrUpon_load rfl _ rfl _ _ _ _ (Blk.below kD hw1 kD.lt) Tryz.underlying26 rfl (by kernel_rfl) (fun N => hK _ _ ?_))); clear hK K)
          (refine (hr_want (by kernel_rfl) (fun K hK w1 hw1 => ?_)); go_simp; refine ⟨R.refl _, (iMixCurves_any _ _ _ _).mono ?_, fun u hu => hK _ _ ?_⟩; (rintro e w' ⟨r, rfl, hr, hb⟩; exact ⟨_, rfl, GC.mix hr, hb⟩); clear hK K; obtain ⟨r4, rfl, Hr4⟩ := GC.ofMix hu; clear hu)
          (refine (hr_want (by kernel_rfl) (fun K hK w1 hw1 => lrUpon_load rfl _ rfl _ _ _ _ (Blk.below kC hw1 kC.lt) Tryz.underlying26 rfl (by kernel_rfl) (fun N => hK _ _ ?_))); clear hK K)
          have hne : ∀ w, (binOp .neq 26 (.agg (fA 16 r4)) (.agg (fA 16 C))).run Tryz.prog w = .ok (.bool false) w := fun w => neq_row w 16 Tryz.underlying26 Tryz.underlying24 (by kernel_rfl) (mix_none HC.out HD.out Hr4.out)
          have heg : ∀ w x y, (eqGuard .neq 26 x y (.agg (fA 16 r4)) (.agg (fA 16 C))).run Tryz.prog w = .ok () w := fun w x y => run_eqGuard_agg w _ _ _ _ _ _ (by kernel_rfl)
          (refine (hr_want (by kernel_rfl) (fun K hK w1 hw1 => ?_)); go_simp; refine ⟨R.refl _, hK _ _ ?_⟩; clear hK K)
          clear hne heg
          (refine hr_plain rfl (fun K hK w1 hw1 => ?_); go_simp; refine ⟨R.refl _, hK _ _ ?_⟩; clear hK K)
          (refine hr_plain rfl (fun K hK w1 hw1 => ?_); go_simp; refine ⟨R.refl _, hK _ _ ?_⟩; clear hK K)
          (refine (hr_want (by kernel_rfl) (fun K hK w1 hw1 => lrUpon_load rfl _ rfl _ _ _ _ (Blk.below kC hw1 kC.lt) Tryz.underlying26 rfl (by kernel_rfl) (fun N => hK _ _ ?_))); clear hK K)
          (refine (hr_want (by kernel_rfl) (fun K hK w1 hw1 => lrUpon_load rfl _ rfl _ _ _ _ (Blk.below kD hw1 kD.lt) Tryz.underlying26 rfl (by kernel_rfl) (fun N => hK _ _ ?_))); clear hK K)
          (refine (hr_want (by kernel_rfl) (fun K hK w1 hw1 => ?_)); go_simp; refine ⟨R.refl _, (iMixCurves_any _ _ _ _).mono ?_, fun u hu => hK _ _ ?_⟩; (rintro e w' ⟨r, rfl, hr, hb⟩; exact ⟨_, rfl, GC.mix hr, hb⟩); clear hK K; obtain ⟨r5, rfl, Hr5⟩ := GC.ofMix hu; clear hu)
          (refine (hr_want (by kernel_rfl) (fun K hK w1 hw1 => lrUpon_load rfl _ rfl _ _ _ _ (Blk.below kD hw1 kD.lt) Tryz.underlying26 rfl (by kernel_rfl) (fun N => hK _ _ ?_))); clear hK K)
          have hne : ∀ w, (binOp .neq 26 (.agg (fA 16 r5)) (.agg (fA 16 D))).run Tryz.prog w = .ok (.bool false) w := fun w => neq_row w 16 Tryz.underlying26 Tryz.underlying24 (by kernel_rfl) (mix_all HC.out HD.out Hr5.out)
          have heg : ∀ w x y, (eqGuard .neq 26 x y (.agg (fA 16 r5)) (.agg (fA 16 D))).run Tryz.prog w = .ok () w := fun w x y => run_eqGuard_agg w _ _ _ _ _ _ (by kernel_rfl)
          (refine (hr_want (by kernel_rfl) (fun K hK w1 hw1 => ?_)); go_simp; refine ⟨R.refl _, hK _ _ ?_⟩; clear hK K)
          clear hne heg
          (refine hr_plain rfl (fun K hK w1 hw1 => ?_); go_simp; refine ⟨R.refl _, hK _ _ ?_⟩; clear hK K)
          clear Hr4 Hr5 o1 o2 db0 db1 dm0 dm1 lb1 lm1
          refine hr_nil ?_
          intro W2 hW1 hSS
          clear hSS
          replace kC := kC.below hW1 kC.lt
          replace kD := kD.below hW1 kD.lt
          replace hb := bCall hb hW1 hb.size
          clear hW1
          clear kD
          as_aux_lemma =>
            go_wp2_with fail
            refine (A2Wild_any a0 n0 _ f0 _ (y0.to hb (Nat.le_refl _))).mono ?_
            rintro e w16 ⟨N, hN, rfl, hb1⟩
            have HN := Lib.hid hN
            clear hN
            replace kC := kC.below hb1 kC.lt
            replace hb := bCall hb hb1 hb.size
            clear hb1
            replace kC := kC.alloc (.cells (fA 16 N) 26)
            have kN : Blk (w16.alloc (.cells (fA 16 N) 26)) w16.heap.size 26 (fA 16 N) := Blk.new _ _ _
            replace hb : Below w0.heap.size w0 (w16.alloc (.cells (fA 16 N) 26)) := hb.alloc hb.size _
            go_wp2_with (first | (refine wpList_store_new rfl 26 _ _ rfl _ rfl rfl (by kernel_rfl) rfl (all_fA _ _) ?_) | (refine wpList_load_row rfl 26 _ rfl _ rfl _ _ (0, 0) _ kN Tryz.underlying26 rfl (by kernel_rfl) ?_))
            refine (iCurveText_all N (fun i => bitsOf (canon .f32 (N i))) _ (Ht.out.below hb hlt0) (fun _ _ => rfl) (fun i hi => HN.out i hi)).mono ?_
            rintro e w17 ⟨rfl, hb1⟩
            obtain ⟨tx, htx⟩ : ∃ t, t = rowT (fun i => bitsOf (canon .f32 (N i))) 16 := ⟨_, rfl⟩
            rw [← htx]
            have Htx := Lib.hid htx
            clear htx
            replace kC := kC.below hb1 kC.lt
            replace kN := kN.below hb1 kN.lt
            replace hb := bCall hb hb1 hb.size
            clear hb1
            go_wp2_with fail
            refine (iReadCurve_any tx (by rw [Htx.out]; have := rowT_size (fun i => bitsOf (canon .f32 (N i))) 16; omega) _ (Ht.out.below hb hlt0) (He.out.below hb hlt0) (Hm.out.below hb hlt0)).mono ?_
            rintro e w18 ⟨h2, hb1⟩
            rw [Htx.out] at h2
            obtain ⟨Y, rfl, hY⟩ := read_curve HN.out h2
            have HY := Lib.hid hY
            clear hY h2
            replace kC := kC.below hb1 kC.lt
            replace kN := kN.below hb1 kN.lt
            replace hb := bCall hb hb1 hb.size
            clear hb1
            replace kC := kC.alloc (.cells (fA 16 Y) 26)
            replace kN := kN.alloc (.cells (fA 16 Y) 26)
            have kY : Blk (w18.alloc (.cells (fA 16 Y) 26)) w18.heap.size 26 (fA 16 Y) := Blk.new _ _ _
            replace hb : Below w0.heap.size w0 (w18.alloc (.cells (fA 16 Y) 26)) := hb.alloc hb.size _
            go_wp2_with (first | (refine wpList_store_new rfl 26 _ _ rfl _ rfl rfl (by kernel_rfl) rfl (all_fA _ _) ?_))
            refine (A2Any_any a1 n1 _ f1 _ (y1.to hb (Nat.le_refl _))).mono ?_
            rintro e w19 ⟨A, hA, rfl, hb1⟩
            have HA := Lib.hid hA
            clear hA
            replace kC := kC.below hb1 kC.lt
            replace kN := kN.below hb1 kN.lt
            replace kY := kY.below hb1 kY.lt
            replace hb := bCall hb hb1 hb.size
            clear hb1
            go_wp2_with fail
            refine (iNumberText_all A (bitsOf (canon .f32 A)) _ (Ht.out.below hb hlt0) rfl HA.out).mono ?_
            rintro e w20 ⟨rfl, hb1⟩
            obtain ⟨nx, hnx⟩ : ∃ t, t = hexT (bitsOf (canon .f32 A)) := ⟨_, rfl⟩
            rw [← hnx]
            have Hnx := Lib.hid hnx
            clear hnx
            replace kC := kC.below hb1 kC.lt
            replace kN := kN.below hb1 kN.lt
            replace kY := kY.below hb1 kY.lt
            replace hb := bCall hb hb1 hb.size
            clear hb1
            go_wp2_with fail
            refine (iReadNumber_any nx (by rw [Hnx.out, hexT_size]; omega) _ (Ht.out.below hb hlt0) (He.out.below hb hlt0)).mono ?_
            rintro e w21 ⟨h2, hb1⟩
            rw [Hnx.out] at h2
            obtain rfl := read_number HA.out h2
            obtain ⟨B, hB⟩ : ∃ b, b = bitsOf (canon .f32 A) := ⟨_, rfl⟩
            rw [← hB]
            have HB : Hid (canon .f32 B = canon .f32 A) := Lib.hid (by rw [hB]; exact canon_bits A)
            clear hB h2
            replace kC := kC.below hb1 kC.lt
            replace kN := kN.below hb1 kN.lt
            replace kY := kY.below hb1 kY.lt
            replace hb := bCall hb hb1 hb.size
            clear hb1
            have e1 : (allTo 16 fun i => canon .f32 (rowAt Y 0 i) == canon .f32 (rowAt N 0 i)) = true := allTo_true fun i hi => by simp only [rowAt, Nat.zero_add]; rw [HY.out i hi]; exact beq_self_eq_true _
            have E1 := Lib.hid e1
            clear e1
            as_aux_lemma =>
              go_wp2_with (first | (refine wpList_store_new rfl 26 _ _ rfl _ rfl rfl (by kernel_rfl) rfl (all_fA _ _) ?_) | (refine wpList_load_partW rfl 26 _ rfl 0 16 kY rfl (by decide) Tryz.underlying26 rfl (by kernel_rfl) ?_) | (refine wpList_load_partW rfl 26 _ rfl 0 16 kN rfl (by decide) Tryz.underlying26 rfl (by kernel_rfl) ?_) | (refine wpList_load_partW rfl 26 _ rfl 0 16 kC rfl (by decide) Tryz.underlying26 rfl (by kernel_rfl) ?_))
              refine (iSameCurve_any _ _ _).mono ?_
              rw [E1.out]
              rintro e w22 ⟨rfl, hb1⟩
              replace kC := kC.below hb1 kC.lt
              replace kN := kN.below hb1 kN.lt
              replace kY := kY.below hb1 kY.lt
              replace hb := bCall hb hb1 hb.size
              clear hb1
              go_wp2_with (first | (refine wpList_store_new rfl 26 _ _ rfl _ rfl rfl (by kernel_rfl) rfl (all_fA _ _) ?_) | (refine wpList_load_partW rfl 26 _ rfl 0 16 kY rfl (by decide) Tryz.underlying26 rfl (by kernel_rfl) ?_) | (refine wpList_load_partW rfl 26 _ rfl 0 16 kN rfl (by decide) Tryz.underlying26 rfl (by kernel_rfl) ?_) | (refine wpList_load_partW rfl 26 _ rfl 0 16 kC rfl (by decide) Tryz.underlying26 rfl (by kernel_rfl) ?_))
              refine (sSameCurve_any _ _ _).mono ?_
              rw [E1.out]
              rintro e w23 ⟨rfl, hb1⟩
              replace kC := kC.below hb1 kC.lt
              replace kN := kN.below hb1 kN.lt
              replace kY := kY.below hb1 kY.lt
              replace hb := bCall hb hb1 hb.size
              clear hb1
              go_wp2_with (first | (refine wpList_store_new rfl 26 _ _ rfl _ rfl rfl (by kernel_rfl) rfl (all_fA _ _) ?_) | (refine wpList_load_partW rfl 26 _ rfl 0 16 kY rfl (by decide) Tryz.underlying26 rfl (by kernel_rfl) ?_) | (refine wpList_load_partW rfl 26 _ rfl 0 16 kN rfl (by decide) Tryz.underlying26 rfl (by kernel_rfl) ?_) | (refine wpList_load_partW rfl 26 _ rfl 0 16 kC rfl (by decide) Tryz.underlying26 rfl (by kernel_rfl) ?_))
              refine (iSame_any _ _ _).mono ?_
              rw [HB.out, beq_self_eq_true]
              rintro e w24 ⟨rfl, hd⟩
              have hb1 := hd.below0
              clear hd
              replace kC := kC.below hb1 kC.lt
              replace kN := kN.below hb1 kN.lt
              replace kY := kY.below hb1 kY.lt
              replace hb := bCall hb hb1 hb.size
              clear hb1
              go_wp2_with (first | (refine wpList_store_new rfl 26 _ _ rfl _ rfl rfl (by kernel_rfl) rfl (all_fA _ _) ?_) | (refine wpList_load_partW rfl 26 _ rfl 0 16 kY rfl (by decide) Tryz.underlying26 rfl (by kernel_rfl) ?_) | (refine wpList_load_partW rfl 26 _ rfl 0 16 kN rfl (by decide) Tryz.underlying26 rfl (by kernel_rfl) ?_) | (refine wpList_load_partW rfl 26 _ rfl 0 16 kC rfl (by decide) Tryz.underlying26 rfl (by kernel_rfl) ?_))
              refine (sSame_any _ _ _).mono ?_
              rw [HB.out, beq_self_eq_true]
              rintro e w25 ⟨rfl, hd⟩
              have hb1 := hd.below0
              clear hd
              replace kC := kC.below hb1 kC.lt
              replace kN := kN.below hb1 kN.lt
              replace kY := kY.below hb1 kY.lt
              replace hb := bCall hb hb1 hb.size
              clear hb1
              go_wp2_with (first | (refine wpList_store_new rfl 26 _ _ rfl _ rfl rfl (by kernel_rfl) rfl (all_fA _ _) ?_) | (refine wpList_load_partW rfl 26 _ rfl 0 16 kY rfl (by decide) Tryz.underlying26 rfl (by kernel_rfl) ?_) | (refine wpList_load_partW rfl 26 _ rfl 0 16 kN rfl (by decide) Tryz.underlying26 rfl (by kernel_rfl) ?_) | (refine wpList_load_partW rfl 26 _ rfl 0 16 kC rfl (by decide) Tryz.underlying26 rfl (by kernel_rfl) ?_))
              refine (iIsFiniteCurve_any _ _).mono ?_
              rw [show (allTo 16 fun i => fin (canon .f32 (rowAt C 0 i))) = true by rw [rowAt_zero]; exact drw_fin HC.out]
              rintro e w26 ⟨rfl, hb1⟩
              replace kC := kC.below hb1 kC.lt
              replace kN := kN.below hb1 kN.lt
              replace kY := kY.below hb1 kY.lt
              replace hb := bCall hb hb1 hb.size
              clear hb1
              go_wp2
              go_ret
              exact ⟨rfl, hb⟩

theorem own : ownKnob Tryz.prog.godebug = none := by kernel_rfl
theorem laidOut : laidOutB Tryz.prog = true := by kernel_rfl
set_option maxRecDepth 100000 in
theorem contract (H : Type) (enc : TypeId × Value → H) (W : World) (base : Nat) (args : Array Value) (ds gs : List (DataW H)) (before : List MemPlace)
    (hval0 : ∀ (j : Nat) t v, Tryz.f3.params[j]? = some t → args[j]? = some v → Value.okWide Tryz.prog W .any base t v)
    (hW : DataW.Whole enc Tryz.prog Tryz.f3.params.toList Rows.fnCurvesSpec.vars false W args.toList ds gs before) (hL : laidMetH Tryz.prog Rows.fnCurvesRow.laid W) (hsh : W.ShapedOpen Tryz.prog) :
    Calls Tryz.prog 3 args W fun e W' => ∃ v, e = .returned v ∧ Rows.fnCurvesSpec.post enc Tryz.prog Tryz.f3 false true false false W args v W' := by
  have hval := hval0
  have hW' := hW
  obtain ⟨p, q, hA0, hV, rfl, hfz, hnd⟩ := hW
  have hA : DataW.TrodAll enc Tryz.prog W 0 (fun _ => true) true Tryz.f3.params.toList args.toList ds p := hA0
  rw [Tryz.params3] at hA hval
  obtain ⟨v0, vs0, d0, ds0, p0, q0, hargs, rfl, rfl, h0, r0⟩ := trodAll_cons hA
  obtain ⟨v1, vs1, d1, ds1, p1, q1, rfl, rfl, rfl, h1, r1⟩ := trodAll_cons r0
  obtain ⟨rfl, rfl, rfl⟩ := trodAll_nil r1
  obtain rfl : args = #[v0, v1] := by cases args; simp_all
  obtain ⟨rfl, rfl⟩ := trodVars_none hV
  have k0 := h0
  have lt0 : ∀ x ∈ p0, x.block < W.heap.size := by obtain ⟨m, hm⟩ := k0; exact DataW.trod_lt m _ _ _ hm
  obtain ⟨a0, n0, c0, rfl⟩ := okWide_slice Tryz.underlying22 (hval 0 22 v0 rfl rfl)
  obtain ⟨f0, w0⟩ := open_byt Tryz.underlying22 Tryz.underlying5 (by kernel_rfl) h0
  have k1 := h1
  have lt1 : ∀ x ∈ p1, x.block < W.heap.size := by obtain ⟨m, hm⟩ := k1; exact DataW.trod_lt m _ _ _ hm
  obtain ⟨a1, n1, c1, rfl⟩ := okWide_slice Tryz.underlying22 (hval 1 22 v1 rfl rfl)
  obtain ⟨f1, w1⟩ := open_byt Tryz.underlying22 Tryz.underlying5 (by kernel_rfl) h1
  clear hA0 hval0
  refine (walk a0 n0 c0 f0 a1 n1 c1 f1 W w0 w1 (tab_of hL) (errs_of2 hL) (maxl_of hsh)).mono fun e W' ⟨he, bel⟩ => ?_
  subst he
  exact ⟨_, rfl, _, _, _, [], _, [], hW', trodAll_mk1 (shut_bool Tryz.underlying4 _), (trodAll_cons_mk (Below.trod laidOut (by kernel_rfl) (of_decide_eq_true (by kernel_rfl)) k0 bel lt0) (trodAll_cons_mk (Below.trod laidOut (by kernel_rfl) (of_decide_eq_true (by kernel_rfl)) k1 bel lt1) trodAll_mk0)), rfl, bel.frame _, fun h => by cases h⟩
set_option maxRecDepth 100000 in
theorem laid_met (os : Os) : laidMet Tryz.prog Rows.fnCurvesRow.laid ((laidWorldF os).forCall (fun _ _ => 0) ⟨#[], #[.slice none 0 0, .slice none 0 0], []⟩).memory :=
  laidMet_of_run' 8 (by kernel_rfl) (by kernel_rfl)
theorem reads (os : Os) {H : Type} (enc : TypeId × Value → H) : ∃ places, DataW.whole enc Tryz.prog ((laidWorldF os).forCall (fun _ _ => 0) ⟨#[], #[.slice none 0 0, .slice none 0 0], []⟩).memory Tryz.f3.params.toList Rows.fnCurvesSpec.vars false #[.slice none 0 0, .slice none 0 0].toList 8 = some ([.nil, .nil], [], places) :=
  ⟨[], by kernel_rfl⟩
set_option maxRecDepth 100000 in
theorem lifted (os : Os) (started : os.Started) (H : Type) (enc : TypeId × Value → H) (F : Stop.Interp) :
    ReturnsInHanded {} Tryz.checked os 3 .any ((OpenSpec.ofChange Rows.fnCurvesSpec).preRow enc Tryz.prog Tryz.f3 Rows.fnCurvesRow.domain false Rows.fnCurvesRow.laid) (((OpenSpec.ofChange Rows.fnCurvesSpec).at F).post enc Tryz.prog Tryz.f3 false true false false) := by
  obtain ⟨places, hx⟩ := reads os enc
  refine returnsInHanded_of_row (C := Tryz.checked) (s := OpenSpec.ofChange Rows.fnCurvesSpec) own started (by kernel_rfl) Tryz.func3
    (witness_row_at (enc := enc) (C := Tryz.checked) false (laidWorldF os) #[.slice none 0 0, .slice none 0 0] rfl (by kernel_rfl) (by kernel_rfl) (by kernel_rfl)
      (OpenSpec.preRow_of_cond 8 hx (by kernel_rfl) (fun k hk => by cases hk) (by kernel_rfl) (laid_met os))) ?_
  intro W base args ds gs before hval hW _ _ _ hL hsh _
  exact contract H enc W base args ds gs before hval hW hL hsh
theorem said : Rows.FnCurvesSaid :=
  OpenClaim.holds_of_cond 3 Tryz.f3 rfl rfl rfl rfl rfl rfl rfl ⟨rfl, rfl, rfl, rfl, rfl⟩ rfl rfl rfl rfl rfl (by kernel_rfl) Tryz.func3 (by kernel_rfl)
    (of_decide_eq_true (by kernel_rfl)) (by unfold Func.isWrapper; first | (rw [if_pos (by decide +kernel)]; kernel_rfl) | (rw [if_neg (by decide +kernel)]; exact ⟨rfl, rfl⟩))
    (fun os started H enc _ F => by rw [OpenClaim.pre_eq_preRow]; exact lifted os started H enc F)
theorem plain (f : FuncId) (fn : Func) (hf : Tryz.pinned.checked.prog.funcNamed "loop.example/g01213/laws.FnCurves" = some f) (hfn : Tryz.pinned.checked.prog.funcs[f]? = some fn) :
    true = Tryz.pinned.checked.prog.looks [] ∧ ∀ (j : Nat) t, fn.params[j]? = some t → Tryz.pinned.checked.prog.wantsStandIn t = false := by
  obtain rfl : f = 3 := Option.some.inj ((show Tryz.prog.funcNamed "loop.example/g01213/laws.FnCurves" = some 3 by kernel_rfl).symm.trans hf) |>.symm
  obtain rfl : fn = Tryz.f3 := (Option.some.inj (Tryz.func3.symm.trans hfn)).symm
  refine ⟨by kernel_rfl, fun j t ht => ?_⟩
  rw [Tryz.params3] at ht
  obtain rfl : t = 22 := by simpa using Array.mem_of_getElem? ht
  exact (show Tryz.prog.wantsStandIn 22 = false by kernel_rfl)
theorem card : Rows.FnCurvesCardSaid :=
  Claim7.holds_tied_plain_at .later [] _ _ _ _ said (fun _ h => by cases h) (by kernel_rfl) (fun _ h => by cases h) fnCurves_row_tie rfl ⟨rfl, rfl⟩ (by kernel_rfl) rfl plain (by kernel_rfl)
#print axioms card
end Go.Proofs.YtafbolnkohebjaaGreatDoor.fnCurves
namespace Go.Proofs.YtafbolnkohebjaaGreatDoor
/-- The card, under a short name, for the claim. -/
theorem fnCurves_holds : Rows.FnCurvesCardSaid := fnCurves.card
end Go.Proofs.YtafbolnkohebjaaGreatDoor

