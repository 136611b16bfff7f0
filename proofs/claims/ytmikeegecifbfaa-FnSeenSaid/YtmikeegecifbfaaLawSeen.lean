/- Proved: the statement FnSeen of this seat: for every input the law returns true, and each argument reads as it read. There is no condition. -/
import Derived.Test.YtmikeegecifbfaaRows
import Derived.Test.YtmikeegecifbfaaOpen
import Derived.Test.YtmikeegecifbfaaLA
import Derived.Test.YtmikeegecifbfaaDra
import Derived.Test.YtmikeegecifbfaaCJ
import Derived.Test.YtmikeegecifbfaaCE
import Derived.Test.YtmikeegecifbfaaCG
import Derived.Test.YtmikeegecifbfaaCK
import Derived.Test.YtmikeegecifbfaaSeX
import Derived.Test.YtmikeegecifbfaaGen
import Derived.Test.YtmikeegecifbfaaEqa
import Derived.Test.YtmikeegecifbfaaHeld
import Derived.Test.YtmikeegecifbfaaLate
import Derived.WalkKit
import Derived.WalkSpells
import Derived.Outline
import Derived.ProofKit
import Derived.OpenShut
import Derived.ShutString
import Derived.ChangeOld
import Derived.Below
import Derived.IntWalk
import Derived.BigQuiet
namespace Go.Proofs.Ytmikeegecifbfaa.fnSeen
open Go.ChangeShapes Go.WideShapes Go.ChangeAt Go.RowKit
open Go.ChangeMaps (open_string shut_string)

set_option maxRecDepth 100000 in
set_option maxHeartbeats 4000000 in
theorem walk (a0 : Option Addr) (n0 c0 : Nat) (f0 : Nat → Nat) (a1 : Option Addr) (n1 c1 : Nat) (f1 : Nat → Nat) (w : World) (y0 : Byt w a0 n0 f0) (y1 : Byt w a1 n1 f1) : Calls Try.prog 4 #[.slice a0 n0 c0, .slice a1 n1 c1] w (RetB w true) := by
  go_enter Try.func4, Try.ntmps4
  by_cases hlong : 3000 < n0 ∨ 3000 < n1
  · go_wp2_with fail
    refine (a2Long_long a0 a1 n0 n1 c0 c1 hlong w).mono ?_
    rintro e w' ⟨rfl, rfl⟩
    go_wp2
    go_ret
    exact ⟨rfl, Below.refl _ _⟩
  · have hn0 : n0 ≤ 3000 := by omega
    have hn1 : n1 ≤ 3000 := by omega
    clear hlong
    go_wp2_with fail
    refine (a2Long_short a0 a1 n0 n1 c0 c1 hn0 hn1 w).mono ?_
    rintro e w0 ⟨rfl, hw⟩
    subst hw
    go_wp2_with fail
    refine (a2At_any a0 n0 c0 f0 _ y0 0 33 (by omega) (by omega) (by omega)).mono ?_
    rintro e wb ⟨m, hm, rfl, hw⟩
    subst hw
    obtain ⟨X, qa, qac, hX⟩ := op_word (op := .quo) (x := floatOfInt .f32 ((m : Int) - 16)) (y := 1098907648) (warm_is hm).some
    have hX' : canon .f32 X = warmAt m := hX
    have HX : Hid (Is .f32 (canon .f32 X) ((((m : Int) - 16 : Int) : Rat) * (1 / 16))) := Lib.hid (by rw [hX']; exact warm_is hm)
    have Hm : Hid (-16 ≤ (m : Int) - 16 ∧ (m : Int) - 16 ≤ 16) := Lib.hid (by omega)
    clear hX hX'
    go_wp2_with fail
    refine (iLightOf_any X _).mono ?_
    rintro e w2 h
    obtain ⟨L, rfl, hL, hb1⟩ := h.ok (light_res Hm.out.1 Hm.out.2 HX.out) (fun i _ => rfl)
    clear h qa qac
    have HL := Lib.hid hL
    clear hL
    have hb := hb1
    clear hb1
    have hL : Blk (w2.alloc (.cells (fA 16 L) 26)) w2.heap.size 26 (fA 16 L) := Blk.new _ _ _
    have hb : Below wb.heap.size wb (w2.alloc (.cells (fA 16 L) 26)) := hb.alloc hb.size _
    go_wp2_with (first | (refine wpList_store_new rfl 26 _ _ rfl _ rfl rfl (by kernel_rfl) rfl (all_fA _ _) ?_) | (refine wpList_store_new rfl 38 _ _ rfl _ rfl rfl (by kernel_rfl) rfl (all_fA _ _) ?_))
    refine (A2Curve_any a1 n1 c1 f1 _ (y1.to hb (Nat.le_refl _))).mono ?_
    rintro e w11 h
    obtain ⟨V, hV, rfl, hb1⟩ := h
    obtain ⟨Cw, HC⟩ : ∃ K : Nat → Nat, Hid (∀ i, K i = pw (V i)) := ⟨fun i => pw (V i), Lib.hid fun _ => rfl⟩
    rw [show (fA 16 fun i => pw (V i)) = fA 16 Cw from fA_congr fun i _ => (HC.out i).symm]
    have hL := hL.below hb1 hL.lt
    have hb := bCall hb hb1 hb.size
    clear hb1
    have hL := hL.alloc (.cells (fA 16 Cw) 26)
    have hC : Blk (w11.alloc (.cells (fA 16 Cw) 26)) w11.heap.size 26 (fA 16 Cw) := Blk.new _ _ _
    have hb : Below wb.heap.size wb (w11.alloc (.cells (fA 16 Cw) 26)) := hb.alloc hb.size _
    go_wp2_with (first | (refine wpList_store_new rfl 26 _ _ rfl _ rfl rfl (by kernel_rfl) rfl (all_fA _ _) ?_) | (refine wpList_store_new rfl 38 _ _ rfl _ rfl rfl (by kernel_rfl) rfl (all_fA _ _) ?_))
    refine (A2Curve_any a0 n0 c0 f0 _ (y0.to hb (Nat.le_refl _))).mono ?_
    rintro e w12 h
    obtain ⟨U, hU, rfl, hb1⟩ := h
    obtain ⟨Dw, HD⟩ : ∃ K : Nat → Nat, Hid (∀ i, K i = pw (U i)) := ⟨fun i => pw (U i), Lib.hid fun _ => rfl⟩
    rw [show (fA 16 fun i => pw (U i)) = fA 16 Dw from fA_congr fun i _ => (HD.out i).symm]
    have hL := hL.below hb1 hL.lt
    have hC := hC.below hb1 hC.lt
    have hb := bCall hb hb1 hb.size
    clear hb1
    have hL := hL.alloc (.cells (fA 16 Dw) 26)
    have hC := hC.alloc (.cells (fA 16 Dw) 26)
    have hD : Blk (w12.alloc (.cells (fA 16 Dw) 26)) w12.heap.size 26 (fA 16 Dw) := Blk.new _ _ _
    have hb : Below wb.heap.size wb (w12.alloc (.cells (fA 16 Dw) 26)) := hb.alloc hb.size _
    have H6C : Hid (Six (fun i => canon .f32 (Cw i)) (fun i => ((V i : Nat) : Rat) * (1 / 64))) := Lib.hid (drawn_six hV HC.out)
    have H6D : Hid (Six (fun i => canon .f32 (Dw i)) (fun i => ((U i : Nat) : Rat) * (1 / 64))) := Lib.hid (drawn_six hU HD.out)
    have HV := Lib.hid hV
    have HU := Lib.hid hU
    clear hV hU
    go_wp2_with (first | (refine wpList_store_new rfl 26 _ _ rfl _ rfl rfl (by kernel_rfl) rfl (all_fA _ _) ?_) | (refine wpList_store_new rfl 38 _ _ rfl _ rfl rfl (by kernel_rfl) rfl (all_fA _ _) ?_) | (refine wpList_load_row rfl 26 _ rfl _ rfl _ _ (0, 0) _ hL Try.underlying26 rfl (by kernel_rfl) ?_) | (refine wpList_load_row rfl 26 _ rfl _ rfl _ _ (0, 0) _ hC Try.underlying26 rfl (by kernel_rfl) ?_))
    refine (iSeenUnder_any L Cw _).mono ?_
    rintro e w13 h
    obtain ⟨A, rfl, hA, hb1⟩ := h.ok ((res_cong HL.out (fun _ _ => rfl)).trans (curve_look Hm.out.1 Hm.out.2 HX.out H6C.out (drawn_le HV.out)).1) (fun i _ => rfl)
    clear h
    have HA := Lib.hid hA
    clear hA
    have hL := hL.below hb1 hL.lt
    have hC := hC.below hb1 hC.lt
    have hD := hD.below hb1 hD.lt
    have hb := bCall hb hb1 hb.size
    clear hb1
    have hL := hL.alloc (.cells (fA 3 A) 38)
    have hC := hC.alloc (.cells (fA 3 A) 38)
    have hD := hD.alloc (.cells (fA 3 A) 38)
    have hA : Blk (w13.alloc (.cells (fA 3 A) 38)) w13.heap.size 38 (fA 3 A) := Blk.new _ _ _
    have hb : Below wb.heap.size wb (w13.alloc (.cells (fA 3 A) 38)) := hb.alloc hb.size _
    go_wp2_with (first | (refine wpList_store_new rfl 26 _ _ rfl _ rfl rfl (by kernel_rfl) rfl (all_fA _ _) ?_) | (refine wpList_store_new rfl 38 _ _ rfl _ rfl rfl (by kernel_rfl) rfl (all_fA _ _) ?_) | (refine wpList_load_row rfl 26 _ rfl _ rfl _ _ (0, 0) _ hL Try.underlying26 rfl (by kernel_rfl) ?_) | (refine wpList_load_row rfl 26 _ rfl _ rfl _ _ (0, 0) _ hD Try.underlying26 rfl (by kernel_rfl) ?_))
    refine (iSeenUnder_any L Dw _).mono ?_
    rintro e w14 h
    obtain ⟨B, rfl, hB, hb1⟩ := h.ok ((res_cong HL.out (fun _ _ => rfl)).trans (curve_look Hm.out.1 Hm.out.2 HX.out H6D.out (drawn_le HU.out)).1) (fun i _ => rfl)
    clear h
    have HB := Lib.hid hB
    clear hB
    have hL := hL.below hb1 hL.lt
    have hC := hC.below hb1 hC.lt
    have hD := hD.below hb1 hD.lt
    have hA := hA.below hb1 hA.lt
    have hb := bCall hb hb1 hb.size
    clear hb1
    have hL := hL.alloc (.cells (fA 3 B) 38)
    have hC := hC.alloc (.cells (fA 3 B) 38)
    have hD := hD.alloc (.cells (fA 3 B) 38)
    have hA := hA.alloc (.cells (fA 3 B) 38)
    have hB : Blk (w14.alloc (.cells (fA 3 B) 38)) w14.heap.size 38 (fA 3 B) := Blk.new _ _ _
    have hb : Below wb.heap.size wb (w14.alloc (.cells (fA 3 B) 38)) := hb.alloc hb.size _
    have HX0 : Hid (Is .f32 (canon .f32 0) (((0 : Int) : Rat) * (1 / 16))) := Lib.hid zero_warm
    go_wp2_with (first | (refine wpList_store_new rfl 26 _ _ rfl _ rfl rfl (by kernel_rfl) rfl (all_fA _ _) ?_) | (refine wpList_store_new rfl 38 _ _ rfl _ rfl rfl (by kernel_rfl) rfl (all_fA _ _) ?_))
    obtain ⟨W15, hW⟩ : ∃ W : World, W = w14.alloc (.cells (fA 3 B) 38) := ⟨_, rfl⟩
    rw [← hW] at hL hC hD hA hB hb ⊢
    have lt_hL := hL.lt
    have lt_hC := hC.lt
    have lt_hD := hD.lt
    have lt_hA := hA.lt
    have lt_hB := hB.lt
    have lhb := hb.size
    clear hW
    have H6E : Hid (Six (fun i => fadd (canon .f32 (Cw i)) (canon .f32 (Dw i))) fun i => ((V i : Nat) : Rat) * (1 / 64) + ((U i : Nat) : Rat) * (1 / 64)) := Lib.hid (six_add HV.out HU.out H6C.out H6D.out fun _ _ => rfl)
    refine wp_region_lr_late 9 7 (G3 7 7 (IsC 16 fun i => fadd (canon .f32 (Cw i)) (canon .f32 (Dw i))) (IsC 16 fun i => fadd (canon .f32 (Cw i)) (canon .f32 (Dw i))) (IsOk 3 (seenAt (fun i => lightAt (canon .f32 X) i) fun i => fadd (canon .f32 (Cw i)) (canon .f32 (Dw i))))) (by kernel_rfl) (by kernel_rfl) (fun _ _ d _ _ h => by cases d <;> exact h) ?_
    simp only [List.take_succ_cons, List.take_zero, List.drop_succ_cons, List.drop_zero]
    (refine wpLR_plain rfl (fun K hK w1 hw1 => lrUpon_load rfl _ rfl _ _ _ _ (Blk.below hL hw1 hL.lt) Try.underlying26 rfl (by kernel_rfl) (fun N => hK _ _ ?_)); clear hK K)
    (refine wpLR_plain rfl (fun K hK w1 hw1 => lrUpon_load rfl _ rfl _ _ _ _ (Blk.below hC hw1 hC.lt) Try.underlying26 rfl (by kernel_rfl) (fun N => hK _ _ ?_)); clear hK K)
    (refine wpLR_plain rfl (fun K hK w1 hw1 => lrUpon_load rfl _ rfl _ _ _ _ (Blk.below hD hw1 hD.lt) Try.underlying26 rfl (by kernel_rfl) (fun N => hK _ _ ?_)); clear hK K)
    (refine wpLR_plain rfl (fun K0 hK0 w1 hw1 => ?_); go_simp; refine ⟨R.refl _, (iAddCurves_any _ _ _).mono ?_, fun u hu => hK0 _ _ ?_⟩; (intro e w' h; obtain ⟨u, hu, hq, hb⟩ := h.is; exact ⟨u, hu, .mk1 (by decide) hq, hb⟩); clear hK0 K0; obtain ⟨r1, rfl, H1⟩ := hu.of1 (by decide); clear hu)
    (refine wpLR_plain rfl (fun K0 hK0 w1 hw1 => ?_); go_simp; refine ⟨R.refl _, (iSeenUnder_any _ _ _).mono ?_, fun u hu => hK0 _ _ ?_⟩; (intro e w' h; obtain ⟨u, hu, hq, hb⟩ := (h.ok ((res_cong HL.out H1.out).trans (six_seen Hm.out.1 Hm.out.2 HX.out H6E.out)) (fun i _ => rfl)).is; exact ⟨u, hu, .mk3 (by decide) (by decide) hq, hb⟩); clear hK0 K0; obtain ⟨S, rfl, HS⟩ := hu.of3 (by decide) (by decide); clear hu H1)
    (refine wpLR_plain rfl (fun K hK w1 hw1 => ?_); go_simp; refine ⟨R.refl _, hK _ _ ?_⟩; clear hK K)
    (refine wpLR_plain rfl (fun K hK w1 hw1 => ?_); go_simp; refine ⟨R.refl _, hK _ _ ?_⟩; clear hK K)
    (refine wpLR_plain rfl (fun K hK w1 hw1 => ?_); go_simp; refine ⟨R.refl _, hK _ _ ?_⟩; clear hK K)
    (refine wpLR_plain rfl (fun K hK vS hvS => ?_); go_simp; refine ⟨Below.alloc (Below.refl _ _) (Nat.le_refl _) _, hK _ _ ?_⟩; clear hK K)
    refine wpLR_nil ?_
    intro VS hW1 hSS
    have hZ : Blk VS vS.heap.size 38 (fA 3 fun _ => 0) := (Blk.new _ _ _).below hSS.2 (Blk.new _ _ _).lt
    clear hSS
    have hL := hL.below hW1 hL.lt
    have hC := hC.below hW1 hC.lt
    have hD := hD.below hW1 hD.lt
    have hA := hA.below hW1 hA.lt
    have hB := hB.below hW1 hB.lt
    have hg : W15.heap.size ≤ vS.heap.size := hvS.size
    have hL := hL.farRow (g' := vS.heap.size) (cs' := fA 3 S) (by omega)
    have hC := hC.farRow (g' := vS.heap.size) (cs' := fA 3 S) (by omega)
    have hD := hD.farRow (g' := vS.heap.size) (cs' := fA 3 S) (by omega)
    have hA := hA.farRow (g' := vS.heap.size) (cs' := fA 3 S) (by omega)
    have hB := hB.farRow (g' := vS.heap.size) (cs' := fA 3 S) (by omega)
    have hS : Blk (VS.setRow vS.heap.size (fA 3 S)) vS.heap.size 38 (fA 3 S) := hZ.setRow
    have hb := bRow (bCall hb hW1 hb.size) (g := vS.heap.size) (by omega) (fA 3 S)
    clear hW1 lhb lt_hL lt_hC lt_hD lt_hA lt_hB
    go_wp2_with (first | (refine wpList_store_row rfl 38 _ _ rfl _ _ rfl rfl _ _ hZ (by kernel_rfl) (by simp only [size_fA]) (all_fA _ _) ?_) | (refine wpList_load_row rfl 26 _ rfl _ rfl _ _ (0, 0) _ hL Try.underlying26 rfl (by kernel_rfl) ?_) | (refine wpList_load_row rfl 26 _ rfl _ rfl _ _ (0, 0) _ hC Try.underlying26 rfl (by kernel_rfl) ?_))
    refine (sSeenUnder_any L Cw _).mono ?_
    rintro e w16 h
    obtain ⟨E, rfl, hE, hb1⟩ := h.ok ((res_cong HL.out (fun _ _ => rfl)).trans (curve_look Hm.out.1 Hm.out.2 HX.out H6C.out (drawn_le HV.out)).1) (fun i _ => rfl)
    clear h
    have HE := Lib.hid hE
    clear hE hZ
    have hL := hL.below hb1 hL.lt
    have hC := hC.below hb1 hC.lt
    have hD := hD.below hb1 hD.lt
    have hA := hA.below hb1 hA.lt
    have hB := hB.below hb1 hB.lt
    have hS := hS.below hb1 hS.lt
    have hb := bCall hb hb1 hb.size
    clear hb1
    have hL := hL.alloc (.cells (fA 3 E) 38)
    have hC := hC.alloc (.cells (fA 3 E) 38)
    have hD := hD.alloc (.cells (fA 3 E) 38)
    have hA := hA.alloc (.cells (fA 3 E) 38)
    have hB := hB.alloc (.cells (fA 3 E) 38)
    have hS := hS.alloc (.cells (fA 3 E) 38)
    have hE : Blk (w16.alloc (.cells (fA 3 E) 38)) w16.heap.size 38 (fA 3 E) := Blk.new _ _ _
    have hb : Below wb.heap.size wb (w16.alloc (.cells (fA 3 E) 38)) := hb.alloc hb.size _
    have hne : ∀ w, (binOp .neq 38 (.agg (fA 3 (rowAt A 0))) (.agg (fA 3 (rowAt E 0)))).run Try.prog w = .ok (.bool false) w := fun w => neq_row w 3 Try.underlying38 Try.underlying24 (by kernel_rfl) fun i hi => order_eq (by rw [show rowAt A 0 i = A i by simp [rowAt], show rowAt E 0 i = E i by simp [rowAt], HA.out i hi, HE.out i hi]; exact ((curve_look Hm.out.1 Hm.out.2 HX.out H6C.out (drawn_le HV.out)).2.1 i hi).2)
    have heg : ∀ w x y, (eqGuard .neq 38 x y (.agg (fA 3 (rowAt A 0))) (.agg (fA 3 (rowAt E 0)))).run Try.prog w = .ok () w := fun w x y => run_eqGuard_agg w _ _ _ _ _ _ (by kernel_rfl)
    go_wp2_with (first | (refine wpList_store_new rfl 38 _ _ rfl _ rfl rfl (by kernel_rfl) rfl (all_fA _ _) ?_) | (refine wpList_load_partW rfl 38 _ rfl 0 3 hA rfl (by decide) Try.underlying38 rfl (by kernel_rfl) ?_) | (refine wpList_load_partW rfl 38 _ rfl 0 3 hE rfl (by decide) Try.underlying38 rfl (by kernel_rfl) ?_))
    clear hne heg hD hE HE
    have HN : Hid (∀ j, j < 3 → near (canon .f32 (S j)) (fadd (canon .f32 (A j)) (canon .f32 (B j))) (canon .f32 953267991) = true ∧ (fadd (canon .f32 (A j)) (canon .f32 (B j))).isSome = true) := Lib.hid (fun j hj => by rw [HA.out j hj, HB.out j hj, HS.out j hj]; exact seen_sum Hm.out.1 Hm.out.2 HX.out H6C.out H6D.out H6E.out hj)
    go_loopw [18] (fun i wr => ∃ (j : Nat), j ≤ 3 ∧ i = .int .i64 j ∧ Below wb.heap.size wb wr ∧ Blk wr w2.heap.size 26 (fA 16 L) ∧ Blk wr w11.heap.size 26 (fA 16 Cw) ∧ Blk wr w13.heap.size 38 (fA 3 A) ∧ Blk wr w14.heap.size 38 (fA 3 B) ∧ Blk wr vS.heap.size 38 (fA 3 S)) (fun i _ => 3 - (intOf i).toNat)
    case atStart => exact ⟨0, by omega, rfl, hb, hL, hC, hA, hB, hS⟩
    case round =>
      clear hb hL hC hA hB hS
      obtain ⟨j, hj, rfl, hb, hL, hC, hA, hB, hS⟩ := hrel
      by_cases hlt : j < 3
      · obtain ⟨n1, n2⟩ := HN.out j hlt
        obtain ⟨q, qa, qac, hq⟩ := op_word (op := .add) (x := A j) (y := B j) n2
        have h4 : near (canon .f32 (S j)) (canon .f32 q) (canon .f32 953267991) = true := by rw [hq]; exact n1
        clear n1 n2 hq
        go_wp2_with fail
        refine wp_region_hr (fun f args u => u = .bool true) (by kernel_rfl) (by kernel_rfl) ?_
        (refine hr_plain rfl (fun K hK w1 hw1 => ?_); go_simp; refine ⟨R.refl _, hK _ _ ?_⟩; clear hK K)
        (refine hr_plain rfl (fun K hK w1 hw1 => ?_); go_simp; refine ⟨R.refl _, hK _ _ ?_⟩; clear hK K)
        (refine (hr_plain (rfl) (fun K hK w1 hw1 => ?_)); have c1 := ((Blk.below hS hw1 hS.lt).cell j).trans (get_fA_lt S (by omega)); go_simp; refine ⟨R.refl _, hK _ _ ?_⟩; clear hK K)
        (refine hr_plain rfl (fun K hK w1 hw1 => ?_); go_simp; refine ⟨R.refl _, hK _ _ ?_⟩; clear hK K)
        (refine hr_plain rfl (fun K hK w1 hw1 => ?_); go_simp; refine ⟨R.refl _, hK _ _ ?_⟩; clear hK K)
        (refine (hr_plain (rfl) (fun K hK w1 hw1 => ?_)); have c1 := ((Blk.below hA hw1 hA.lt).cell j).trans (get_fA_lt A (by omega)); go_simp; refine ⟨R.refl _, hK _ _ ?_⟩; clear hK K)
        (refine hr_plain rfl (fun K hK w1 hw1 => ?_); go_simp; refine ⟨R.refl _, hK _ _ ?_⟩; clear hK K)
        (refine hr_plain rfl (fun K hK w1 hw1 => ?_); go_simp; refine ⟨R.refl _, hK _ _ ?_⟩; clear hK K)
        (refine (hr_plain (rfl) (fun K hK w1 hw1 => ?_)); have c1 := ((Blk.below hB hw1 hB.lt).cell j).trans (get_fA_lt B (by omega)); go_simp; refine ⟨R.refl _, hK _ _ ?_⟩; clear hK K)
        (refine hr_plain rfl (fun K hK w1 hw1 => ?_); go_simp; refine ⟨R.refl _, hK _ _ ?_⟩; clear hK K)
        refine (hr_plain rfl (fun K hK w1 hw1 => ?_)); go_simp; refine ⟨R.refl _, (a2Near_yes _ _ _ h4 _).mono ?_, fun u hu => hK _ _ ?_⟩; (rintro e w' ⟨rfl, hb⟩; exact ⟨_, rfl, rfl, hb.below0⟩); clear hK K; obtain rfl := hu
        (refine hr_plain rfl (fun K hK w1 hw1 => ?_); go_simp; refine ⟨R.refl _, hK _ _ ?_⟩; clear hK K)
        refine hr_nil ?_
        intro W2 hW1 _
        have hL := hL.below hW1 hL.lt
        have hC := hC.below hW1 hC.lt
        have hA := hA.below hW1 hA.lt
        have hB := hB.below hW1 hB.lt
        have hS := hS.below hW1 hS.lt
        have hb := bCall hb hW1 hb.size
        clear hW1
        go_wp2
        go_roundw
        case rel => exact ⟨j + 1, by omega, by go_num, hb, hL, hC, hA, hB, hS⟩
        case measure => simp [intOf]; omega
      · obtain rfl : j = 3 := by omega
        clear hS HN HS H6E hlt
        go_wp2_with fail
        refine (A2Plain_any a1 n1 c1 f1 _ (y1.to hb (Nat.le_refl _))).mono ?_
        rintro e w17 h
        obtain ⟨g, hg, rfl, hb1⟩ := h
        have hL := hL.below hb1 hL.lt
        have hC := hC.below hb1 hC.lt
        have hA := hA.below hb1 hA.lt
        have hB := hB.below hb1 hB.lt
        have hb := bCall hb hb1 hb.size
        clear hb1
        have Hg := Lib.hid hg
        clear hg
        go_wp2_with fail
        have lt_hL := hL.lt
        have lt_hC := hC.lt
        have lt_hA := hA.lt
        have lt_hB := hB.lt
        have lhb := hb.size
        have Hgm : Hid (g ≤ 64) := Lib.hid (by have := Hg.out; omega)
        refine wp_region_lr_late 8 6 (G3 8 8 (IsC 16 fun _ => canon .f32 (pw g)) (IsC 16 fun _ => canon .f32 (pw g)) (IsOk 3 (look3 fun i => cbrt (seenAt (fun i => lightAt (canon .f32 X) i) (fun _ => canon .f32 (pw g)) i)))) (by kernel_rfl) (by kernel_rfl) (fun _ _ d _ _ h => by cases d <;> exact h) ?_
        simp only [List.take_succ_cons, List.take_zero, List.drop_succ_cons, List.drop_zero]
        (refine wpLR_plain rfl (fun K hK w1 hw1 => lrUpon_load rfl _ rfl _ _ _ _ (Blk.below hL hw1 hL.lt) Try.underlying26 rfl (by kernel_rfl) (fun N => hK _ _ ?_)); clear hK K)
        (refine wpLR_plain rfl (fun K hK w1 hw1 => ?_); go_simp; refine ⟨R.refl _, hK _ _ ?_⟩; clear hK K)
        (refine wpLR_plain rfl (fun K0 hK0 w1 hw1 => ?_); go_simp; refine ⟨R.refl _, (iFlatCurve_any _ _).mono ?_, fun u hu => hK0 _ _ ?_⟩; (intro e w' h; obtain ⟨u, hu, hq, hb⟩ := h.is; exact ⟨u, hu, .mk1 (by decide) hq, hb⟩); clear hK0 K0; obtain ⟨r1, rfl, H1⟩ := hu.of1 (by decide); clear hu)
        (refine wpLR_plain rfl (fun K0 hK0 w1 hw1 => ?_); go_simp; refine ⟨R.refl _, (iLookUnder_any _ _ _).mono ?_, fun u hu => hK0 _ _ ?_⟩; (intro e w' h; obtain ⟨u, hu, hq, hb⟩ := (h.ok ((congrArg lookUnderMade (res_cong HL.out H1.out)).trans (grey_look Hm.out.1 Hm.out.2 HX.out (fun _ _ => drawn_is Hg.out) Hgm.out rfl).1) (fun i _ => rfl)).is; exact ⟨u, hu, .mk3 (by decide) (by decide) hq, hb⟩); clear hK0 K0; obtain ⟨Ur, rfl, HUr⟩ := hu.of3 (by decide) (by decide); clear hu H1)
        (refine wpLR_plain rfl (fun K hK w1 hw1 => ?_); go_simp; refine ⟨R.refl _, hK _ _ ?_⟩; clear hK K)
        (refine wpLR_plain rfl (fun K hK w1 hw1 => ?_); go_simp; refine ⟨R.refl _, hK _ _ ?_⟩; clear hK K)
        (refine wpLR_plain rfl (fun K hK w1 hw1 => ?_); go_simp; refine ⟨R.refl _, hK _ _ ?_⟩; clear hK K)
        (refine wpLR_plain rfl (fun K hK vUr hvUr => ?_); go_simp; refine ⟨Below.alloc (Below.refl _ _) (Nat.le_refl _) _, hK _ _ ?_⟩; clear hK K)
        refine wpLR_nil ?_
        intro VUr hW1 hSS
        have hZ : Blk VUr vUr.heap.size 38 (fA 3 fun _ => 0) := (Blk.new _ _ _).below hSS.2 (Blk.new _ _ _).lt
        clear hSS
        have hL := hL.below hW1 hL.lt
        have hC := hC.below hW1 hC.lt
        have hA := hA.below hW1 hA.lt
        have hB := hB.below hW1 hB.lt
        have hg : w17.heap.size ≤ vUr.heap.size := hvUr.size
        have hL := hL.farRow (g' := vUr.heap.size) (cs' := fA 3 Ur) (by omega)
        have hC := hC.farRow (g' := vUr.heap.size) (cs' := fA 3 Ur) (by omega)
        have hA := hA.farRow (g' := vUr.heap.size) (cs' := fA 3 Ur) (by omega)
        have hB := hB.farRow (g' := vUr.heap.size) (cs' := fA 3 Ur) (by omega)
        have hUr : Blk (VUr.setRow vUr.heap.size (fA 3 Ur)) vUr.heap.size 38 (fA 3 Ur) := hZ.setRow
        have hb := bRow (bCall hb hW1 hb.size) (g := vUr.heap.size) (by omega) (fA 3 Ur)
        clear hW1 lhb lt_hL lt_hC lt_hA lt_hB
        go_wp2_with (first | (refine wpList_store_row rfl 38 _ _ rfl _ _ rfl rfl _ _ hZ (by kernel_rfl) (by simp only [size_fA]) (all_fA _ _) ?_))
        refine (iLightOf_any 0 _).mono ?_
        rintro e w18 h
        obtain ⟨Pl, rfl, hPl, hb1⟩ := h.ok (light_res (n := 0) (by omega) (by omega) zero_warm) (fun i _ => rfl)
        clear h
        have HPl := Lib.hid hPl
        clear hPl hZ
        have hL := hL.below hb1 hL.lt
        have hC := hC.below hb1 hC.lt
        have hA := hA.below hb1 hA.lt
        have hB := hB.below hb1 hB.lt
        have hUr := hUr.below hb1 hUr.lt
        have hb := bCall hb hb1 hb.size
        clear hb1
        have hL := hL.alloc (.cells (fA 16 Pl) 26)
        have hC := hC.alloc (.cells (fA 16 Pl) 26)
        have hA := hA.alloc (.cells (fA 16 Pl) 26)
        have hB := hB.alloc (.cells (fA 16 Pl) 26)
        have hUr := hUr.alloc (.cells (fA 16 Pl) 26)
        have hP : Blk (w18.alloc (.cells (fA 16 Pl) 26)) w18.heap.size 26 (fA 16 Pl) := Blk.new _ _ _
        have hb : Below wb.heap.size wb (w18.alloc (.cells (fA 16 Pl) 26)) := hb.alloc hb.size _
        go_wp2_with (first | (refine wpList_store_new rfl 26 _ _ rfl _ rfl rfl (by kernel_rfl) rfl (all_fA _ _) ?_))
        obtain ⟨W19, hW⟩ : ∃ W : World, W = w18.alloc (.cells (fA 16 Pl) 26) := ⟨_, rfl⟩
        rw [← hW] at hL hC hA hB hUr hP hb ⊢
        have lt_hL := hL.lt
        have lt_hC := hC.lt
        have lt_hA := hA.lt
        have lt_hB := hB.lt
        have lt_hUr := hUr.lt
        have lt_hP := hP.lt
        have lhb := hb.size
        clear hW
        refine wp_region_lr_late 8 6 (G3 8 8 (IsC 16 fun _ => canon .f32 (pw g)) (IsC 16 fun _ => canon .f32 (pw g)) (IsOk 3 (look3 fun i => cbrt (seenAt (fun i => lightAt (canon .f32 0) i) (fun _ => canon .f32 (pw g)) i)))) (by kernel_rfl) (by kernel_rfl) (fun _ _ d _ _ h => by cases d <;> exact h) ?_
        simp only [List.take_succ_cons, List.take_zero, List.drop_succ_cons, List.drop_zero]
        (refine wpLR_plain rfl (fun K hK w1 hw1 => lrUpon_load rfl _ rfl _ _ _ _ (Blk.below hP hw1 hP.lt) Try.underlying26 rfl (by kernel_rfl) (fun N => hK _ _ ?_)); clear hK K)
        (refine wpLR_plain rfl (fun K hK w1 hw1 => ?_); go_simp; refine ⟨R.refl _, hK _ _ ?_⟩; clear hK K)
        (refine wpLR_plain rfl (fun K0 hK0 w1 hw1 => ?_); go_simp; refine ⟨R.refl _, (iFlatCurve_any _ _).mono ?_, fun u hu => hK0 _ _ ?_⟩; (intro e w' h; obtain ⟨u, hu, hq, hb⟩ := h.is; exact ⟨u, hu, .mk1 (by decide) hq, hb⟩); clear hK0 K0; obtain ⟨r1, rfl, H1⟩ := hu.of1 (by decide); clear hu)
        (refine wpLR_plain rfl (fun K0 hK0 w1 hw1 => ?_); go_simp; refine ⟨R.refl _, (iLookUnder_any _ _ _).mono ?_, fun u hu => hK0 _ _ ?_⟩; (intro e w' h; obtain ⟨u, hu, hq, hb⟩ := (h.ok ((congrArg lookUnderMade (res_cong HPl.out H1.out)).trans (grey_look (n := 0) (by omega) (by omega) HX0.out (fun _ _ => drawn_is Hg.out) Hgm.out rfl).1) (fun i _ => rfl)).is; exact ⟨u, hu, .mk3 (by decide) (by decide) hq, hb⟩); clear hK0 K0; obtain ⟨Vr, rfl, HVr⟩ := hu.of3 (by decide) (by decide); clear hu H1)
        (refine wpLR_plain rfl (fun K hK w1 hw1 => ?_); go_simp; refine ⟨R.refl _, hK _ _ ?_⟩; clear hK K)
        (refine wpLR_plain rfl (fun K hK w1 hw1 => ?_); go_simp; refine ⟨R.refl _, hK _ _ ?_⟩; clear hK K)
        (refine wpLR_plain rfl (fun K hK w1 hw1 => ?_); go_simp; refine ⟨R.refl _, hK _ _ ?_⟩; clear hK K)
        (refine wpLR_plain rfl (fun K hK vVr hvVr => ?_); go_simp; refine ⟨Below.alloc (Below.refl _ _) (Nat.le_refl _) _, hK _ _ ?_⟩; clear hK K)
        refine wpLR_nil ?_
        intro VVr hW1 hSS
        have hZ : Blk VVr vVr.heap.size 38 (fA 3 fun _ => 0) := (Blk.new _ _ _).below hSS.2 (Blk.new _ _ _).lt
        clear hSS
        have hL := hL.below hW1 hL.lt
        have hC := hC.below hW1 hC.lt
        have hA := hA.below hW1 hA.lt
        have hB := hB.below hW1 hB.lt
        have hUr := hUr.below hW1 hUr.lt
        have hP := hP.below hW1 hP.lt
        have hg : W19.heap.size ≤ vVr.heap.size := hvVr.size
        have hL := hL.farRow (g' := vVr.heap.size) (cs' := fA 3 Vr) (by omega)
        have hC := hC.farRow (g' := vVr.heap.size) (cs' := fA 3 Vr) (by omega)
        have hA := hA.farRow (g' := vVr.heap.size) (cs' := fA 3 Vr) (by omega)
        have hB := hB.farRow (g' := vVr.heap.size) (cs' := fA 3 Vr) (by omega)
        have hUr := hUr.farRow (g' := vVr.heap.size) (cs' := fA 3 Vr) (by omega)
        have hP := hP.farRow (g' := vVr.heap.size) (cs' := fA 3 Vr) (by omega)
        have hVr : Blk (VVr.setRow vVr.heap.size (fA 3 Vr)) vVr.heap.size 38 (fA 3 Vr) := hZ.setRow
        have hb := bRow (bCall hb hW1 hb.size) (g := vVr.heap.size) (by omega) (fA 3 Vr)
        clear hW1 lhb lt_hL lt_hC lt_hA lt_hB lt_hUr lt_hP
        go_wp2_with (first | (refine wpList_store_row rfl 38 _ _ rfl _ _ rfl rfl _ _ hZ (by kernel_rfl) (by simp only [size_fA]) (all_fA _ _) ?_))
        clear hZ hP HPl
        obtain ⟨W20, hW⟩ : ∃ W : World, W = VVr.setRow vVr.heap.size (fA 3 Vr) := ⟨_, rfl⟩
        rw [← hW] at hL hC hA hB hUr hVr hb ⊢
        have lt_hL := hL.lt
        have lt_hC := hC.lt
        have lt_hA := hA.lt
        have lt_hB := hB.lt
        have lt_hUr := hUr.lt
        have lt_hVr := hVr.lt
        have lhb := hb.size
        clear hW
        refine wp_region_lr_late 7 5 (G3 8 8 (IsC 16 fun _ => canon .f32 1065353216) (IsC 16 fun _ => canon .f32 1065353216) (IsOk 3 (look3 fun i => cbrt (seenAt (fun i => lightAt (canon .f32 X) i) (fun _ => canon .f32 1065353216) i)))) (by kernel_rfl) (by kernel_rfl) (fun _ _ d _ _ h => by cases d <;> exact h) ?_
        simp only [List.take_succ_cons, List.take_zero, List.drop_succ_cons, List.drop_zero]
        (refine wpLR_plain rfl (fun K hK w1 hw1 => lrUpon_load rfl _ rfl _ _ _ _ (Blk.below hL hw1 hL.lt) Try.underlying26 rfl (by kernel_rfl) (fun N => hK _ _ ?_)); clear hK K)
        (refine wpLR_plain rfl (fun K0 hK0 w1 hw1 => ?_); go_simp; refine ⟨R.refl _, (iFlatCurve_any _ _).mono ?_, fun u hu => hK0 _ _ ?_⟩; (intro e w' h; obtain ⟨u, hu, hq, hb⟩ := h.is; exact ⟨u, hu, .mk1 (by decide) hq, hb⟩); clear hK0 K0; obtain ⟨r1, rfl, H1⟩ := hu.of1 (by decide); clear hu)
        (refine wpLR_plain rfl (fun K0 hK0 w1 hw1 => ?_); go_simp; refine ⟨R.refl _, (iLookUnder_any _ _ _).mono ?_, fun u hu => hK0 _ _ ?_⟩; (intro e w' h; obtain ⟨u, hu, hq, hb⟩ := (h.ok ((congrArg lookUnderMade (res_cong HL.out H1.out)).trans (grey_look Hm.out.1 Hm.out.2 HX.out (fun _ _ => i1) (m := 64) (by omega) white_m).1) (fun i _ => rfl)).is; exact ⟨u, hu, .mk3 (by decide) (by decide) hq, hb⟩); clear hK0 K0; obtain ⟨Wr, rfl, HWr⟩ := hu.of3 (by decide) (by decide); clear hu H1)
        (refine wpLR_plain rfl (fun K hK w1 hw1 => ?_); go_simp; refine ⟨R.refl _, hK _ _ ?_⟩; clear hK K)
        (refine wpLR_plain rfl (fun K hK w1 hw1 => ?_); go_simp; refine ⟨R.refl _, hK _ _ ?_⟩; clear hK K)
        (refine wpLR_plain rfl (fun K hK w1 hw1 => ?_); go_simp; refine ⟨R.refl _, hK _ _ ?_⟩; clear hK K)
        (refine wpLR_plain rfl (fun K hK vWr hvWr => ?_); go_simp; refine ⟨Below.alloc (Below.refl _ _) (Nat.le_refl _) _, hK _ _ ?_⟩; clear hK K)
        refine wpLR_nil ?_
        intro VWr hW1 hSS
        have hZ : Blk VWr vWr.heap.size 38 (fA 3 fun _ => 0) := (Blk.new _ _ _).below hSS.2 (Blk.new _ _ _).lt
        clear hSS
        have hL := hL.below hW1 hL.lt
        have hC := hC.below hW1 hC.lt
        have hA := hA.below hW1 hA.lt
        have hB := hB.below hW1 hB.lt
        have hUr := hUr.below hW1 hUr.lt
        have hVr := hVr.below hW1 hVr.lt
        have hg : W20.heap.size ≤ vWr.heap.size := hvWr.size
        have hL := hL.farRow (g' := vWr.heap.size) (cs' := fA 3 Wr) (by omega)
        have hC := hC.farRow (g' := vWr.heap.size) (cs' := fA 3 Wr) (by omega)
        have hA := hA.farRow (g' := vWr.heap.size) (cs' := fA 3 Wr) (by omega)
        have hB := hB.farRow (g' := vWr.heap.size) (cs' := fA 3 Wr) (by omega)
        have hUr := hUr.farRow (g' := vWr.heap.size) (cs' := fA 3 Wr) (by omega)
        have hVr := hVr.farRow (g' := vWr.heap.size) (cs' := fA 3 Wr) (by omega)
        have hWr : Blk (VWr.setRow vWr.heap.size (fA 3 Wr)) vWr.heap.size 38 (fA 3 Wr) := hZ.setRow
        have hb := bRow (bCall hb hW1 hb.size) (g := vWr.heap.size) (by omega) (fA 3 Wr)
        clear hW1 lhb lt_hL lt_hC lt_hA lt_hB lt_hUr lt_hVr
        have h1 : near (canon .f32 (Ur 0)) (canon .f32 (Vr 0)) (canon .f32 981668463) = true := by rw [HUr.out 0 (by omega), HVr.out 0 (by omega)]; exact grey_near Hm.out.1 Hm.out.2 HX.out (by omega) (by omega) HX0.out (fun _ _ => drawn_is Hg.out) (fun _ _ => drawn_is Hg.out) Hgm.out rfl
        have h2 : near (canon .f32 (Wr 0)) (canon .f32 1120403456) (canon .f32 981668463) = true := by rw [HWr.out 0 (by omega)]; exact white_near Hm.out.1 Hm.out.2 HX.out fun _ _ => i1
        have cu := (hUr.cell 0).trans (get_fA_lt Ur (by omega))
        have cv := (hVr.cell 0).trans (get_fA_lt Vr (by omega))
        clear HUr HVr HWr
        go_wp2_with (first | (refine wpList_store_row rfl 38 _ _ rfl _ _ rfl rfl _ _ hZ (by kernel_rfl) (by simp only [size_fA]) (all_fA _ _) ?_))
        clear hZ
        refine (a2Near_yes _ _ _ h1 _).mono ?_
        rintro e w50 ⟨rfl, n5, rfl⟩
        clear h1 cu cv
        have cw := ((hWr.drewN n5).cell 0).trans (get_fA_lt Wr (by omega))
        go_wp2_with fail
        refine (a2Near_yes _ _ _ h2 _).mono ?_
        rintro e w51 ⟨rfl, n6, rfl⟩
        clear h2 cw hUr hVr hWr
        have hL := hL.drewN (n5 + n6)
        have hC := hC.drewN (n5 + n6)
        have hA := hA.drewN (n5 + n6)
        have hB := hB.drewN (n5 + n6)
        have hb := bDrew hb (n5 + n6)
        go_wp2_with (first | (refine wpList_load_row rfl 38 _ rfl _ rfl _ _ (0, 0) _ hA Try.underlying38 rfl (by kernel_rfl) ?_))
        refine (iLookOf_any A _).mono ?_
        rintro e w21 h
        obtain ⟨Xr, rfl, hXr, hb1⟩ := (look_congr (fun i hi => HA.out i hi) h).ok (curve_look Hm.out.1 Hm.out.2 HX.out H6C.out (drawn_le HV.out)).2.2.1 (fun i _ => rfl)
        clear h
        have HXr := Lib.hid hXr
        clear hXr
        have hL := hL.below hb1 hL.lt
        have hC := hC.below hb1 hC.lt
        have hA := hA.below hb1 hA.lt
        have hB := hB.below hb1 hB.lt
        have hb := bCall hb hb1 hb.size
        clear hb1
        have hL := hL.alloc (.cells (fA 3 Xr) 38)
        have hC := hC.alloc (.cells (fA 3 Xr) 38)
        have hA := hA.alloc (.cells (fA 3 Xr) 38)
        have hB := hB.alloc (.cells (fA 3 Xr) 38)
        have hXr : Blk (w21.alloc (.cells (fA 3 Xr) 38)) w21.heap.size 38 (fA 3 Xr) := Blk.new _ _ _
        have hb : Below wb.heap.size wb (w21.alloc (.cells (fA 3 Xr) 38)) := hb.alloc hb.size _
        go_wp2_with (first | (refine wpList_store_new rfl 38 _ _ rfl _ rfl rfl (by kernel_rfl) rfl (all_fA _ _) ?_) | (refine wpList_load_row rfl 38 _ rfl _ rfl _ _ (0, 0) _ hB Try.underlying38 rfl (by kernel_rfl) ?_))
        refine (iLookOf_any B _).mono ?_
        rintro e w22 h
        obtain ⟨Yr, rfl, hYr, hb1⟩ := (look_congr (fun i hi => HB.out i hi) h).ok (curve_look Hm.out.1 Hm.out.2 HX.out H6D.out (drawn_le HU.out)).2.2.1 (fun i _ => rfl)
        clear h
        have HYr := Lib.hid hYr
        clear hYr
        have hL := hL.below hb1 hL.lt
        have hC := hC.below hb1 hC.lt
        have hA := hA.below hb1 hA.lt
        have hB := hB.below hb1 hB.lt
        have hXr := hXr.below hb1 hXr.lt
        have hb := bCall hb hb1 hb.size
        clear hb1
        have hL := hL.alloc (.cells (fA 3 Yr) 38)
        have hC := hC.alloc (.cells (fA 3 Yr) 38)
        have hA := hA.alloc (.cells (fA 3 Yr) 38)
        have hB := hB.alloc (.cells (fA 3 Yr) 38)
        have hXr := hXr.alloc (.cells (fA 3 Yr) 38)
        have hYr : Blk (w22.alloc (.cells (fA 3 Yr) 38)) w22.heap.size 38 (fA 3 Yr) := Blk.new _ _ _
        have hb : Below wb.heap.size wb (w22.alloc (.cells (fA 3 Yr) 38)) := hb.alloc hb.size _
        go_wp2_with (first | (refine wpList_store_new rfl 38 _ _ rfl _ rfl rfl (by kernel_rfl) rfl (all_fA _ _) ?_) | (refine wpList_load_row rfl 26 _ rfl _ rfl _ _ (0, 0) _ hL Try.underlying26 rfl (by kernel_rfl) ?_) | (refine wpList_load_row rfl 26 _ rfl _ rfl _ _ (0, 0) _ hC Try.underlying26 rfl (by kernel_rfl) ?_))
        refine (iLookUnder_any L Cw _).mono ?_
        rintro e w23 h
        obtain ⟨Zr, rfl, hZr, hb1⟩ := h.ok ((congrArg lookUnderMade (res_cong HL.out (fun _ _ => rfl))).trans (look_made (curve_look Hm.out.1 Hm.out.2 HX.out H6C.out (drawn_le HV.out)).1 (curve_look Hm.out.1 Hm.out.2 HX.out H6C.out (drawn_le HV.out)).2.2.1)) (fun i _ => rfl)
        clear h
        have HZr := Lib.hid hZr
        clear hZr
        have hL := hL.below hb1 hL.lt
        have hC := hC.below hb1 hC.lt
        have hA := hA.below hb1 hA.lt
        have hB := hB.below hb1 hB.lt
        have hXr := hXr.below hb1 hXr.lt
        have hYr := hYr.below hb1 hYr.lt
        have hb := bCall hb hb1 hb.size
        clear hb1
        have hL := hL.alloc (.cells (fA 3 Zr) 38)
        have hC := hC.alloc (.cells (fA 3 Zr) 38)
        have hA := hA.alloc (.cells (fA 3 Zr) 38)
        have hB := hB.alloc (.cells (fA 3 Zr) 38)
        have hXr := hXr.alloc (.cells (fA 3 Zr) 38)
        have hYr := hYr.alloc (.cells (fA 3 Zr) 38)
        have hZr : Blk (w23.alloc (.cells (fA 3 Zr) 38)) w23.heap.size 38 (fA 3 Zr) := Blk.new _ _ _
        have hb : Below wb.heap.size wb (w23.alloc (.cells (fA 3 Zr) 38)) := hb.alloc hb.size _
        have hs : (allTo 3 fun i => canon .f32 (rowAt Xr 0 i) == canon .f32 (rowAt Zr 0 i)) = true := allTo_true fun i hi => by rw [show rowAt Xr 0 i = Xr i by simp [rowAt], show rowAt Zr 0 i = Zr i by simp [rowAt], HXr.out i hi, HZr.out i hi]; exact beq_self_eq_true _
        obtain ⟨PX, hPX⟩ : ∃ U, Mod (fun i => canon .f32 (Xr i)) U := by
          obtain ⟨U, hU⟩ := (curve_look Hm.out.1 Hm.out.2 HX.out H6C.out (drawn_le HV.out)).2.2.2
          exact ⟨U, hU.to fun i hi => HXr.out i hi⟩
        obtain ⟨PY, hPY⟩ : ∃ U, Mod (fun i => canon .f32 (Yr i)) U := by
          obtain ⟨U, hU⟩ := (curve_look Hm.out.1 Hm.out.2 HX.out H6D.out (drawn_le HU.out)).2.2.2
          exact ⟨U, hU.to fun i hi => HYr.out i hi⟩
        have HPX := Lib.hid hPX
        have HPY := Lib.hid hPY
        clear hPX hPY
        go_wp2_with (first | (refine wpList_store_new rfl 38 _ _ rfl _ rfl rfl (by kernel_rfl) rfl (all_fA _ _) ?_) | (refine wpList_load_partW rfl 38 _ rfl 0 3 hXr rfl (by decide) Try.underlying38 rfl (by kernel_rfl) ?_) | (refine wpList_load_partW rfl 38 _ rfl 0 3 hZr rfl (by decide) Try.underlying38 rfl (by kernel_rfl) ?_))
        refine (iSameThree_any _ _ _).mono ?_
        rw [hs]
        rintro e w52 ⟨rfl, hb1⟩
        have hXr := hXr.below hb1 hXr.lt
        have hYr := hYr.below hb1 hYr.lt
        have hZr := hZr.below hb1 hZr.lt
        have hb := bCall hb hb1 hb.size
        clear hb1
        go_wp2_with (first | (refine wpList_load_partW rfl 38 _ rfl 0 3 hXr rfl (by decide) Try.underlying38 rfl (by kernel_rfl) ?_) | (refine wpList_load_partW rfl 38 _ rfl 0 3 hZr rfl (by decide) Try.underlying38 rfl (by kernel_rfl) ?_))
        refine (sSameThree_any _ _ _).mono ?_
        rw [hs]
        rintro e w53 ⟨rfl, hb1⟩
        have hXr := hXr.below hb1 hXr.lt
        have hYr := hYr.below hb1 hYr.lt
        have hZr := hZr.below hb1 hZr.lt
        have hb := bCall hb hb1 hb.size
        clear hb1
        clear hs hZr
        have HF := Lib.hid (diff_facts HPX.out HPY.out)
        go_wp2_with fail
        refine wp_region_hr (GD 26) (by kernel_rfl) (by kernel_rfl) ?_
        refine (hr_plain rfl (fun K hK w1 hw1 => lrUpon_load rfl _ rfl _ _ _ _ (Blk.below hXr hw1 hXr.lt) Try.underlying38 rfl (by kernel_rfl) (fun N => hK _ _ ?_))); clear hK K
        refine (hr_plain rfl (fun K hK w1 hw1 => lrUpon_load rfl _ rfl _ _ _ _ (Blk.below hXr hw1 hXr.lt) Try.underlying38 rfl (by kernel_rfl) (fun N => hK _ _ ?_))); clear hK K
        refine (hr_plain rfl (fun K hK w1 hw1 => ?_)); go_simp; refine ⟨R.refl _, (iDifferenceOf_any _ _ _).mono ?_, fun u hu => hK _ _ ?_⟩; (rintro e w' ⟨z, rfl, hz, hb⟩; exact ⟨_, rfl, GD.mk2 (by decide) hz, hb⟩); clear hK K; obtain ⟨ra, rfl, Hra⟩ := hu.of2 (by decide)
        have o1 : FloatKind.f32.format.order ra 0 = some .eq := order_eq (by rw [Hra.out]; exact HF.out.1)
        (refine hr_plain rfl (fun K hK w1 hw1 => ?_); go_simp; refine ⟨R.refl _, hK _ _ ?_⟩; clear hK K)
        (refine hr_plain rfl (fun K hK w1 hw1 => ?_); go_simp; refine ⟨R.refl _, hK _ _ ?_⟩; clear hK K)
        refine (hr_want (by kernel_rfl) (fun K hK w1 hw1 => lrUpon_load rfl _ rfl _ _ _ _ (Blk.below hXr hw1 hXr.lt) Try.underlying38 rfl (by kernel_rfl) (fun N => hK _ _ ?_))); clear hK K
        refine (hr_want (by kernel_rfl) (fun K hK w1 hw1 => lrUpon_load rfl _ rfl _ _ _ _ (Blk.below hYr hw1 hYr.lt) Try.underlying38 rfl (by kernel_rfl) (fun N => hK _ _ ?_))); clear hK K
        refine (hr_want (by kernel_rfl) (fun K hK w1 hw1 => ?_)); go_simp; refine ⟨R.refl _, (iDistanceOf_any _ _ _).mono ?_, fun u hu => hK _ _ ?_⟩; (rintro e w' ⟨z, rfl, hz, hb⟩; exact ⟨_, rfl, GD.mk1 hz, hb⟩); clear hK K; obtain ⟨rb, rfl, Hrb⟩ := hu.of1
        refine (hr_want (by kernel_rfl) (fun K hK w1 hw1 => lrUpon_load rfl _ rfl _ _ _ _ (Blk.below hYr hw1 hYr.lt) Try.underlying38 rfl (by kernel_rfl) (fun N => hK _ _ ?_))); clear hK K
        refine (hr_want (by kernel_rfl) (fun K hK w1 hw1 => lrUpon_load rfl _ rfl _ _ _ _ (Blk.below hXr hw1 hXr.lt) Try.underlying38 rfl (by kernel_rfl) (fun N => hK _ _ ?_))); clear hK K
        refine (hr_want (by kernel_rfl) (fun K hK w1 hw1 => ?_)); go_simp; refine ⟨R.refl _, (iDistanceOf_any _ _ _).mono ?_, fun u hu => hK _ _ ?_⟩; (rintro e w' ⟨z, rfl, hz, hb⟩; exact ⟨_, rfl, GD.mk1 hz, hb⟩); clear hK K; obtain ⟨rc, rfl, Hrc⟩ := hu.of1
        have o2 : FloatKind.f32.format.order rb rc = some .eq := order_eq (by rw [Hrb.out, Hrc.out]; exact HF.out.2.1)
        (refine (hr_want (by kernel_rfl) (fun K hK w1 hw1 => ?_)); go_simp; refine ⟨R.refl _, hK _ _ ?_⟩; clear hK K)
        (refine hr_plain rfl (fun K hK w1 hw1 => ?_); go_simp; refine ⟨R.refl _, hK _ _ ?_⟩; clear hK K)
        (refine hr_plain rfl (fun K hK w1 hw1 => ?_); go_simp; refine ⟨R.refl _, hK _ _ ?_⟩; clear hK K)
        refine (hr_want (by kernel_rfl) (fun K hK w1 hw1 => lrUpon_load rfl _ rfl _ _ _ _ (Blk.below hXr hw1 hXr.lt) Try.underlying38 rfl (by kernel_rfl) (fun N => hK _ _ ?_))); clear hK K
        refine (hr_want (by kernel_rfl) (fun K hK w1 hw1 => lrUpon_load rfl _ rfl _ _ _ _ (Blk.below hYr hw1 hYr.lt) Try.underlying38 rfl (by kernel_rfl) (fun N => hK _ _ ?_))); clear hK K
        refine (hr_want (by kernel_rfl) (fun K hK w1 hw1 => ?_)); go_simp; refine ⟨R.refl _, (iDifferenceOf_any _ _ _).mono ?_, fun u hu => hK _ _ ?_⟩; (rintro e w' ⟨z, rfl, hz, hb⟩; exact ⟨_, rfl, GD.mk2 (by decide) hz, hb⟩); clear hK K; obtain ⟨rd, rfl, Hrd⟩ := hu.of2 (by decide)
        refine (hr_want (by kernel_rfl) (fun K hK w1 hw1 => lrUpon_load rfl _ rfl _ _ _ _ (Blk.below hXr hw1 hXr.lt) Try.underlying38 rfl (by kernel_rfl) (fun N => hK _ _ ?_))); clear hK K
        refine (hr_want (by kernel_rfl) (fun K hK w1 hw1 => lrUpon_load rfl _ rfl _ _ _ _ (Blk.below hYr hw1 hYr.lt) Try.underlying38 rfl (by kernel_rfl) (fun N => hK _ _ ?_))); clear hK K
        refine (hr_want (by kernel_rfl) (fun K hK w1 hw1 => ?_)); go_simp; refine ⟨R.refl _, (iDistanceOf_any _ _ _).mono ?_, fun u hu => hK _ _ ?_⟩; (rintro e w' ⟨z, rfl, hz, hb⟩; exact ⟨_, rfl, GD.mk1 hz, hb⟩); clear hK K; obtain ⟨re, rfl, Hre⟩ := hu.of1
        obtain ⟨q, qa, qac, hq⟩ := op_word (op := .add) (x := re) (y := 981668463) (by rw [Hre.out]; exact HF.out.2.2.1)
        have o3 : (FloatKind.f32.format.order rd q == some .lt || FloatKind.f32.format.order rd q == some .eq) = true := by rw [o_le, hq, Hrd.out, Hre.out]; exact HF.out.2.2.2.1
        clear hq
        (refine (hr_want (by kernel_rfl) (fun K hK w1 hw1 => ?_)); go_simp; refine ⟨R.refl _, hK _ _ ?_⟩; clear hK K)
        (refine (hr_want (by kernel_rfl) (fun K hK w1 hw1 => ?_)); go_simp; refine ⟨R.refl _, hK _ _ ?_⟩; clear hK K)
        (refine hr_plain rfl (fun K hK w1 hw1 => ?_); go_simp; refine ⟨R.refl _, hK _ _ ?_⟩; clear hK K)
        (refine hr_plain rfl (fun K hK w1 hw1 => ?_); go_simp; refine ⟨R.refl _, hK _ _ ?_⟩; clear hK K)
        refine (hr_want (by kernel_rfl) (fun K hK w1 hw1 => lrUpon_load rfl _ rfl _ _ _ _ (Blk.below hXr hw1 hXr.lt) Try.underlying38 rfl (by kernel_rfl) (fun N => hK _ _ ?_))); clear hK K
        refine (hr_want (by kernel_rfl) (fun K hK w1 hw1 => lrUpon_load rfl _ rfl _ _ _ _ (Blk.below hYr hw1 hYr.lt) Try.underlying38 rfl (by kernel_rfl) (fun N => hK _ _ ?_))); clear hK K
        refine (hr_want (by kernel_rfl) (fun K hK w1 hw1 => ?_)); go_simp; refine ⟨R.refl _, (iDifferenceOf_any _ _ _).mono ?_, fun u hu => hK _ _ ?_⟩; (rintro e w' ⟨z, rfl, hz, hb⟩; exact ⟨_, rfl, GD.mk2 (by decide) hz, hb⟩); clear hK K; obtain ⟨rf, rfl, Hrf⟩ := hu.of2 (by decide)
        refine (hr_want (by kernel_rfl) (fun K hK w1 hw1 => lrUpon_load rfl _ rfl _ _ _ _ (Blk.below hXr hw1 hXr.lt) Try.underlying38 rfl (by kernel_rfl) (fun N => hK _ _ ?_))); clear hK K
        refine (hr_want (by kernel_rfl) (fun K hK w1 hw1 => lrUpon_load rfl _ rfl _ _ _ _ (Blk.below hYr hw1 hYr.lt) Try.underlying38 rfl (by kernel_rfl) (fun N => hK _ _ ?_))); clear hK K
        refine (hr_want (by kernel_rfl) (fun K hK w1 hw1 => ?_)); go_simp; refine ⟨R.refl _, (sDifferenceOf_any _ _ _).mono ?_, fun u hu => hK _ _ ?_⟩; (rintro e w' ⟨z, rfl, hz, hb⟩; exact ⟨_, rfl, GD.mk2 (by decide) hz, hb⟩); clear hK K; obtain ⟨rg, rfl, Hrg⟩ := hu.of2 (by decide)
        have o4 : FloatKind.f32.format.order rf rg = some .eq := order_eq (by rw [Hrf.out, Hrg.out]; exact HF.out.2.2.2.2)
        (refine (hr_want (by kernel_rfl) (fun K hK w1 hw1 => ?_)); go_simp; refine ⟨R.refl _, hK _ _ ?_⟩; clear hK K)
        (refine hr_plain rfl (fun K hK w1 hw1 => ?_); go_simp; refine ⟨R.refl _, hK _ _ ?_⟩; clear hK K)
        (refine hr_plain rfl (fun K hK w1 hw1 => ?_); go_simp; refine ⟨R.refl _, hK _ _ ?_⟩; clear hK K)
        refine hr_nil ?_
        intro W2 hW1 _
        have hb := bCall hb hW1 hb.size
        clear hW1 o1 o2 o3 o4 qa qac
        go_wp2
        go_ret
        exact ⟨rfl, hb⟩

theorem own : ownKnob Try.prog.godebug = none := by kernel_rfl
theorem laidOut : laidOutB Try.prog = true := by kernel_rfl
set_option maxRecDepth 100000 in
theorem lifted (os : Os) (started : os.Started) (H : Type) (enc : TypeId × Value → H) :
    ReturnsInHanded {} Try.checked os 4 .any (Rows.fnSeenSpec.pre6 enc Try.prog Try.f4 Rows.fnSeenRow.domain false) (Rows.fnSeenSpec.post enc Try.prog Try.f4 false true false false) := by
  refine returnsInHanded_of_change (C := Try.checked) own started (by kernel_rfl) Try.func4
    (ChangeSpec.witness6 (enc := enc) (C := Try.checked) false ⟨#[], #[.slice none 0 0, .slice none 0 0], []⟩ 8 (by kernel_rfl) (by kernel_rfl) (by kernel_rfl) (by kernel_rfl)) ?_
  intro W base args ds gs before hval0 hW hcnd _
  have hval : ∀ (j : Nat) t v, Try.f4.params[j]? = some t → args[j]? = some v → Value.okWide Try.prog W .any base t v := hval0
  have hW' := hW
  obtain ⟨p, q, hA0, hV, rfl, hfz, hnd⟩ := hW
  have hA : DataW.TrodAll enc Try.prog W 0 (fun _ => true) true Try.f4.params.toList args.toList ds p := hA0
  rw [Try.params4] at hA hval
  obtain ⟨v0, vs0, d0, ds0, p0, q0, hargs, rfl, rfl, h0, r0⟩ := trodAll_cons hA
  obtain ⟨v1, vs1, d1, ds1, p1, q1, rfl, rfl, rfl, h1, r1⟩ := trodAll_cons r0
  obtain ⟨rfl, rfl, rfl⟩ := trodAll_nil r1
  obtain rfl : args = #[v0, v1] := by cases args; simp_all
  obtain ⟨rfl, rfl⟩ := trodVars_none hV
  have k0 := h0
  have lt0 : ∀ x ∈ p0, x.block < W.heap.size := by obtain ⟨m, hm⟩ := k0; exact DataW.trod_lt m _ _ _ hm
  obtain ⟨a0, n0, c0, rfl⟩ := okWide_slice Try.underlying22 (hval 0 22 v0 rfl rfl)
  obtain ⟨f0, w0⟩ := open_byt Try.underlying22 Try.underlying5 (by kernel_rfl) h0
  have k1 := h1
  have lt1 : ∀ x ∈ p1, x.block < W.heap.size := by obtain ⟨m, hm⟩ := k1; exact DataW.trod_lt m _ _ _ hm
  obtain ⟨a1, n1, c1, rfl⟩ := okWide_slice Try.underlying22 (hval 1 22 v1 rfl rfl)
  obtain ⟨f1, w1⟩ := open_byt Try.underlying22 Try.underlying5 (by kernel_rfl) h1
  clear hA0 hval0
  refine (walk a0 n0 c0 f0 a1 n1 c1 f1 W w0 w1).mono fun e W' ⟨he, bel⟩ => ?_
  subst he
  exact ⟨_, rfl, _, _, _, [], _, [], hW', trodAll_mk1 (shut_bool Try.underlying4 _), (trodAll_cons_mk (Below.trod laidOut (by kernel_rfl) (of_decide_eq_true (by kernel_rfl)) k0 bel lt0) (trodAll_cons_mk (Below.trod laidOut (by kernel_rfl) (of_decide_eq_true (by kernel_rfl)) k1 bel lt1) trodAll_mk0)), rfl, bel.frame _, fun h => by cases h⟩
theorem over : Rows.fnSeenRow.holds Try.pinned (OpenSpec.ofChange Rows.fnSeenSpec) :=
  OpenClaim.holds_of_wide 4 Try.f4 rfl rfl rfl rfl rfl rfl rfl ⟨rfl, rfl, rfl, rfl, rfl⟩ rfl rfl rfl rfl rfl (by kernel_rfl) Try.func4 (by kernel_rfl)
    (of_decide_eq_true (by kernel_rfl)) (by unfold Func.isWrapper; first | (rw [if_pos (by decide +kernel)]; kernel_rfl) | (rw [if_neg (by decide +kernel)]; exact ⟨rfl, rfl⟩))
    (fun os started H enc _ => lifted os started H enc)
theorem proved : Rows.FnSeenSaid := over
#print axioms proved
end Go.Proofs.Ytmikeegecifbfaa.fnSeen
namespace Go.Proofs.Ytmikeegecifbfaa
/-- The row, under a short name, for the claim. -/
theorem fnSeen_holds : Rows.FnSeenSaid := fnSeen.proved
end Go.Proofs.Ytmikeegecifbfaa

