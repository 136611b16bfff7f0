/- Proved: the statement FnHidden of this seat: for every input the law returns true, and each argument reads as it read. There is no condition. -/
import Derived.Test.YtfpjiclkhjdihaaRows
import Derived.Test.YtfpjiclkhjdihaaOpen
import Derived.Test.YtfpjiclkhjdihaaDra
import Derived.Test.YtfpjiclkhjdihaaDrm
import Derived.Test.YtfpjiclkhjdihaaFlG
import Derived.Test.YtfpjiclkhjdihaaCN
import Derived.Test.YtfpjiclkhjdihaaCR
import Derived.Test.YtfpjiclkhjdihaaDM
import Derived.Test.YtfpjiclkhjdihaaDQ
import Derived.Test.YtfpjiclkhjdihaaDV
import Derived.Test.YtfpjiclkhjdihaaGen
import Derived.Test.YtfpjiclkhjdihaaHeld
import Derived.Test.YtfpjiclkhjdihaaFnt
import Derived.WalkKit
import Derived.WalkSpells
import Derived.Outline
import Derived.ProofKit
import Derived.OpenShut
import Derived.ShutString
import Derived.ChangeOld
import Derived.Below
import Derived.IntWalk
import Derived.BigQuiet
namespace Go.Proofs.Ytfpjiclkhjdihaa.fnHidden
open Go.ChangeShapes Go.WideShapes Go.ChangeAt Go.RowKit
open Go.ChangeMaps (open_string shut_string)

set_option maxRecDepth 100000 in
set_option maxHeartbeats 40000000 in
theorem walk (a0 : Option Addr) (n0 c0 : Nat) (f0 : Nat → Nat) (a1 : Option Addr) (n1 c1 : Nat) (f1 : Nat → Nat) (w : World) (y0 : Byt w a0 n0 f0) (y1 : Byt w a1 n1 f1) : Calls Try.prog 4 #[.slice a0 n0 c0, .slice a1 n1 c1] w (RetB w true) := by
  go_enter Try.func4, Try.ntmps4
  by_cases hlong : 3000 < n0 ∨ 3000 < n1
  · go_wp2_with fail
    refine (a2Long_long a0 a1 n0 n1 c0 c1 hlong w).mono ?_
    rintro e w' ⟨rfl, rfl⟩
    go_wp2
    go_ret
    exact ⟨rfl, Below.refl _ _⟩
  · have hn0 : n0 ≤ 3000 := by omega
    have hn1 : n1 ≤ 3000 := by omega
    clear hlong
    go_wp2_with fail
    refine (a2Long_short a0 a1 n0 n1 c0 c1 hn0 hn1 w).mono ?_
    rintro e w0 ⟨rfl, hw⟩
    subst hw
    go_wp2_with fail
    refine (A2Layer_any a0 n0 c0 f0 _ y0).mono ?_
    rintro e w2 ⟨A, K, S, k, hk, hL, hx, rfl, hb⟩
    have HL := Lib.hid hL
    have Hk := Lib.hid hk
    clear hL hk hx
    have hA : Blk (w2.alloc (.cells (fA 33 A) 41)) w2.heap.size 41 (fA 33 A) := Blk.new _ _ _
    have hb : Below w0.heap.size w0 (w2.alloc (.cells (fA 33 A) 41)) := hb.alloc hb.size _
    go_wp2_with (first | (refine wpList_store_new rfl 26 _ _ rfl _ rfl rfl (by kernel_rfl) rfl (all_fA _ _) ?_) | (refine wpList_store_new rfl 41 _ _ rfl _ rfl rfl (by kernel_rfl) rfl (all_fA _ _) ?_) | (refine wpList_store_new rfl 28 _ _ rfl _ rfl rfl (by kernel_rfl) rfl (all_fA _ _) ?_))
    refine (a2At_any a1 n1 c1 f1 _ (y1.to hb (Nat.le_refl _)) 0 32 (by omega) (by omega) (by omega)).mono ?_
    rintro e w3 ⟨m, hm, rfl, hw⟩
    subst hw
    have eu : IntKind.i64.wrap (1 + (m : Int)) = 1 + (m : Int) := IntWalk.i64_in _ (by omega)
    obtain ⟨X, qa, qac, hX⟩ := op_word (op := .quo) (x := floatOfInt .f32 (1 + (m : Int))) (y := 1115684864) (bound_ok m hm).2
    have HT := Lib.hid (hid_thick HL.out hm (show canon .f32 X = _ from hX))
    clear hX
    go_wp2_with (first | (refine wpList_store_new rfl 26 _ _ rfl _ rfl rfl (by kernel_rfl) rfl (all_fA _ _) ?_) | (refine wpList_store_new rfl 41 _ _ rfl _ rfl rfl (by kernel_rfl) rfl (all_fA _ _) ?_) | (refine wpList_store_new rfl 28 _ _ rfl _ rfl rfl (by kernel_rfl) rfl (all_fA _ _) ?_) | (refine wpList_load_partW rfl 26 _ rfl 0 16 hA rfl (by decide) Try.underlying26 rfl (by kernel_rfl) ?_) | (refine wpList_load_partW rfl 26 _ rfl 16 16 hA rfl (by decide) Try.underlying26 rfl (by kernel_rfl) ?_))
    clear qa qac eu hm
    skip
    refine (iThicknessFor_any (rowAt A 0) (rowAt A 16) X _).mono ?_
    rintro e w11 h
    obtain ⟨D, rfl, hD, hb1⟩ := h
    obtain ⟨cd, hcd⟩ : ∃ c, c = (thickForRes (fun i => canon .f32 (rowAt A 0 i)) (fun i => canon .f32 (rowAt A 16 i)) (canon .f32 X)).2 := ⟨_, rfl⟩
    rw [← hcd]
    have HD := Lib.hid hD
    clear hD
    have hA := hA.below hb1 hA.lt
    have hb := bCall hb hb1 hb.size
    clear hb1
    go_wp2_with (first | (refine wpList_store_new rfl 26 _ _ rfl _ rfl rfl (by kernel_rfl) rfl (all_fA _ _) ?_) | (refine wpList_store_new rfl 41 _ _ rfl _ rfl rfl (by kernel_rfl) rfl (all_fA _ _) ?_) | (refine wpList_store_new rfl 28 _ _ rfl _ rfl rfl (by kernel_rfl) rfl (all_fA _ _) ?_) | (refine wpList_load_partW rfl 26 _ rfl 0 16 hA rfl (by decide) Try.underlying26 rfl (by kernel_rfl) ?_) | (refine wpList_load_partW rfl 26 _ rfl 16 16 hA rfl (by decide) Try.underlying26 rfl (by kernel_rfl) ?_))
    refine (sThicknessFor_any (rowAt A 0) (rowAt A 16) X _).mono ?_
    rintro e w12 h
    obtain ⟨E, rfl, hE, hb1⟩ := h
    rw [← hcd]
    have Hcd := Lib.hid hcd
    clear hcd
    obtain ⟨rfl, o1⟩ := thick_word HT.out HD.out hE
    clear hE
    have hA := hA.below hb1 hA.lt
    have hb := bCall hb hb1 hb.size
    clear hb1
    have lbW := hb.size
    have ltW := hA.lt
    go_upto_region 9 with (first | (refine wpList_store_new rfl 26 _ _ rfl _ rfl rfl (by kernel_rfl) rfl (all_fA _ _) ?_))
    rename_i K21 a21 K9 a9
    have hK21 : ∀ (v7 v8 v9 v10 v11 v12 v13 v14 v15 v16 v29 v30 v31 v32 v33 v34 v35 v36 v37 v38 v39 v40 v41 v42 v43 v44 v45 v46 v47 v48 v49 v50 v51 v52 v53 v54 v55 v56 v57 v58 v59 v60 v61 v62 v63 v64 v65 v66 v67 v68 v69 v70 v71 v72 v73 v74 v75 v76 v77 v78 v79 v80 v81 v82 v83 v84 v85 v86 v87 v88 v89 v90 v91 v92 v93 v94 v95 v96 v97 v98 v99 v100 v101 v102 v103 v104 v105 v106 v107 v108 v109 v110 : Value) (W : World), Below w0.heap.size w0 W → Blk W w2.heap.size 41 (fA 33 A) → K21 { tmps := #[.slice a0 n0 c0, .slice a1 n1 c1, undef, undef, .bool false, .pointer (some ⟨w2.heap.size, 0, none⟩), .float .f32 X, v7, v8, v9, v10, v11, v12, v13, v14, v15, v16, undef, undef, undef, undef, undef, undef, undef, undef, undef, undef, undef, undef, v29, v30, v31, v32, v33, v34, v35, v36, v37, v38, v39, v40, v41, v42, v43, v44, v45, v46, v47, v48, v49, v50, v51, v52, v53, v54, v55, v56, v57, v58, v59, v60, v61, v62, v63, v64, v65, v66, v67, v68, v69, v70, v71, v72, v73, v74, v75, v76, v77, v78, v79, v80, v81, v82, v83, v84, v85, v86, v87, v88, v89, v90, v91, v92, v93, v94, v95, v96, v97, v98, v99, v100, v101, v102, v103, v104, v105, v106, v107, v108, v109, v110, undef, undef, undef, undef, undef, undef, undef, undef, undef, undef, undef, undef, undef, undef, undef, undef, undef, undef, undef, undef, undef, undef, undef, undef, undef, undef, undef, undef, undef, undef, undef, undef, undef, undef, undef, undef, undef, undef, undef, undef, undef, undef, undef, undef, undef, undef, undef, undef, undef, undef, undef, undef, undef, undef, undef, undef, undef, undef, undef, undef, undef, undef, undef, undef, undef, undef, undef, undef, undef, undef, undef, undef, undef, undef, undef, undef, undef, undef, undef, undef], defers := [] } W := by
      clear hA hb a9 lbW ltW
      intro v7 v8 v9 v10 v11 v12 v13 v14 v15 v16 v29 v30 v31 v32 v33 v34 v35 v36 v37 v38 v39 v40 v41 v42 v43 v44 v45 v46 v47 v48 v49 v50 v51 v52 v53 v54 v55 v56 v57 v58 v59 v60 v61 v62 v63 v64 v65 v66 v67 v68 v69 v70 v71 v72 v73 v74 v75 v76 v77 v78 v79 v80 v81 v82 v83 v84 v85 v86 v87 v88 v89 v90 v91 v92 v93 v94 v95 v96 v97 v98 v99 v100 v101 v102 v103 v104 v105 v106 v107 v108 v109 v110 W hb hA
      refine a21 _ _ ?_
      clear a21
      go_wp2_with (first | (refine wpList_store_new rfl 26 _ _ rfl _ rfl rfl (by kernel_rfl) rfl (all_fA _ _) ?_) | (refine wpList_store_new rfl 41 _ _ rfl _ rfl rfl (by kernel_rfl) rfl (all_fA _ _) ?_) | (refine wpList_store_new rfl 28 _ _ rfl _ rfl rfl (by kernel_rfl) rfl (all_fA _ _) ?_) | (refine wpList_load_row rfl 41 _ rfl _ rfl _ _ (0, 0) _ hA Try.underlying41 rfl (by kernel_rfl) ?_))
      refine (iFilmOf_any A _).mono ?_
      rintro e w13 h
      obtain ⟨F, rfl, hF_, hb1⟩ := h.ok ((hid_film HL.out Hk.out).1) (fun i _ => rfl)
      clear h
      have HF := Lib.hid hF_
      clear hF_
      have HF2 := Lib.hid ((hid_film HL.out Hk.out).2 F HF.out)
      have hA := hA.below hb1 hA.lt
      have hb := bCall hb hb1 hb.size
      clear hb1
      have hA := hA.alloc (.cells (fA 48 F) 28)
      have hF : Blk (w13.alloc (.cells (fA 48 F) 28)) w13.heap.size 28 (fA 48 F) := Blk.new _ _ _
      have hb : Below w0.heap.size w0 (w13.alloc (.cells (fA 48 F) 28)) := hb.alloc hb.size _
      clear hA
      go_wp2_with (first | (refine wpList_store_new rfl 26 _ _ rfl _ rfl rfl (by kernel_rfl) rfl (all_fA _ _) ?_) | (refine wpList_store_new rfl 41 _ _ rfl _ rfl rfl (by kernel_rfl) rfl (all_fA _ _) ?_) | (refine wpList_store_new rfl 28 _ _ rfl _ rfl rfl (by kernel_rfl) rfl (all_fA _ _) ?_))
      refine (a2At_any a1 n1 c1 f1 _ (y1.to hb (Nat.le_refl _)) 1 4 (by omega) (by omega) (by omega)).mono ?_
      rintro e w30 ⟨j, hj, rfl, hw⟩
      subst hw
      have ej : IntKind.i64.wrap (1 + (j : Int)) = 1 + (j : Int) := IntWalk.i64_in _ (by omega)
      obtain ⟨b, ib, b0, b1⟩ := back_is j hj
      obtain ⟨Xq, qa, qac, hXq⟩ := op_word (op := .quo) (x := floatOfInt .f32 (1 + (j : Int))) (y := 1082130432) ib.some
      have HXq : Hid (Is .f32 (canon .f32 Xq) b) := Lib.hid (by rw [hXq]; exact ib)
      have Hb0 := Lib.hid b0
      have Hb1 := Lib.hid b1
      clear hXq ib b0 b1 hj
      go_wp2_with fail
      refine (iFlatCurve_any Xq _).mono ?_
      rintro e w14 h
      obtain ⟨Q, rfl, hQ_, hb1⟩ := h
      have HQ : Hid (∀ i, i < 16 → Is .f32 (canon .f32 (Q i)) b) := Lib.hid (fun i hi => by rw [hQ_ i hi]; exact HXq.out)
      clear hQ_ qa qac ej
      have hF := hF.below hb1 hF.lt
      have hb := bCall hb hb1 hb.size
      clear hb1
      have hF := hF.alloc (.cells (fA 16 Q) 26)
      have hQ : Blk (w14.alloc (.cells (fA 16 Q) 26)) w14.heap.size 26 (fA 16 Q) := Blk.new _ _ _
      have hb : Below w0.heap.size w0 (w14.alloc (.cells (fA 16 Q) 26)) := hb.alloc hb.size _
      go_wp2_with (first | (refine wpList_store_new rfl 26 _ _ rfl _ rfl rfl (by kernel_rfl) rfl (all_fA _ _) ?_))
      obtain ⟨W15, hW⟩ : ∃ W : World, W = w14.alloc (.cells (fA 16 Q) 26) := ⟨_, rfl⟩
      rw [← hW] at hF hQ hb ⊢
      have lt_hF := hF.lt
      have lt_hQ := hQ.lt
      have lhb := hb.size
      clear hW
      refine wp_region_lr_late 7 5 (G3 24 24 (IsC 16 fun _ => canon .f32 0) (IsC 16 fun _ => canon .f32 0) (IsOk 16 (overAt (fun i => canon .f32 (F i)) fun _ => canon .f32 0))) (by kernel_rfl) (by kernel_rfl) (fun _ _ d _ _ h => by cases d <;> exact h) ?_
      simp only [List.take_succ_cons, List.take_zero, List.drop_succ_cons, List.drop_zero]
      (refine wpLR_plain rfl (fun K hK w1 hw1 => lrUpon_load rfl _ rfl _ _ _ _ (Blk.below hF hw1 hF.lt) Try.underlying28 rfl (by kernel_rfl) (fun N => hK _ _ ?_)); clear hK K)
      (refine wpLR_plain rfl (fun K0 hK0 w1 hw1 => ?_); go_simp; refine ⟨R.refl _, (iFlatCurve_any _ _).mono ?_, fun u hu => hK0 _ _ ?_⟩; (intro e w' h; obtain ⟨u, hu, hq, hb⟩ := h.is; exact ⟨u, hu, .mk1 (by decide) hq, hb⟩); clear hK0 K0; obtain ⟨r1, rfl, H1⟩ := hu.of1 (by decide); clear hu)
      (refine wpLR_plain rfl (fun K0 hK0 w1 hw1 => ?_); go_simp; refine ⟨R.refl _, (iOverBacking_any _ _ _).mono ?_, fun u hu => hK0 _ _ ?_⟩; (intro e w' h; obtain ⟨u, hu, hq, hb⟩ := (h.ok (hid_over HF2.out (fun i hi => by rw [H1.out i hi]; exact zero_back) (by decide +kernel) (by decide +kernel)) (over_flat H1.out)).is; exact ⟨u, hu, .mk3 (by decide) (by decide) hq, hb⟩); clear hK0 K0; obtain ⟨B, rfl, HB⟩ := hu.of3 (by decide) (by decide); clear hu H1)
      (refine wpLR_plain rfl (fun K hK w1 hw1 => ?_); go_simp; refine ⟨R.refl _, hK _ _ ?_⟩; clear hK K)
      (refine wpLR_plain rfl (fun K hK w1 hw1 => ?_); go_simp; refine ⟨R.refl _, hK _ _ ?_⟩; clear hK K)
      (refine wpLR_plain rfl (fun K hK w1 hw1 => ?_); go_simp; refine ⟨R.refl _, hK _ _ ?_⟩; clear hK K)
      (refine wpLR_plain rfl (fun K hK vB hvB => ?_); go_simp; refine ⟨Below.alloc (Below.refl _ _) (Nat.le_refl _) _, hK _ _ ?_⟩; clear hK K)
      refine wpLR_nil ?_
      intro VB hW1 hSS
      have hZ : Blk VB vB.heap.size 26 (fA 16 fun _ => 0) := (Blk.new _ _ _).below hSS.2 (Blk.new _ _ _).lt
      clear hSS
      have hF := hF.below hW1 hF.lt
      have hQ := hQ.below hW1 hQ.lt
      have hg : W15.heap.size ≤ vB.heap.size := hvB.size
      have hF := hF.farRow (g' := vB.heap.size) (cs' := fA 16 B) (by omega)
      have hQ := hQ.farRow (g' := vB.heap.size) (cs' := fA 16 B) (by omega)
      have hB : Blk (VB.setRow vB.heap.size (fA 16 B)) vB.heap.size 26 (fA 16 B) := hZ.setRow
      have hb := bRow (bCall hb hW1 hb.size) (g := vB.heap.size) (by omega) (fA 16 B)
      clear hW1 lhb lt_hF lt_hQ
      go_wp2_with (first | (refine wpList_store_row rfl 26 _ _ rfl _ _ rfl rfl _ _ hZ (by kernel_rfl) (by simp only [size_fA]) (all_fA _ _) ?_) | (refine wpList_load_row rfl 28 _ rfl _ rfl _ _ (0, 0) _ hF Try.underlying28 rfl (by kernel_rfl) ?_) | (refine wpList_load_row rfl 26 _ rfl _ rfl _ _ (0, 0) _ hQ Try.underlying26 rfl (by kernel_rfl) ?_))
      refine (iOverBacking_any F Q _).mono ?_
      rintro e w16 h
      obtain ⟨O, rfl, hO_, hb1⟩ := h.ok (hid_over HF2.out HQ.out (by have := Hb0.out; grind) Hb1.out) (fun i _ => rfl)
      clear h
      have HO := Lib.hid hO_
      clear hO_
      clear hZ
      have hF := hF.below hb1 hF.lt
      have hQ := hQ.below hb1 hQ.lt
      have hB := hB.below hb1 hB.lt
      have hb := bCall hb hb1 hb.size
      clear hb1
      have hF := hF.alloc (.cells (fA 16 O) 26)
      have hQ := hQ.alloc (.cells (fA 16 O) 26)
      have hB := hB.alloc (.cells (fA 16 O) 26)
      have hO : Blk (w16.alloc (.cells (fA 16 O) 26)) w16.heap.size 26 (fA 16 O) := Blk.new _ _ _
      have hb : Below w0.heap.size w0 (w16.alloc (.cells (fA 16 O) 26)) := hb.alloc hb.size _
      have hne : ∀ w, (binOp .neq 26 (.agg (fA 16 (rowAt B 0))) (.agg (fA 16 (rowAt F 0)))).run Try.prog w = .ok (.bool false) w := fun w => neq_row w 16 Try.underlying26 Try.underlying24 (by kernel_rfl) fun i hi => by rw [show rowAt B 0 i = B i by simp [rowAt], show rowAt F 0 i = F i by simp [rowAt]]; exact hid_black (Z := fun _ => 0) HF2.out (fun _ _ => rfl) HQ.out Hb0.out Hb1.out HB.out hi
      have heg : ∀ w x y, (eqGuard .neq 26 x y (.agg (fA 16 (rowAt B 0))) (.agg (fA 16 (rowAt F 0)))).run Try.prog w = .ok () w := fun w x y => run_eqGuard_agg w _ _ _ _ _ _ (by kernel_rfl)
      go_wp2_with (first | (refine wpList_store_new rfl 26 _ _ rfl _ rfl rfl (by kernel_rfl) rfl (all_fA _ _) ?_) | (refine wpList_load_partW rfl 26 _ rfl 0 16 hB rfl (by decide) Try.underlying26 rfl (by kernel_rfl) ?_) | (refine wpList_load_partW rfl 26 _ rfl 0 16 hF rfl (by decide) Try.underlying26 rfl (by kernel_rfl) ?_) | (refine wpList_load_row rfl 26 _ rfl _ rfl _ _ (0, 0) _ hB Try.underlying26 rfl (by kernel_rfl) ?_) | (refine wpList_load_row rfl 26 _ rfl _ rfl _ _ (0, 0) _ hO Try.underlying26 rfl (by kernel_rfl) ?_) | (refine wpList_load_row rfl 26 _ rfl _ rfl _ _ (0, 0) _ hQ Try.underlying26 rfl (by kernel_rfl) ?_))
      clear hne heg
      rw [rowAt_zero B]
      refine (iFilmFromTwo_any B O Q _).mono ?_
      rintro e w17 h
      obtain ⟨G, rfl, hG_, hb1⟩ := h
      have HG := Lib.hid hG_
      clear hG_
      obtain ⟨cc, hcc⟩ : ∃ c, c = (twoRes (fun i => canon .f32 (B i)) (fun i => canon .f32 (O i)) fun i => canon .f32 (Q i)).2 := ⟨_, rfl⟩
      rw [← hcc]
      have hF := hF.below hb1 hF.lt
      have hQ := hQ.below hb1 hQ.lt
      have hB := hB.below hb1 hB.lt
      have hO := hO.below hb1 hO.lt
      have hb := bCall hb hb1 hb.size
      clear hb1
      have hF := hF.alloc (.cells (fA 48 G) 28)
      have hQ := hQ.alloc (.cells (fA 48 G) 28)
      have hB := hB.alloc (.cells (fA 48 G) 28)
      have hO := hO.alloc (.cells (fA 48 G) 28)
      have hG : Blk (w17.alloc (.cells (fA 48 G) 28)) w17.heap.size 28 (fA 48 G) := Blk.new _ _ _
      have hb : Below w0.heap.size w0 (w17.alloc (.cells (fA 48 G) 28)) := hb.alloc hb.size _
      go_wp2_with (first | (refine wpList_store_new rfl 28 _ _ rfl _ rfl rfl (by kernel_rfl) rfl (all_fA _ _) ?_) | (refine wpList_load_row rfl 26 _ rfl _ rfl _ _ (0, 0) _ hB Try.underlying26 rfl (by kernel_rfl) ?_) | (refine wpList_load_row rfl 26 _ rfl _ rfl _ _ (0, 0) _ hO Try.underlying26 rfl (by kernel_rfl) ?_) | (refine wpList_load_row rfl 26 _ rfl _ rfl _ _ (0, 0) _ hQ Try.underlying26 rfl (by kernel_rfl) ?_))
      refine (sFilmFromTwo_any B O Q _).mono ?_
      rintro e w18 h
      obtain ⟨G2, rfl, hG_, hb1⟩ := h
      have HS : Hid (sameFilm (rowAt G 0) (rowAt G2 0) = true) := Lib.hid (same_words fun i hi => by rw [show rowAt G 0 i = G i by simp [rowAt], show rowAt G2 0 i = G2 i by simp [rowAt], HG.out i hi, hG_ i hi])
      clear hG_
      rw [← hcc]
      have Hcc := Lib.hid hcc
      clear hcc
      have hF := hF.below hb1 hF.lt
      have hQ := hQ.below hb1 hQ.lt
      have hB := hB.below hb1 hB.lt
      have hO := hO.below hb1 hO.lt
      have hG := hG.below hb1 hG.lt
      have hb := bCall hb hb1 hb.size
      clear hb1
      have hF := hF.alloc (.cells (fA 48 G2) 28)
      have hQ := hQ.alloc (.cells (fA 48 G2) 28)
      have hB := hB.alloc (.cells (fA 48 G2) 28)
      have hO := hO.alloc (.cells (fA 48 G2) 28)
      have hG := hG.alloc (.cells (fA 48 G2) 28)
      have hG2 : Blk (w18.alloc (.cells (fA 48 G2) 28)) w18.heap.size 28 (fA 48 G2) := Blk.new _ _ _
      have hb : Below w0.heap.size w0 (w18.alloc (.cells (fA 48 G2) 28)) := hb.alloc hb.size _
      clear hB hO hQ
      go_wp2_with (first | (refine wpList_store_new rfl 28 _ _ rfl _ rfl rfl (by kernel_rfl) rfl (all_fA _ _) ?_) | (refine wpList_load_partW rfl 28 _ rfl 0 48 hG rfl (by decide) Try.underlying28 rfl (by kernel_rfl) ?_) | (refine wpList_load_partW rfl 28 _ rfl 0 48 hG2 rfl (by decide) Try.underlying28 rfl (by kernel_rfl) ?_))
      refine (sSameFilm_any _ _ _).mono ?_
      rw [HS.out]
      rintro e w40 ⟨rfl, hb1⟩
      have hF := hF.below hb1 hF.lt
      have hG := hG.below hb1 hG.lt
      have hG2 := hG2.below hb1 hG2.lt
      have hb := bCall hb hb1 hb.size
      clear hb1
      clear hG2
      go_wp2_with fail
      go_loopw [28] (fun i wr => ∃ (j : Nat), j ≤ 16 ∧ i = .int .i64 j ∧ Below w0.heap.size w0 wr ∧ Blk wr w13.heap.size 28 (fA 48 F) ∧ Blk wr w17.heap.size 28 (fA 48 G)) (fun i _ => 16 - (intOf i).toNat)
      case atStart => exact ⟨0, by omega, rfl, hb, hF, hG⟩
      case round =>
        clear hb hF hG
        obtain ⟨j, hj, rfl, hb, hF, hG⟩ := hrel
        by_cases hlt : j < 16
        · by_cases hc0 : cc = 0
          · subst hc0
            have h4 : near (canon .f32 (G (32 + j))) (canon .f32 (F (32 + j))) (canon .f32 1008981770) = true := hid_again (Z := fun _ => 0) HF2.out (fun _ _ => rfl) HQ.out Hb0.out Hb1.out HB.out HO.out (fun i hi => by rw [HG.out i hi, two_code Hcc.out.symm]) hlt
            go_wp2_with fail
            refine wp_region_hr (fun f args u => u = .bool true) (by kernel_rfl) (by kernel_rfl) ?_
            (refine hr_plain rfl (fun K hK w1 hw1 => ?_); go_simp; refine ⟨R.refl _, hK _ _ ?_⟩; clear hK K)
            (refine hr_plain rfl (fun K hK w1 hw1 => ?_); go_simp; refine ⟨R.refl _, hK _ _ ?_⟩; clear hK K)
            (refine hr_plain rfl (fun K hK w1 hw1 => ?_); go_simp; refine ⟨R.refl _, hK _ _ ?_⟩; clear hK K)
            (refine (hr_want (by kernel_rfl) (fun K hK w1 hw1 => ?_)); go_simp; refine ⟨R.refl _, hK _ _ ?_⟩; clear hK K)
            (refine (hr_want (by kernel_rfl) (fun K hK w1 hw1 => ?_)); go_simp; refine ⟨R.refl _, hK _ _ ?_⟩; clear hK K)
            (refine (hr_want (by kernel_rfl) (fun K hK w1 hw1 => ?_)); go_simp; refine ⟨R.refl _, hK _ _ ?_⟩; clear hK K)
            (refine (hr_want (by kernel_rfl) (fun K hK w1 hw1 => ?_)); have c1 := ((Blk.below hG hw1 hG.lt).cell (32 + j)).trans (get_fA_lt G (by omega)); go_simp; refine ⟨R.refl _, hK _ _ ?_⟩; clear hK K)
            (refine (hr_want (by kernel_rfl) (fun K hK w1 hw1 => ?_)); go_simp; refine ⟨R.refl _, hK _ _ ?_⟩; clear hK K)
            (refine (hr_want (by kernel_rfl) (fun K hK w1 hw1 => ?_)); go_simp; refine ⟨R.refl _, hK _ _ ?_⟩; clear hK K)
            (refine (hr_want (by kernel_rfl) (fun K hK w1 hw1 => ?_)); go_simp; refine ⟨R.refl _, hK _ _ ?_⟩; clear hK K)
            (refine (hr_want (by kernel_rfl) (fun K hK w1 hw1 => ?_)); have c1 := ((Blk.below hF hw1 hF.lt).cell (32 + j)).trans (get_fA_lt F (by omega)); go_simp; refine ⟨R.refl _, hK _ _ ?_⟩; clear hK K)
            refine (hr_want (by kernel_rfl) (fun K hK w1 hw1 => ?_)); go_simp; refine ⟨R.refl _, (a2Near_yes _ _ _ h4 _).mono ?_, fun u hu => hK _ _ ?_⟩; (rintro e w' ⟨rfl, hb⟩; exact ⟨_, rfl, rfl, hb.below0⟩); clear hK K; obtain rfl := hu
            (refine (hr_want (by kernel_rfl) (fun K hK w1 hw1 => ?_)); go_simp; refine ⟨R.refl _, hK _ _ ?_⟩; clear hK K)
            (refine hr_plain rfl (fun K hK w1 hw1 => ?_); go_simp; refine ⟨R.refl _, hK _ _ ?_⟩; clear hK K)
            refine hr_nil ?_
            intro W2 hW1 _
            have hF := hF.below hW1 hF.lt
            have hG := hG.below hW1 hG.lt
            have hb := bCall hb hW1 hb.size
            clear hW1
            go_wp2
            go_roundw
            case rel => exact ⟨j + 1, by omega, by go_num, hb, hF, hG⟩
            case measure => simp [intOf]; omega
          · have dcc : (cc == 0) = false := by simp; omega
            go_wp2_with fail
            refine wp_region_hr (fun f args u => u = .bool true) (by kernel_rfl) (by kernel_rfl) ?_
            (refine hr_plain rfl (fun K hK w1 hw1 => ?_); go_simp; refine ⟨R.refl _, hK _ _ ?_⟩; clear hK K)
            (refine hr_plain rfl (fun K hK w1 hw1 => ?_); go_simp; refine ⟨R.refl _, hK _ _ ?_⟩; clear hK K)
            (refine hr_plain rfl (fun K hK w1 hw1 => ?_); go_simp; refine ⟨R.refl _, hK _ _ ?_⟩; clear hK K)
            (refine (hr_skip (by kernel_rfl) ?_))
            (refine (hr_skip (by kernel_rfl) ?_))
            (refine (hr_skip (by kernel_rfl) ?_))
            (refine (hr_skip (by kernel_rfl) ?_))
            (refine (hr_skip (by kernel_rfl) ?_))
            (refine (hr_skip (by kernel_rfl) ?_))
            (refine (hr_skip (by kernel_rfl) ?_))
            (refine (hr_skip (by kernel_rfl) ?_))
            (refine (hr_skip (by kernel_rfl) ?_))
            (refine (hr_skip (by kernel_rfl) ?_))
            (refine hr_plain rfl (fun K hK w1 hw1 => ?_); go_simp; refine ⟨R.refl _, hK _ _ ?_⟩; clear hK K)
            refine hr_nil ?_
            intro W2 hW1 _
            have hF := hF.below hW1 hF.lt
            have hG := hG.below hW1 hG.lt
            have hb := bCall hb hW1 hb.size
            clear hW1
            go_wp2
            go_roundw
            case rel => exact ⟨j + 1, by omega, by go_num, hb, hF, hG⟩
            case measure => simp [intOf]; omega
        · obtain rfl : j = 16 := by omega
          go_wp2
          go_ret
          exact ⟨rfl, hb⟩
    clear a21
    rcases HT.out with e6 | ⟨M, M1, M2, eM, c2, cl, cm⟩
    · obtain rfl : cd = 6 := by rw [Hcd.out]; exact congrArg Prod.snd e6
      clear HT Hcd e6
      go_wp2_with fail
      exact hK21 _ _ _ _ _ _ _ _ _ _ _ _ _ _ _ _ _ _ _ _ _ _ _ _ _ _ _ _ _ _ _ _ _ _ _ _ _ _ _ _ _ _ _ _ _ _ _ _ _ _ _ _ _ _ _ _ _ _ _ _ _ _ _ _ _ _ _ _ _ _ _ _ _ _ _ _ _ _ _ _ _ _ _ _ _ _ _ _ _ _ _ _ _ hb hA
    · obtain rfl : cd = 0 := by rw [Hcd.out]; exact congrArg Prod.snd eM
      have HE := Lib.hid (HD.out.trans (congrArg Prod.fst eM))
      have HM : Hid (1 ≤ M ∧ M ≤ 256) := Lib.hid ⟨M1, M2⟩
      have HC2 := Lib.hid c2
      have HCl := Lib.hid cl
      have HCm := Lib.hid cm
      clear M1 M2 c2 cl cm HT Hcd HD eM
      by_cases hm1 : M = 1
      · skip
        go_wp2_with (first | (refine wpList_store_new rfl 26 _ _ rfl _ rfl rfl (by kernel_rfl) rfl (all_fA _ _) ?_) | (refine wpList_store_new rfl 41 _ _ rfl _ rfl rfl (by kernel_rfl) rfl (all_fA _ _) ?_) | (refine wpList_store_new rfl 28 _ _ rfl _ rfl rfl (by kernel_rfl) rfl (all_fA _ _) ?_) | (refine wpList_load_partW rfl 26 _ rfl 0 16 hA rfl (by decide) Try.underlying26 rfl (by kernel_rfl) ?_) | (refine wpList_load_partW rfl 26 _ rfl 16 16 hA rfl (by decide) Try.underlying26 rfl (by kernel_rfl) ?_))
        refine (iLayerOf_any (rowAt A 0) (rowAt A 16) E _).mono ?_
        rintro e w19 h
        obtain ⟨Y, rfl, hY_, hb1⟩ := h.ok (hid_layer HL.out HM.out.2 HE.out) (fun i _ => rfl)
        clear h
        have HY := Lib.hid hY_
        clear hY_
        have hA := hA.below hb1 hA.lt
        have hb := bCall hb hb1 hb.size
        clear hb1
        have lbA := hb.size
        have ltA := hA.lt
        have hA := hA.alloc (.cells (fA 33 Y) 41)
        have hY : Blk (w19.alloc (.cells (fA 33 Y) 41)) w19.heap.size 41 (fA 33 Y) := Blk.new _ _ _
        have hb : Below w0.heap.size w0 (w19.alloc (.cells (fA 33 Y) 41)) := hb.alloc hb.size _
        go_wp2_with (first | (refine wpList_store_new rfl 26 _ _ rfl _ rfl rfl (by kernel_rfl) rfl (all_fA _ _) ?_) | (refine wpList_store_new rfl 41 _ _ rfl _ rfl rfl (by kernel_rfl) rfl (all_fA _ _) ?_) | (refine wpList_store_new rfl 28 _ _ rfl _ rfl rfl (by kernel_rfl) rfl (all_fA _ _) ?_) | (refine wpList_load_row rfl 41 _ rfl _ rfl _ _ (0, 0) _ hY Try.underlying41 rfl (by kernel_rfl) ?_))
        refine (iContrastOf_any Y _).mono ?_
        rintro e w20 h
        obtain ⟨C, rfl, hC, hb1⟩ := h.code (con_pair HL.out HM.out.2 HY.out HC2.out)
        clear h
        have oC : (FloatKind.f32.format.order C X == some .gt) = false := le_not_gt (by rw [hC]; exact HCl.out)
        clear hC
        have hA := hA.below hb1 hA.lt
        have hY := hY.below hb1 hY.lt
        have hb := bCall hb hb1 hb.size
        clear hb1
        have oE : (FloatKind.f32.format.order E 1040187392 == some .gt) = false := by rw [o_gt, HE.out, eighth_more M (by have := HM.out.2; omega)]; exact decide_eq_false (by omega)
        clear hY
        clear HY
        go_wp2_with fail
        exact hK21 _ _ _ _ _ _ _ _ _ _ _ _ _ _ _ _ _ _ _ _ _ _ _ _ _ _ _ _ _ _ _ _ _ _ _ _ _ _ _ _ _ _ _ _ _ _ _ _ _ _ _ _ _ _ _ _ _ _ _ _ _ _ _ _ _ _ _ _ _ _ _ _ _ _ _ _ _ _ _ _ _ _ _ _ _ _ _ _ _ _ _ _ _ hb hA
      · skip
        go_wp2_with (first | (refine wpList_store_new rfl 26 _ _ rfl _ rfl rfl (by kernel_rfl) rfl (all_fA _ _) ?_) | (refine wpList_store_new rfl 41 _ _ rfl _ rfl rfl (by kernel_rfl) rfl (all_fA _ _) ?_) | (refine wpList_store_new rfl 28 _ _ rfl _ rfl rfl (by kernel_rfl) rfl (all_fA _ _) ?_) | (refine wpList_load_partW rfl 26 _ rfl 0 16 hA rfl (by decide) Try.underlying26 rfl (by kernel_rfl) ?_) | (refine wpList_load_partW rfl 26 _ rfl 16 16 hA rfl (by decide) Try.underlying26 rfl (by kernel_rfl) ?_))
        refine (iLayerOf_any (rowAt A 0) (rowAt A 16) E _).mono ?_
        rintro e w21 h
        obtain ⟨Y, rfl, hY_, hb1⟩ := h.ok (hid_layer HL.out HM.out.2 HE.out) (fun i _ => rfl)
        clear h
        have HY := Lib.hid hY_
        clear hY_
        have hA := hA.below hb1 hA.lt
        have hb := bCall hb hb1 hb.size
        clear hb1
        have lbA := hb.size
        have ltA := hA.lt
        have hA := hA.alloc (.cells (fA 33 Y) 41)
        have hY : Blk (w21.alloc (.cells (fA 33 Y) 41)) w21.heap.size 41 (fA 33 Y) := Blk.new _ _ _
        have hb : Below w0.heap.size w0 (w21.alloc (.cells (fA 33 Y) 41)) := hb.alloc hb.size _
        go_wp2_with (first | (refine wpList_store_new rfl 26 _ _ rfl _ rfl rfl (by kernel_rfl) rfl (all_fA _ _) ?_) | (refine wpList_store_new rfl 41 _ _ rfl _ rfl rfl (by kernel_rfl) rfl (all_fA _ _) ?_) | (refine wpList_store_new rfl 28 _ _ rfl _ rfl rfl (by kernel_rfl) rfl (all_fA _ _) ?_) | (refine wpList_load_row rfl 41 _ rfl _ rfl _ _ (0, 0) _ hY Try.underlying41 rfl (by kernel_rfl) ?_))
        refine (iContrastOf_any Y _).mono ?_
        rintro e w22 h
        obtain ⟨C, rfl, hC, hb1⟩ := h.code (con_pair HL.out HM.out.2 HY.out HC2.out)
        clear h
        have oC : (FloatKind.f32.format.order C X == some .gt) = false := le_not_gt (by rw [hC]; exact HCl.out)
        clear hC
        have hA := hA.below hb1 hA.lt
        have hY := hY.below hb1 hY.lt
        have hb := bCall hb hb1 hb.size
        clear hb1
        obtain ⟨N, rfl⟩ : ∃ N, M = N + 2 := ⟨M - 2, by have := HM.out.1; omega⟩
        have hN : N < 255 := by have := HM.out.2; omega
        have oE : (FloatKind.f32.format.order E 1040187392 == some .gt) = true := by rw [o_gt, HE.out, eighth_more (N + 2) (by omega)]; exact decide_eq_true (by omega)
        obtain ⟨V, va, vac, hV⟩ := op_word (op := .sub) (x := E) (y := 1040187392) (by show (fsub (canon .f32 E) (canon .f32 1040187392)).isSome = true; rw [HE.out, eighth_less N hN]; exact (eighth_same (N + 1) (by omega)).2)
        have HCn : Hid ((conAt (kOf A) (sOf A) (N + 1)).2 = 0 ∧ fle (conAt (kOf A) (sOf A) (N + 1)).1 (canon .f32 X) = false) := by
          have h := HCm.out (show 2 ≤ N + 2 by omega)
          rw [show N + 2 - 1 = N + 1 by omega] at h
          exact h
        clear HCm
        have HY2 := Lib.hid (hid_less hN HY.out HE.out hV)
        have HN := Lib.hid hN
        clear hV hN hm1
        have f1 := hY.frozen 32
        have c1 := (hY.cell 32).trans (get_fA_lt Y (by decide))
        have hb := hb.setCell (p := ⟨w21.heap.size, 32, none⟩) lbA (.float .f32 V)
        have hA := hA.far (p := ⟨w21.heap.size, 32, none⟩) (by dsimp only; omega) (.float .f32 V)
        have hY := hY.setF 32 V
        clear lbA ltA
        go_wp2_with (first | (refine wpList_store_new rfl 26 _ _ rfl _ rfl rfl (by kernel_rfl) rfl (all_fA _ _) ?_) | (refine wpList_store_new rfl 41 _ _ rfl _ rfl rfl (by kernel_rfl) rfl (all_fA _ _) ?_) | (refine wpList_store_new rfl 28 _ _ rfl _ rfl rfl (by kernel_rfl) rfl (all_fA _ _) ?_) | (refine wpList_load_row rfl 41 _ rfl _ rfl _ _ (0, 0) _ hY Try.underlying41 rfl (by kernel_rfl) ?_))
        refine (iContrastOf_any (upd Y 32 V) _).mono ?_
        rintro e w23 h
        obtain ⟨C2, rfl, hC2, hb1⟩ := h.code (con_pair HL.out (by have := HN.out; omega) HY2.out HCn.out.1)
        clear h
        have oC2 : (FloatKind.f32.format.order C2 X == some .lt || FloatKind.f32.format.order C2 X == some .eq) = false := not_le_order (by rw [hC2]; exact HCn.out.2)
        clear hC2
        have hA := hA.below hb1 hA.lt
        have hY := hY.below hb1 hY.lt
        have hb := bCall hb hb1 hb.size
        clear hb1
        clear hY
        go_wp2_with fail
        exact hK21 _ _ _ _ _ _ _ _ _ _ _ _ _ _ _ _ _ _ _ _ _ _ _ _ _ _ _ _ _ _ _ _ _ _ _ _ _ _ _ _ _ _ _ _ _ _ _ _ _ _ _ _ _ _ _ _ _ _ _ _ _ _ _ _ _ _ _ _ _ _ _ _ _ _ _ _ _ _ _ _ _ _ _ _ _ _ _ _ _ _ _ _ _ hb hA

theorem own : ownKnob Try.prog.godebug = none := by kernel_rfl
theorem laidOut : laidOutB Try.prog = true := by kernel_rfl
set_option maxRecDepth 100000 in
theorem lifted (os : Os) (started : os.Started) (H : Type) (enc : TypeId × Value → H) :
    ReturnsInHanded {} Try.checked os 4 .any (Rows.fnHiddenSpec.pre6 enc Try.prog Try.f4 Rows.fnHiddenRow.domain false) (Rows.fnHiddenSpec.post enc Try.prog Try.f4 false true false false) := by
  refine returnsInHanded_of_change (C := Try.checked) own started (by kernel_rfl) Try.func4
    (ChangeSpec.witness6 (enc := enc) (C := Try.checked) false ⟨#[], #[.slice none 0 0, .slice none 0 0], []⟩ 8 (by kernel_rfl) (by kernel_rfl) (by kernel_rfl) (by kernel_rfl)) ?_
  intro W base args ds gs before hval0 hW hcnd _
  have hval : ∀ (j : Nat) t v, Try.f4.params[j]? = some t → args[j]? = some v → Value.okWide Try.prog W .any base t v := hval0
  have hW' := hW
  obtain ⟨p, q, hA0, hV, rfl, hfz, hnd⟩ := hW
  have hA : DataW.TrodAll enc Try.prog W 0 (fun _ => true) true Try.f4.params.toList args.toList ds p := hA0
  rw [Try.params4] at hA hval
  obtain ⟨v0, vs0, d0, ds0, p0, q0, hargs, rfl, rfl, h0, r0⟩ := trodAll_cons hA
  obtain ⟨v1, vs1, d1, ds1, p1, q1, rfl, rfl, rfl, h1, r1⟩ := trodAll_cons r0
  obtain ⟨rfl, rfl, rfl⟩ := trodAll_nil r1
  obtain rfl : args = #[v0, v1] := by cases args; simp_all
  obtain ⟨rfl, rfl⟩ := trodVars_none hV
  have k0 := h0
  have lt0 : ∀ x ∈ p0, x.block < W.heap.size := by obtain ⟨m, hm⟩ := k0; exact DataW.trod_lt m _ _ _ hm
  obtain ⟨a0, n0, c0, rfl⟩ := okWide_slice Try.underlying22 (hval 0 22 v0 rfl rfl)
  obtain ⟨f0, w0⟩ := open_byt Try.underlying22 Try.underlying5 (by kernel_rfl) h0
  have k1 := h1
  have lt1 : ∀ x ∈ p1, x.block < W.heap.size := by obtain ⟨m, hm⟩ := k1; exact DataW.trod_lt m _ _ _ hm
  obtain ⟨a1, n1, c1, rfl⟩ := okWide_slice Try.underlying22 (hval 1 22 v1 rfl rfl)
  obtain ⟨f1, w1⟩ := open_byt Try.underlying22 Try.underlying5 (by kernel_rfl) h1
  clear hA0 hval0
  refine (walk a0 n0 c0 f0 a1 n1 c1 f1 W w0 w1).mono fun e W' ⟨he, bel⟩ => ?_
  subst he
  exact ⟨_, rfl, _, _, _, [], _, [], hW', trodAll_mk1 (shut_bool Try.underlying4 _), (trodAll_cons_mk (Below.trod laidOut (by kernel_rfl) (of_decide_eq_true (by kernel_rfl)) k0 bel lt0) (trodAll_cons_mk (Below.trod laidOut (by kernel_rfl) (of_decide_eq_true (by kernel_rfl)) k1 bel lt1) trodAll_mk0)), rfl, bel.frame _, fun h => by cases h⟩
theorem over : Rows.fnHiddenRow.holds Try.pinned (OpenSpec.ofChange Rows.fnHiddenSpec) :=
  OpenClaim.holds_of_wide 4 Try.f4 rfl rfl rfl rfl rfl rfl rfl ⟨rfl, rfl, rfl, rfl, rfl⟩ rfl rfl rfl rfl rfl (by kernel_rfl) Try.func4 (by kernel_rfl)
    (of_decide_eq_true (by kernel_rfl)) (by unfold Func.isWrapper; first | (rw [if_pos (by decide +kernel)]; kernel_rfl) | (rw [if_neg (by decide +kernel)]; exact ⟨rfl, rfl⟩))
    (fun os started H enc _ => lifted os started H enc)
theorem proved : Rows.FnHiddenSaid := over
#print axioms proved
end Go.Proofs.Ytfpjiclkhjdihaa.fnHidden
namespace Go.Proofs.Ytfpjiclkhjdihaa
/-- The row, under a short name, for the claim. -/
theorem fnHidden_holds : Rows.FnHiddenSaid := fnHidden.proved
end Go.Proofs.Ytfpjiclkhjdihaa

