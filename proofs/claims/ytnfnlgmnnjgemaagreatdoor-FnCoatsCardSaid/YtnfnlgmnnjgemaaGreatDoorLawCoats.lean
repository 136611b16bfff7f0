/- Proved: the statement FnCoats of this seat (its tied card): for every input the law returns true, and each argument reads as it read; the listed tables hold what the program's text lays. -/
import Derived.Test.YtnfnlgmnnjgemaaGreatDoorCards
import Derived.Test.YtnfnlgmnnjgemaaGreatDoorTie
import Derived.Test.YtnfnlgmnnjgemaaGreatDoorOpen
import Derived.Test.YtnfnlgmnnjgemaaGreatDoorHD
import Derived.Test.YtnfnlgmnnjgemaaGreatDoorDra
import Derived.Test.YtnfnlgmnnjgemaaGreatDoorCtH
import Derived.Test.YtnfnlgmnnjgemaaGreatDoorCtI
import Derived.Test.YtnfnlgmnnjgemaaGreatDoorHO
import Derived.Test.YtnfnlgmnnjgemaaGreatDoorHG
import Derived.Test.YtnfnlgmnnjgemaaGreatDoorLG
import Derived.Test.YtnfnlgmnnjgemaaGreatDoorDP
import Derived.Test.YtnfnlgmnnjgemaaGreatDoorDV
import Derived.Test.YtnfnlgmnnjgemaaGreatDoorCN
import Derived.Test.YtnfnlgmnnjgemaaGreatDoorCA
import Derived.Test.YtnfnlgmnnjgemaaGreatDoorCR
import Derived.Test.YtnfnlgmnnjgemaaGreatDoorCP
import Derived.Test.YtnfnlgmnnjgemaaGreatDoorGen
import Derived.Test.YtnfnlgmnnjgemaaGreatDoorHeld
import Derived.Test.YtnfnlgmnnjgemaaGreatDoorFnt
import Derived.Test.YtnfnlgmnnjgemaaGreatDoorCon
import Derived.Test.YtnfnlgmnnjgemaaGreatDoorFlG
import Derived.SevenTiedAt
import Derived.Deep.Cut
import Derived.WalkKit
import Derived.WalkSpells
import Derived.Outline
import Derived.ProofKit
import Derived.OpenShut
import Derived.ShutString
import Derived.ChangeOld
import Derived.Below
import Derived.IntWalk
import Derived.BigQuiet
import Derived.Deep.QuietTactic
namespace Go.Proofs.YtnfnlgmnnjgemaaGreatDoor.fnCoats
open Go.ChangeShapes Go.WideShapes Go.ChangeAt Go.RowKit

set_option maxRecDepth 100000 in
set_option maxHeartbeats 40000000 in
theorem walk (a0 : Option Addr) (n0 c0 : Nat) (f0 : Nat → Nat) (a1 : Option Addr) (n1 c1 : Nat) (f1 : Nat → Nat) (w : World) (y0 : Byt w a0 n0 f0) (y1 : Byt w a1 n1 f1) (ht : Tab w) (he : Errs w) (hm : MaxL w) : Calls Tryz.prog 3 #[.slice a0 n0 c0, .slice a1 n1 c1] w (RetB w true) := by
  go_enter Tryz.func3, Tryz.ntmps3
  have Ht := Lib.hid ht
  have He := Lib.hid he
  have Hm := Lib.hid hm
  have hlt0 := ht.lt
  clear ht he hm
  by_cases hlong : 3000 < n0 ∨ 3000 < n1
  · go_wp2_with fail
    refine (a2Long_long a0 a1 n0 n1 c0 c1 hlong w).mono ?_
    rintro e w' ⟨rfl, rfl⟩
    go_wp2
    go_ret
    exact ⟨rfl, Below.refl _ _⟩
  · have hn0 : n0 ≤ 3000 := by omega
    have hn1 : n1 ≤ 3000 := by omega
    clear hlong
    go_wp2_with fail
    refine (a2Long_short a0 a1 n0 n1 c0 c1 hn0 hn1 w).mono ?_
    rintro e w0 ⟨rfl, hw⟩
    subst hw
    go_wp2_with fail
    refine (A2Layer_any a0 n0 c0 f0 _ y0).mono ?_
    rintro e w2 ⟨A, K, S, n, hn, hL, hx, rfl, hb⟩
    have HL := Lib.hid hL
    have Hn := Lib.hid hn
    have Hx := Lib.hid hx
    clear hL hn hx
    have kX : Blk (w2.alloc (.cells (fA 33 A) 28)) w2.heap.size 28 (fA 33 A) := Blk.new _ _ _
    replace hb : Below w0.heap.size w0 (w2.alloc (.cells (fA 33 A) 28)) := hb.alloc hb.size _
    have HF1 := Lib.hid (coat_film HL.out Hn.out)
    go_wp2_with (first | (refine wpList_store_new rfl 31 _ _ rfl _ rfl rfl (by kernel_rfl) rfl (all_fA _ _) ?_) | (refine wpList_store_new rfl 26 _ _ rfl _ rfl rfl (by kernel_rfl) rfl (all_fA _ _) ?_) | (refine wpList_store_new rfl 28 _ _ rfl _ rfl rfl (by kernel_rfl) rfl (all_fA _ _) ?_) | (refine wpList_load_row rfl 28 _ rfl _ rfl _ _ (0, 0) _ kX Tryz.underlying28 rfl (by kernel_rfl) ?_))
    refine (iFilmOf_any A _).mono ?_
    rintro e w11 h
    obtain ⟨F, rfl, hF_, hb1⟩ := h.ok (HF1.out) (fun i _ => rfl)
    clear h
    have HF := Lib.hid hF_
    clear hF_
    replace kX := kX.below hb1 kX.lt
    replace hb := bCall hb hb1 hb.size
    clear hb1
    replace kX := kX.alloc (.cells (fA 48 F) 31)
    have kF : Blk (w11.alloc (.cells (fA 48 F) 31)) w11.heap.size 31 (fA 48 F) := Blk.new _ _ _
    replace hb : Below w0.heap.size w0 (w11.alloc (.cells (fA 48 F) 31)) := hb.alloc hb.size _
    go_wp2_with (first | (refine wpList_store_new rfl 31 _ _ rfl _ rfl rfl (by kernel_rfl) rfl (all_fA _ _) ?_) | (refine wpList_store_new rfl 26 _ _ rfl _ rfl rfl (by kernel_rfl) rfl (all_fA _ _) ?_) | (refine wpList_store_new rfl 28 _ _ rfl _ rfl rfl (by kernel_rfl) rfl (all_fA _ _) ?_) | (refine wpList_load_row rfl 28 _ rfl _ rfl _ _ (0, 0) _ kX Tryz.underlying28 rfl (by kernel_rfl) ?_))
    refine (sFilmOf_any A _).mono ?_
    rintro e w12 h
    obtain ⟨E, rfl, hE_, hb1⟩ := h.ok (HF1.out) (fun i _ => rfl)
    clear h
    have HE := Lib.hid hE_
    clear hE_
    replace kX := kX.below hb1 kX.lt
    replace kF := kF.below hb1 kF.lt
    replace hb := bCall hb hb1 hb.size
    clear hb1
    replace kX := kX.alloc (.cells (fA 48 E) 31)
    replace kF := kF.alloc (.cells (fA 48 E) 31)
    have kE : Blk (w12.alloc (.cells (fA 48 E) 31)) w12.heap.size 31 (fA 48 E) := Blk.new _ _ _
    replace hb : Below w0.heap.size w0 (w12.alloc (.cells (fA 48 E) 31)) := hb.alloc hb.size _
    have HS1 : Hid (sameFilm (rowAt F 0) (rowAt E 0) = true) := Lib.hid (by rw [rowAt_zero, rowAt_zero]; exact same_words fun i hi => by rw [HF.out i hi, HE.out i hi])
    clear HE
    go_upto_region 6 with (first | (refine wpList_store_new rfl 31 _ _ rfl _ rfl rfl (by kernel_rfl) rfl (all_fA _ _) ?_))
    obtain ⟨VE, hVE⟩ : ∃ W : World, W = w12.alloc (.cells (fA 48 E) 31) := ⟨_, rfl⟩
    rw [← hVE] at kX kF kE hb ⊢
    clear hVE
    have lbW := hb.size
    have lX := kX.lt
    have lF := kF.lt
    have lE := kE.lt
    have kX1 := kX
    replace kX := kX.alloc (.cells (fA 33 A) 28)
    replace kF := kF.alloc (.cells (fA 33 A) 28)
    replace kE := kE.alloc (.cells (fA 33 A) 28)
    have kW : Blk (VE.alloc (.cells (fA 33 A) 28)) VE.heap.size 28 (fA 33 A) := Blk.new _ _ _
    replace hb : Below w0.heap.size w0 (VE.alloc (.cells (fA 33 A) 28)) := hb.alloc hb.size _
    obtain ⟨V, va, vac, hV⟩ := op_word (op := .mul) (x := 1073741824) (y := A 32) (by show (fmul (canon .f32 1073741824) (canon .f32 (A 32))).isSome = true; rw [Hx.out]; exact twice_some n Hn.out)
    have HD := Lib.hid (coat_double HL.out Hn.out Hx.out hV)
    clear hV
    have fx := kX.frozen 32
    have cx := (kX.cell 32).trans (get_fA_lt A (by decide))
    have fw := kW.frozen 32
    have cw := (kW.cell 32).trans (get_fA_lt A (by decide))
    replace kX := kX.far (p := ⟨VE.heap.size, 32, none⟩) (by dsimp only; omega) (.float .f32 V)
    replace kF := kF.far (p := ⟨VE.heap.size, 32, none⟩) (by dsimp only; omega) (.float .f32 V)
    replace kE := kE.far (p := ⟨VE.heap.size, 32, none⟩) (by dsimp only; omega) (.float .f32 V)
    replace kW := kW.setF 32 V
    replace hb := hb.setCell (p := ⟨VE.heap.size, 32, none⟩) lbW (.float .f32 V)
    go_wp2_with (first | (refine wpList_store_new rfl 31 _ _ rfl _ rfl rfl (by kernel_rfl) rfl (all_fA _ _) ?_) | (refine wpList_store_new rfl 26 _ _ rfl _ rfl rfl (by kernel_rfl) rfl (all_fA _ _) ?_) | (refine wpList_store_new rfl 28 _ _ rfl _ rfl rfl (by kernel_rfl) rfl (all_fA _ _) ?_) | (refine wpList_load_row rfl 28 _ rfl _ rfl _ _ (0, 0) _ kX1 Tryz.underlying28 rfl (by kernel_rfl) ?_) | (refine wpList_load_row rfl 28 _ rfl _ rfl _ _ (0, 0) _ kW Tryz.underlying28 rfl (by kernel_rfl) ?_))
    refine (iFilmOf_any (upd A 32 V) _).mono ?_
    rintro e w13 h
    obtain ⟨G, rfl, hG_, hb1⟩ := h.ok (lay_film HD.out (by have := Hn.out; omega)) (fun i _ => rfl)
    clear h
    have HG := Lib.hid hG_
    clear hG_
    replace kX := kX.below hb1 kX.lt
    replace kF := kF.below hb1 kF.lt
    replace kE := kE.below hb1 kE.lt
    replace kW := kW.below hb1 kW.lt
    replace hb := bCall hb hb1 hb.size
    clear hb1
    clear kX1 fx cx fw cw lbW lX lF lE va vac
    replace kX := kX.alloc (.cells (fA 48 G) 31)
    replace kF := kF.alloc (.cells (fA 48 G) 31)
    replace kE := kE.alloc (.cells (fA 48 G) 31)
    replace kW := kW.alloc (.cells (fA 48 G) 31)
    have kG : Blk (w13.alloc (.cells (fA 48 G) 31)) w13.heap.size 31 (fA 48 G) := Blk.new _ _ _
    replace hb : Below w0.heap.size w0 (w13.alloc (.cells (fA 48 G) 31)) := hb.alloc hb.size _
    obtain ⟨sv, esv, nsv⟩ := coat_stack HL.out Hn.out HD.out
    have HSv := Lib.hid nsv
    have Esv := Lib.hid esv
    clear esv nsv
    go_upto_region 9 with (first | (refine wpList_store_new rfl 31 _ _ rfl _ rfl rfl (by kernel_rfl) rfl (all_fA _ _) ?_))
    obtain ⟨VG, hVG⟩ : ∃ W : World, W = w13.alloc (.cells (fA 48 G) 31) := ⟨_, rfl⟩
    rw [← hVG] at kX kF kE kW kG hb ⊢
    clear hVG
    have kX1 := kX
    replace kX := kX.alloc (.cells (fA 66 (two33 A)) 28)
    replace kF := kF.alloc (.cells (fA 66 (two33 A)) 28)
    replace kE := kE.alloc (.cells (fA 66 (two33 A)) 28)
    replace kW := kW.alloc (.cells (fA 66 (two33 A)) 28)
    replace kG := kG.alloc (.cells (fA 66 (two33 A)) 28)
    have kL : Blk (VG.alloc (.cells (fA 66 (two33 A)) 28)) VG.heap.size 28 (fA 66 (two33 A)) := Blk.new _ _ _
    replace hb : Below w0.heap.size w0 (VG.alloc (.cells (fA 66 (two33 A)) 28)) := hb.alloc hb.size _
    go_wp2_with (first | (refine wpList_load_row rfl 28 _ rfl _ rfl _ _ (0, 0) _ kX1 Tryz.underlying28 rfl (by kernel_rfl) ?_) | (refine Great.wpList_buildSliceTo rfl 35 28 2 _ rfl _ rfl _ rfl Tryz.underlying35 (fA 66 (two33 A)) (by kernel_rfl) ?_))
    skip
    refine (iStackOf_any VG.heap.size 2 _ (two33 A) _ kL (by decide)).mono ?_
    rintro e w14 h
    obtain ⟨S, rfl, hS_, hb1⟩ := h.ok (Esv.out) (fun i _ => rfl)
    clear h
    have HS := Lib.hid hS_
    clear hS_
    replace kX := kX.below hb1 kX.lt
    replace kF := kF.below hb1 kF.lt
    replace kE := kE.below hb1 kE.lt
    replace kW := kW.below hb1 kW.lt
    replace kG := kG.below hb1 kG.lt
    replace kL := kL.below hb1 kL.lt
    replace hb := bCall hb hb1 hb.size
    clear hb1
    clear kX1
    clear kL
    replace kX := kX.alloc (.cells (fA 48 S) 31)
    replace kF := kF.alloc (.cells (fA 48 S) 31)
    replace kE := kE.alloc (.cells (fA 48 S) 31)
    replace kW := kW.alloc (.cells (fA 48 S) 31)
    replace kG := kG.alloc (.cells (fA 48 S) 31)
    have kS : Blk (w14.alloc (.cells (fA 48 S) 31)) w14.heap.size 31 (fA 48 S) := Blk.new _ _ _
    replace hb : Below w0.heap.size w0 (w14.alloc (.cells (fA 48 S) 31)) := hb.alloc hb.size _
    go_upto_region 10 with (first | (refine wpList_store_new rfl 31 _ _ rfl _ rfl rfl (by kernel_rfl) rfl (all_fA _ _) ?_))
    obtain ⟨VS, hVS⟩ : ∃ W : World, W = w14.alloc (.cells (fA 48 S) 31) := ⟨_, rfl⟩
    rw [← hVS] at kX kF kE kW kG kS hb ⊢
    clear hVS
    have kX1 := kX
    replace kX := kX.alloc (.cells (fA 66 (two33 A)) 28)
    replace kF := kF.alloc (.cells (fA 66 (two33 A)) 28)
    replace kE := kE.alloc (.cells (fA 66 (two33 A)) 28)
    replace kW := kW.alloc (.cells (fA 66 (two33 A)) 28)
    replace kG := kG.alloc (.cells (fA 66 (two33 A)) 28)
    replace kS := kS.alloc (.cells (fA 66 (two33 A)) 28)
    have kL : Blk (VS.alloc (.cells (fA 66 (two33 A)) 28)) VS.heap.size 28 (fA 66 (two33 A)) := Blk.new _ _ _
    replace hb : Below w0.heap.size w0 (VS.alloc (.cells (fA 66 (two33 A)) 28)) := hb.alloc hb.size _
    go_wp2_with (first | (refine wpList_load_row rfl 28 _ rfl _ rfl _ _ (0, 0) _ kX1 Tryz.underlying28 rfl (by kernel_rfl) ?_) | (refine Great.wpList_buildSliceTo rfl 35 28 2 _ rfl _ rfl _ rfl Tryz.underlying35 (fA 66 (two33 A)) (by kernel_rfl) ?_))
    skip
    refine (sStackOf_any VS.heap.size 2 _ (two33 A) _ kL (by decide)).mono ?_
    rintro e w15 h
    obtain ⟨M, rfl, hM_, hb1⟩ := h.ok (Esv.out) (fun i _ => rfl)
    clear h
    have HM := Lib.hid hM_
    clear hM_
    replace kX := kX.below hb1 kX.lt
    replace kF := kF.below hb1 kF.lt
    replace kE := kE.below hb1 kE.lt
    replace kW := kW.below hb1 kW.lt
    replace kG := kG.below hb1 kG.lt
    replace kS := kS.below hb1 kS.lt
    replace kL := kL.below hb1 kL.lt
    replace hb := bCall hb hb1 hb.size
    clear hb1
    clear kX1
    clear kL
    replace kX := kX.alloc (.cells (fA 48 M) 31)
    replace kF := kF.alloc (.cells (fA 48 M) 31)
    replace kE := kE.alloc (.cells (fA 48 M) 31)
    replace kW := kW.alloc (.cells (fA 48 M) 31)
    replace kG := kG.alloc (.cells (fA 48 M) 31)
    replace kS := kS.alloc (.cells (fA 48 M) 31)
    have kM : Blk (w15.alloc (.cells (fA 48 M) 31)) w15.heap.size 31 (fA 48 M) := Blk.new _ _ _
    replace hb : Below w0.heap.size w0 (w15.alloc (.cells (fA 48 M) 31)) := hb.alloc hb.size _
    have HS2 : Hid (sameFilm (rowAt S 0) (rowAt M 0) = true) := Lib.hid (by rw [rowAt_zero, rowAt_zero]; exact same_words fun i hi => by rw [HS.out i hi, HM.out i hi])
    clear HM
    as_aux_lemma =>
      go_wp2_with (first | (refine wpList_store_new rfl 31 _ _ rfl _ rfl rfl (by kernel_rfl) rfl (all_fA _ _) ?_) | (refine wpList_store_new rfl 26 _ _ rfl _ rfl rfl (by kernel_rfl) rfl (all_fA _ _) ?_) | (refine wpList_store_new rfl 28 _ _ rfl _ rfl rfl (by kernel_rfl) rfl (all_fA _ _) ?_) | (refine wpList_load_row rfl 28 _ rfl _ rfl _ _ (0, 0) _ kX Tryz.underlying28 rfl (by kernel_rfl) ?_))
      refine (iLayerText_wd A _ (Ht.out.below hb hlt0) (coat_bits HL.out)).mono ?_
      rintro e w16 ⟨rfl, hb1⟩
      obtain ⟨tx, htx⟩ : ∃ t, t = textOf A := ⟨_, rfl⟩
      rw [← htx]
      have Htx := Lib.hid htx
      clear htx
      replace kX := kX.below hb1 kX.lt
      replace kF := kF.below hb1 kF.lt
      replace kE := kE.below hb1 kE.lt
      replace kW := kW.below hb1 kW.lt
      replace kG := kG.below hb1 kG.lt
      replace kS := kS.below hb1 kS.lt
      replace kM := kM.below hb1 kM.lt
      replace hb := bCall hb hb1 hb.size
      clear hb1
      go_wp2_with fail
      refine (iReadLayer_any tx (by rw [Htx.out]; exact textOf_size A) _ (Ht.out.below hb hlt0) (He.out.below hb hlt0) (Hm.out.below hb hlt0)).mono ?_
      rintro e w17 ⟨h2, hb1⟩
      rw [Htx.out] at h2
      obtain ⟨Y, rfl, hY⟩ := read_layer (coat_bits HL.out) (layer_ok HL.out.l) h2
      have HS3 : Hid (sameLayer (rowAt Y 0) (rowAt A 0) = true) := Lib.hid (by rw [rowAt_zero, rowAt_zero]; exact same_layer hY)
      clear hY h2 Htx
      replace kX := kX.below hb1 kX.lt
      replace kF := kF.below hb1 kF.lt
      replace kE := kE.below hb1 kE.lt
      replace kW := kW.below hb1 kW.lt
      replace kG := kG.below hb1 kG.lt
      replace kS := kS.below hb1 kS.lt
      replace kM := kM.below hb1 kM.lt
      replace hb := bCall hb hb1 hb.size
      clear hb1
      replace kX := kX.alloc (.cells (fA 33 Y) 28)
      replace kF := kF.alloc (.cells (fA 33 Y) 28)
      replace kE := kE.alloc (.cells (fA 33 Y) 28)
      replace kW := kW.alloc (.cells (fA 33 Y) 28)
      replace kG := kG.alloc (.cells (fA 33 Y) 28)
      replace kS := kS.alloc (.cells (fA 33 Y) 28)
      replace kM := kM.alloc (.cells (fA 33 Y) 28)
      have kB : Blk (w17.alloc (.cells (fA 33 Y) 28)) w17.heap.size 28 (fA 33 Y) := Blk.new _ _ _
      replace hb : Below w0.heap.size w0 (w17.alloc (.cells (fA 33 Y) 28)) := hb.alloc hb.size _
      have HV1 : Hid (layerOk (rowAt A 0) = true) := Lib.hid (by rw [rowAt_zero]; exact layer_ok HL.out.l)
      have HV2 : Hid (filmOk (rowAt F 0) = true) := Lib.hid (by rw [rowAt_zero]; exact (coat_lost HL.out Hn.out HF.out).1)
      go_wp2_with (first | (refine wpList_store_new rfl 31 _ _ rfl _ rfl rfl (by kernel_rfl) rfl (all_fA _ _) ?_) | (refine wpList_store_new rfl 26 _ _ rfl _ rfl rfl (by kernel_rfl) rfl (all_fA _ _) ?_) | (refine wpList_store_new rfl 28 _ _ rfl _ rfl rfl (by kernel_rfl) rfl (all_fA _ _) ?_) | (refine wpList_load_partW rfl 31 _ rfl 0 48 kF rfl (by decide) Tryz.underlying31 rfl (by kernel_rfl) ?_) | (refine wpList_load_partW rfl 31 _ rfl 0 48 kE rfl (by decide) Tryz.underlying31 rfl (by kernel_rfl) ?_))
      refine (sSameFilm_any _ _ _).mono ?_
      rw [HS1.out]
      rintro e w18 ⟨rfl, hb1⟩
      replace kX := kX.below hb1 kX.lt
      replace kF := kF.below hb1 kF.lt
      replace kE := kE.below hb1 kE.lt
      replace kW := kW.below hb1 kW.lt
      replace kG := kG.below hb1 kG.lt
      replace kS := kS.below hb1 kS.lt
      replace kM := kM.below hb1 kM.lt
      replace kB := kB.below hb1 kB.lt
      replace hb := bCall hb hb1 hb.size
      clear hb1
      clear kE
      clear HS1
      go_wp2_with (first | (refine wpList_store_new rfl 31 _ _ rfl _ rfl rfl (by kernel_rfl) rfl (all_fA _ _) ?_) | (refine wpList_store_new rfl 26 _ _ rfl _ rfl rfl (by kernel_rfl) rfl (all_fA _ _) ?_) | (refine wpList_store_new rfl 28 _ _ rfl _ rfl rfl (by kernel_rfl) rfl (all_fA _ _) ?_) | (refine wpList_load_partW rfl 31 _ rfl 0 48 kS rfl (by decide) Tryz.underlying31 rfl (by kernel_rfl) ?_) | (refine wpList_load_partW rfl 31 _ rfl 0 48 kM rfl (by decide) Tryz.underlying31 rfl (by kernel_rfl) ?_))
      refine (sSameFilm_any _ _ _).mono ?_
      rw [HS2.out]
      rintro e w19 ⟨rfl, hb1⟩
      replace kX := kX.below hb1 kX.lt
      replace kF := kF.below hb1 kF.lt
      replace kW := kW.below hb1 kW.lt
      replace kG := kG.below hb1 kG.lt
      replace kS := kS.below hb1 kS.lt
      replace kM := kM.below hb1 kM.lt
      replace kB := kB.below hb1 kB.lt
      replace hb := bCall hb hb1 hb.size
      clear hb1
      clear kM
      clear HS2
      go_wp2_with (first | (refine wpList_store_new rfl 31 _ _ rfl _ rfl rfl (by kernel_rfl) rfl (all_fA _ _) ?_) | (refine wpList_store_new rfl 26 _ _ rfl _ rfl rfl (by kernel_rfl) rfl (all_fA _ _) ?_) | (refine wpList_store_new rfl 28 _ _ rfl _ rfl rfl (by kernel_rfl) rfl (all_fA _ _) ?_) | (refine wpList_load_partW rfl 28 _ rfl 0 33 kB rfl (by decide) Tryz.underlying28 rfl (by kernel_rfl) ?_) | (refine wpList_load_partW rfl 28 _ rfl 0 33 kX rfl (by decide) Tryz.underlying28 rfl (by kernel_rfl) ?_))
      refine (iSameLayer_any _ _ _).mono ?_
      rw [HS3.out]
      rintro e w20 ⟨rfl, hb1⟩
      replace kX := kX.below hb1 kX.lt
      replace kF := kF.below hb1 kF.lt
      replace kW := kW.below hb1 kW.lt
      replace kG := kG.below hb1 kG.lt
      replace kS := kS.below hb1 kS.lt
      replace kB := kB.below hb1 kB.lt
      replace hb := bCall hb hb1 hb.size
      clear hb1
      clear kB
      clear HS3
      go_wp2_with (first | (refine wpList_store_new rfl 31 _ _ rfl _ rfl rfl (by kernel_rfl) rfl (all_fA _ _) ?_) | (refine wpList_store_new rfl 26 _ _ rfl _ rfl rfl (by kernel_rfl) rfl (all_fA _ _) ?_) | (refine wpList_store_new rfl 28 _ _ rfl _ rfl rfl (by kernel_rfl) rfl (all_fA _ _) ?_) | (refine wpList_load_partW rfl 28 _ rfl 0 33 kX rfl (by decide) Tryz.underlying28 rfl (by kernel_rfl) ?_))
      refine (iValidLayer_any _ _).mono ?_
      rw [HV1.out]
      rintro e w21 ⟨rfl, hb1⟩
      replace kX := kX.below hb1 kX.lt
      replace kF := kF.below hb1 kF.lt
      replace kW := kW.below hb1 kW.lt
      replace kG := kG.below hb1 kG.lt
      replace kS := kS.below hb1 kS.lt
      replace hb := bCall hb hb1 hb.size
      clear hb1
      go_wp2_with (first | (refine wpList_store_new rfl 31 _ _ rfl _ rfl rfl (by kernel_rfl) rfl (all_fA _ _) ?_) | (refine wpList_store_new rfl 26 _ _ rfl _ rfl rfl (by kernel_rfl) rfl (all_fA _ _) ?_) | (refine wpList_store_new rfl 28 _ _ rfl _ rfl rfl (by kernel_rfl) rfl (all_fA _ _) ?_) | (refine wpList_load_partW rfl 31 _ rfl 0 48 kF rfl (by decide) Tryz.underlying31 rfl (by kernel_rfl) ?_))
      refine (iValidFilm_any _ _).mono ?_
      rw [HV2.out]
      rintro e w22 ⟨rfl, hb1⟩
      replace kX := kX.below hb1 kX.lt
      replace kF := kF.below hb1 kF.lt
      replace kW := kW.below hb1 kW.lt
      replace kG := kG.below hb1 kG.lt
      replace kS := kS.below hb1 kS.lt
      replace hb := bCall hb hb1 hb.size
      clear hb1
      clear HV1 HV2
      as_aux_lemma =>
        go_wp2_with (first | (refine wpList_store_new rfl 31 _ _ rfl _ rfl rfl (by kernel_rfl) rfl (all_fA _ _) ?_) | (refine wpList_store_new rfl 26 _ _ rfl _ rfl rfl (by kernel_rfl) rfl (all_fA _ _) ?_) | (refine wpList_store_new rfl 28 _ _ rfl _ rfl rfl (by kernel_rfl) rfl (all_fA _ _) ?_) | (refine wpList_load_row rfl 31 _ rfl _ rfl _ _ (0, 0) _ kF Tryz.underlying31 rfl (by kernel_rfl) ?_))
        refine (iLostIn_any F _).mono ?_
        rintro e w23 h
        obtain ⟨O, rfl, hO_, hb1⟩ := h.ok ((coat_lost HL.out Hn.out HF.out).2.1) (fun i _ => rfl)
        clear h
        have HO := Lib.hid hO_
        clear hO_
        replace kX := kX.below hb1 kX.lt
        replace kF := kF.below hb1 kF.lt
        replace kW := kW.below hb1 kW.lt
        replace kG := kG.below hb1 kG.lt
        replace kS := kS.below hb1 kS.lt
        replace hb := bCall hb hb1 hb.size
        clear hb1
        replace kX := kX.alloc (.cells (fA 16 O) 26)
        replace kF := kF.alloc (.cells (fA 16 O) 26)
        replace kW := kW.alloc (.cells (fA 16 O) 26)
        replace kG := kG.alloc (.cells (fA 16 O) 26)
        replace kS := kS.alloc (.cells (fA 16 O) 26)
        have kO : Blk (w23.alloc (.cells (fA 16 O) 26)) w23.heap.size 26 (fA 16 O) := Blk.new _ _ _
        replace hb : Below w0.heap.size w0 (w23.alloc (.cells (fA 16 O) 26)) := hb.alloc hb.size _
        go_wp2_with (first | (refine wpList_store_new rfl 31 _ _ rfl _ rfl rfl (by kernel_rfl) rfl (all_fA _ _) ?_) | (refine wpList_store_new rfl 26 _ _ rfl _ rfl rfl (by kernel_rfl) rfl (all_fA _ _) ?_) | (refine wpList_store_new rfl 28 _ _ rfl _ rfl rfl (by kernel_rfl) rfl (all_fA _ _) ?_) | (refine wpList_load_partW rfl 26 _ rfl 0 16 kX rfl (by decide) Tryz.underlying26 rfl (by kernel_rfl) ?_) | (refine wpList_load_partW rfl 26 _ rfl 16 16 kX rfl (by decide) Tryz.underlying26 rfl (by kernel_rfl) ?_))
        refine (iThickOf_any (rowAt A 0) (rowAt A 16) _).mono ?_
        rintro e w24 h
        obtain ⟨T, rfl, hT_, hb1⟩ := h.ok (coat_thick2 HL.out) (fun i _ => rfl)
        clear h
        have HT := Lib.hid hT_
        clear hT_
        replace kX := kX.below hb1 kX.lt
        replace kF := kF.below hb1 kF.lt
        replace kW := kW.below hb1 kW.lt
        replace kG := kG.below hb1 kG.lt
        replace kS := kS.below hb1 kS.lt
        replace kO := kO.below hb1 kO.lt
        replace hb := bCall hb hb1 hb.size
        clear hb1
        replace kX := kX.alloc (.cells (fA 16 T) 26)
        replace kF := kF.alloc (.cells (fA 16 T) 26)
        replace kW := kW.alloc (.cells (fA 16 T) 26)
        replace kG := kG.alloc (.cells (fA 16 T) 26)
        replace kS := kS.alloc (.cells (fA 16 T) 26)
        replace kO := kO.alloc (.cells (fA 16 T) 26)
        have kT : Blk (w24.alloc (.cells (fA 16 T) 26)) w24.heap.size 26 (fA 16 T) := Blk.new _ _ _
        replace hb : Below w0.heap.size w0 (w24.alloc (.cells (fA 16 T) 26)) := hb.alloc hb.size _
        go_wp2_with (first | (refine wpList_store_new rfl 31 _ _ rfl _ rfl rfl (by kernel_rfl) rfl (all_fA _ _) ?_) | (refine wpList_store_new rfl 26 _ _ rfl _ rfl rfl (by kernel_rfl) rfl (all_fA _ _) ?_) | (refine wpList_store_new rfl 28 _ _ rfl _ rfl rfl (by kernel_rfl) rfl (all_fA _ _) ?_) | (refine wpList_load_row rfl 28 _ rfl _ rfl _ _ (0, 0) _ kX Tryz.underlying28 rfl (by kernel_rfl) ?_) | (refine wpList_load_row rfl 26 _ rfl _ rfl _ _ (0, 0) _ kT Tryz.underlying26 rfl (by kernel_rfl) ?_))
        refine (iPaintOver_any A T _).mono ?_
        rintro e w25 h
        obtain ⟨Z, rfl, hZ_, hb1⟩ := h.ok ((coat_paint HL.out Hn.out HT.out).1) (fun i _ => rfl)
        clear h
        have HZ := Lib.hid hZ_
        clear hZ_
        replace kX := kX.below hb1 kX.lt
        replace kF := kF.below hb1 kF.lt
        replace kW := kW.below hb1 kW.lt
        replace kG := kG.below hb1 kG.lt
        replace kS := kS.below hb1 kS.lt
        replace kO := kO.below hb1 kO.lt
        replace kT := kT.below hb1 kT.lt
        replace hb := bCall hb hb1 hb.size
        clear hb1
        replace kX := kX.alloc (.cells (fA 16 Z) 26)
        replace kF := kF.alloc (.cells (fA 16 Z) 26)
        replace kW := kW.alloc (.cells (fA 16 Z) 26)
        replace kG := kG.alloc (.cells (fA 16 Z) 26)
        replace kS := kS.alloc (.cells (fA 16 Z) 26)
        replace kO := kO.alloc (.cells (fA 16 Z) 26)
        replace kT := kT.alloc (.cells (fA 16 Z) 26)
        have kY : Blk (w25.alloc (.cells (fA 16 Z) 26)) w25.heap.size 26 (fA 16 Z) := Blk.new _ _ _
        replace hb : Below w0.heap.size w0 (w25.alloc (.cells (fA 16 Z) 26)) := hb.alloc hb.size _
        go_wp2_with (first | (refine wpList_store_new rfl 31 _ _ rfl _ rfl rfl (by kernel_rfl) rfl (all_fA _ _) ?_) | (refine wpList_store_new rfl 26 _ _ rfl _ rfl rfl (by kernel_rfl) rfl (all_fA _ _) ?_) | (refine wpList_store_new rfl 28 _ _ rfl _ rfl rfl (by kernel_rfl) rfl (all_fA _ _) ?_))
        go_loopw [25] (fun i wr => ∃ (j : Nat), j ≤ 16 ∧ i = .int .i64 j ∧ Below w0.heap.size w0 wr ∧ Blk wr w2.heap.size 28 (fA 33 A) ∧ Blk wr w11.heap.size 31 (fA 48 F) ∧ Blk wr VE.heap.size 28 (fA 33 (upd A 32 V)) ∧ Blk wr w13.heap.size 31 (fA 48 G) ∧ Blk wr w14.heap.size 31 (fA 48 S) ∧ Blk wr w23.heap.size 26 (fA 16 O) ∧ Blk wr w24.heap.size 26 (fA 16 T) ∧ Blk wr w25.heap.size 26 (fA 16 Z)) (fun i _ => 16 - (intOf i).toNat)
        case atStart => exact ⟨0, by omega, rfl, hb, kX, kF, kW, kG, kS, kO, kT, kY⟩
        case round =>
          clear hb kX kF kW kG kS kO kT kY
          obtain ⟨j, hj, rfl, hb, kX, kF, kW, kG, kS, kO, kT, kY⟩ := hrel
          by_cases hlt : j < 16
          · have n1 : near (canon .f32 (S j)) (canon .f32 (G j)) (canon .f32 1017370378) = true := by rw [HS.out j (by omega), HG.out j (by omega)]; exact (HSv.out j hlt).1
            have n2 : near (canon .f32 (S (32 + j))) (canon .f32 (G (32 + j))) (canon .f32 1017370378) = true := by rw [HS.out (32 + j) (by omega), HG.out (32 + j) (by omega)]; exact (HSv.out j hlt).2
            obtain ⟨s1, s2, n3⟩ := (coat_lost HL.out Hn.out HF.out).2.2 j hlt
            obtain ⟨x5, q5, m5, h5⟩ := op_word (op := .add) (x := F j) (y := F (32 + j)) s1
            rw [← show canon .f32 x5 = fadd (canon .f32 (F j)) (canon .f32 (F (32 + j))) from h5, ← HO.out j hlt] at s2 n3
            obtain ⟨x6, q6, m6, h6⟩ := op_word (op := .add) (x := x5) (y := O j) s2
            rw [← show canon .f32 x6 = fadd (canon .f32 x5) (canon .f32 (O j)) from h6] at n3
            clear s1 s2 h5 h6
            have h4 := (coat_paint HL.out Hn.out HT.out).2 j hlt
            rw [← HZ.out j hlt] at h4
            go_wp2_with fail
            cases o4 : (FloatKind.f32.format.order (A (16 + j)) 0 == some .gt) with
            | true =>
              have n4 := h4 (by rw [← o_gt]; exact o4)
              clear h4
              as_aux_lemma =>
                refine wp_region_hr (fun f args u => u = .bool true) (by kernel_rfl) (by kernel_rfl) ?_
                (refine hr_plain rfl (fun K hK w1 hw1 => ?_); go_simp; refine ⟨R.refl _, hK _ _ ?_⟩; clear hK K)
                (refine hr_plain rfl (fun K hK w1 hw1 => ?_); go_simp; refine ⟨R.refl _, hK _ _ ?_⟩; clear hK K)
                (refine hr_plain rfl (fun K hK w1 hw1 => ?_); go_simp; refine ⟨R.refl _, hK _ _ ?_⟩; clear hK K)
                (refine (hr_plain (rfl) (fun K hK w1 hw1 => ?_)); have c1 := ((Blk.below kS hw1 kS.lt).cell j).trans (get_fA_lt S (by omega)); go_simp; refine ⟨R.refl _, hK _ _ ?_⟩; clear hK K)
                (refine hr_plain rfl (fun K hK w1 hw1 => ?_); go_simp; refine ⟨R.refl _, hK _ _ ?_⟩; clear hK K)
                (refine hr_plain rfl (fun K hK w1 hw1 => ?_); go_simp; refine ⟨R.refl _, hK _ _ ?_⟩; clear hK K)
                (refine hr_plain rfl (fun K hK w1 hw1 => ?_); go_simp; refine ⟨R.refl _, hK _ _ ?_⟩; clear hK K)
                (refine (hr_plain (rfl) (fun K hK w1 hw1 => ?_)); have c1 := ((Blk.below kG hw1 kG.lt).cell j).trans (get_fA_lt G (by omega)); go_simp; refine ⟨R.refl _, hK _ _ ?_⟩; clear hK K)
                refine (hr_plain rfl (fun K hK w1 hw1 => ?_)); go_simp; refine ⟨R.refl _, (a2Near_yes _ _ _ n1 _).mono ?_, fun u hu => hK _ _ ?_⟩; (rintro e w' ⟨rfl, hb⟩; exact ⟨_, rfl, rfl, hb.below0⟩); clear hK K; obtain rfl := hu
                (refine hr_plain rfl (fun K hK w1 hw1 => ?_); go_simp; refine ⟨R.refl _, hK _ _ ?_⟩; clear hK K)
                (refine hr_plain rfl (fun K hK w1 hw1 => ?_); go_simp; refine ⟨R.refl _, hK _ _ ?_⟩; clear hK K)
                (refine (hr_want (by kernel_rfl) (fun K hK w1 hw1 => ?_)); go_simp; refine ⟨R.refl _, hK _ _ ?_⟩; clear hK K)
                (refine (hr_want (by kernel_rfl) (fun K hK w1 hw1 => ?_)); go_simp; refine ⟨R.refl _, hK _ _ ?_⟩; clear hK K)
                (refine (hr_want (by kernel_rfl) (fun K hK w1 hw1 => ?_)); go_simp; refine ⟨R.refl _, hK _ _ ?_⟩; clear hK K)
                (refine (hr_want (by kernel_rfl) (fun K hK w1 hw1 => ?_)); have c1 := ((Blk.below kS hw1 kS.lt).cell (32 + j)).trans (get_fA_lt S (by omega)); go_simp; refine ⟨R.refl _, hK _ _ ?_⟩; clear hK K)
                (refine (hr_want (by kernel_rfl) (fun K hK w1 hw1 => ?_)); go_simp; refine ⟨R.refl _, hK _ _ ?_⟩; clear hK K)
                (refine (hr_want (by kernel_rfl) (fun K hK w1 hw1 => ?_)); go_simp; refine ⟨R.refl _, hK _ _ ?_⟩; clear hK K)
                (refine (hr_want (by kernel_rfl) (fun K hK w1 hw1 => ?_)); go_simp; refine ⟨R.refl _, hK _ _ ?_⟩; clear hK K)
                (refine (hr_want (by kernel_rfl) (fun K hK w1 hw1 => ?_)); have c1 := ((Blk.below kG hw1 kG.lt).cell (32 + j)).trans (get_fA_lt G (by omega)); go_simp; refine ⟨R.refl _, hK _ _ ?_⟩; clear hK K)
                refine (hr_want (by kernel_rfl) (fun K hK w1 hw1 => ?_)); go_simp; refine ⟨R.refl _, (a2Near_yes _ _ _ n2 _).mono ?_, fun u hu => hK _ _ ?_⟩; (rintro e w' ⟨rfl, hb⟩; exact ⟨_, rfl, rfl, hb.below0⟩); clear hK K; obtain rfl := hu
                (refine (hr_want (by kernel_rfl) (fun K hK w1 hw1 => ?_)); go_simp; refine ⟨R.refl _, hK _ _ ?_⟩; clear hK K)
                (refine hr_plain rfl (fun K hK w1 hw1 => ?_); go_simp; refine ⟨R.refl _, hK _ _ ?_⟩; clear hK K)
                (refine hr_plain rfl (fun K hK w1 hw1 => ?_); go_simp; refine ⟨R.refl _, hK _ _ ?_⟩; clear hK K)
                (refine (hr_want (by kernel_rfl) (fun K hK w1 hw1 => ?_)); go_simp; refine ⟨R.refl _, hK _ _ ?_⟩; clear hK K)
                (refine (hr_want (by kernel_rfl) (fun K hK w1 hw1 => ?_)); go_simp; refine ⟨R.refl _, hK _ _ ?_⟩; clear hK K)
                (refine (hr_want (by kernel_rfl) (fun K hK w1 hw1 => ?_)); go_simp; refine ⟨R.refl _, hK _ _ ?_⟩; clear hK K)
                (refine (hr_want (by kernel_rfl) (fun K hK w1 hw1 => ?_)); have c1 := ((Blk.below kF hw1 kF.lt).cell j).trans (get_fA_lt F (by omega)); go_simp; refine ⟨R.refl _, hK _ _ ?_⟩; clear hK K)
                (refine (hr_want (by kernel_rfl) (fun K hK w1 hw1 => ?_)); go_simp; refine ⟨R.refl _, hK _ _ ?_⟩; clear hK K)
                (refine (hr_want (by kernel_rfl) (fun K hK w1 hw1 => ?_)); go_simp; refine ⟨R.refl _, hK _ _ ?_⟩; clear hK K)
                (refine (hr_want (by kernel_rfl) (fun K hK w1 hw1 => ?_)); go_simp; refine ⟨R.refl _, hK _ _ ?_⟩; clear hK K)
                (refine (hr_want (by kernel_rfl) (fun K hK w1 hw1 => ?_)); have c1 := ((Blk.below kF hw1 kF.lt).cell (32 + j)).trans (get_fA_lt F (by omega)); go_simp; refine ⟨R.refl _, hK _ _ ?_⟩; clear hK K)
                (refine (hr_want (by kernel_rfl) (fun K hK w1 hw1 => ?_)); go_simp; refine ⟨R.refl _, hK _ _ ?_⟩; clear hK K)
                (refine (hr_want (by kernel_rfl) (fun K hK w1 hw1 => ?_)); go_simp; refine ⟨R.refl _, hK _ _ ?_⟩; clear hK K)
                (refine (hr_want (by kernel_rfl) (fun K hK w1 hw1 => ?_)); go_simp; refine ⟨R.refl _, hK _ _ ?_⟩; clear hK K)
                (refine (hr_want (by kernel_rfl) (fun K hK w1 hw1 => ?_)); have c1 := ((Blk.below kO hw1 kO.lt).cell j).trans (get_fA_lt O (by omega)); go_simp; refine ⟨R.refl _, hK _ _ ?_⟩; clear hK K)
                (refine (hr_want (by kernel_rfl) (fun K hK w1 hw1 => ?_)); go_simp; refine ⟨R.refl _, hK _ _ ?_⟩; clear hK K)
                refine (hr_want (by kernel_rfl) (fun K hK w1 hw1 => ?_)); go_simp; refine ⟨R.refl _, (a2Near_yes _ _ _ n3 _).mono ?_, fun u hu => hK _ _ ?_⟩; (rintro e w' ⟨rfl, hb⟩; exact ⟨_, rfl, rfl, hb.below0⟩); clear hK K; obtain rfl := hu
                (refine (hr_want (by kernel_rfl) (fun K hK w1 hw1 => ?_)); go_simp; refine ⟨R.refl _, hK _ _ ?_⟩; clear hK K)
                (refine hr_plain rfl (fun K hK w1 hw1 => ?_); go_simp; refine ⟨R.refl _, hK _ _ ?_⟩; clear hK K)
                (refine hr_plain rfl (fun K hK w1 hw1 => ?_); go_simp; refine ⟨R.refl _, hK _ _ ?_⟩; clear hK K)
                (refine (hr_want (by kernel_rfl) (fun K hK w1 hw1 => ?_)); go_simp; refine ⟨R.refl _, hK _ _ ?_⟩; clear hK K)
                (refine (hr_want (by kernel_rfl) (fun K hK w1 hw1 => ?_)); go_simp; refine ⟨R.refl _, hK _ _ ?_⟩; clear hK K)
                (refine (hr_want (by kernel_rfl) (fun K hK w1 hw1 => ?_)); go_simp; refine ⟨R.refl _, hK _ _ ?_⟩; clear hK K)
                (refine (hr_want (by kernel_rfl) (fun K hK w1 hw1 => ?_)); have c1 := ((Blk.below kX hw1 kX.lt).cell (16 + j)).trans (get_fA_lt A (by omega)); go_simp; refine ⟨R.refl _, hK _ _ ?_⟩; clear hK K)
                (refine (hr_want (by kernel_rfl) (fun K hK w1 hw1 => ?_)); go_simp; refine ⟨R.refl _, hK _ _ ?_⟩; clear hK K)
                (refine (hr_want (by kernel_rfl) (fun K hK w1 hw1 => ?_)); go_simp; refine ⟨R.refl _, hK _ _ ?_⟩; clear hK K)
                (refine (hr_want (by kernel_rfl) (fun K hK w1 hw1 => ?_)); go_simp; refine ⟨R.refl _, hK _ _ ?_⟩; clear hK K)
                (refine (hr_want (by kernel_rfl) (fun K hK w1 hw1 => ?_)); go_simp; refine ⟨R.refl _, hK _ _ ?_⟩; clear hK K)
                (refine (hr_want (by kernel_rfl) (fun K hK w1 hw1 => ?_)); have c1 := ((Blk.below kY hw1 kY.lt).cell j).trans (get_fA_lt Z (by omega)); go_simp; refine ⟨R.refl _, hK _ _ ?_⟩; clear hK K)
                (refine (hr_want (by kernel_rfl) (fun K hK w1 hw1 => ?_)); go_simp; refine ⟨R.refl _, hK _ _ ?_⟩; clear hK K)
                (refine (hr_want (by kernel_rfl) (fun K hK w1 hw1 => ?_)); go_simp; refine ⟨R.refl _, hK _ _ ?_⟩; clear hK K)
                (refine (hr_want (by kernel_rfl) (fun K hK w1 hw1 => ?_)); have c1 := ((Blk.below kT hw1 kT.lt).cell j).trans (get_fA_lt T (by omega)); go_simp; refine ⟨R.refl _, hK _ _ ?_⟩; clear hK K)
                refine (hr_want (by kernel_rfl) (fun K hK w1 hw1 => ?_)); go_simp; refine ⟨R.refl _, (a2Near_yes _ _ _ n4 _).mono ?_, fun u hu => hK _ _ ?_⟩; (rintro e w' ⟨rfl, hb⟩; exact ⟨_, rfl, rfl, hb.below0⟩); clear hK K; obtain rfl := hu
                (refine (hr_want (by kernel_rfl) (fun K hK w1 hw1 => ?_)); go_simp; refine ⟨R.refl _, hK _ _ ?_⟩; clear hK K)
                (refine (hr_want (by kernel_rfl) (fun K hK w1 hw1 => ?_)); go_simp; refine ⟨R.refl _, hK _ _ ?_⟩; clear hK K)
                (refine hr_plain rfl (fun K hK w1 hw1 => ?_); go_simp; refine ⟨R.refl _, hK _ _ ?_⟩; clear hK K)
                refine hr_nil ?_
                intro W2 hW1 hSS
                clear hSS
                replace kX := kX.below hW1 kX.lt
                replace kF := kF.below hW1 kF.lt
                replace kW := kW.below hW1 kW.lt
                replace kG := kG.below hW1 kG.lt
                replace kS := kS.below hW1 kS.lt
                replace kO := kO.below hW1 kO.lt
                replace kT := kT.below hW1 kT.lt
                replace kY := kY.below hW1 kY.lt
                replace hb := bCall hb hW1 hb.size
                clear hW1 n1 n2 n3 o4 q5 m5 q6 m6 n4
                go_wp2
                go_roundw
                case rel => exact ⟨j + 1, by omega, by go_num, hb, kX, kF, kW, kG, kS, kO, kT, kY⟩
                case measure => simp [intOf]; omega
            | false =>
              clear h4
              as_aux_lemma =>
                refine wp_region_hr (fun f args u => u = .bool true) (by kernel_rfl) (by kernel_rfl) ?_
                (refine hr_plain rfl (fun K hK w1 hw1 => ?_); go_simp; refine ⟨R.refl _, hK _ _ ?_⟩; clear hK K)
                (refine hr_plain rfl (fun K hK w1 hw1 => ?_); go_simp; refine ⟨R.refl _, hK _ _ ?_⟩; clear hK K)
                (refine hr_plain rfl (fun K hK w1 hw1 => ?_); go_simp; refine ⟨R.refl _, hK _ _ ?_⟩; clear hK K)
                (refine (hr_plain (rfl) (fun K hK w1 hw1 => ?_)); have c1 := ((Blk.below kS hw1 kS.lt).cell j).trans (get_fA_lt S (by omega)); go_simp; refine ⟨R.refl _, hK _ _ ?_⟩; clear hK K)
                (refine hr_plain rfl (fun K hK w1 hw1 => ?_); go_simp; refine ⟨R.refl _, hK _ _ ?_⟩; clear hK K)
                (refine hr_plain rfl (fun K hK w1 hw1 => ?_); go_simp; refine ⟨R.refl _, hK _ _ ?_⟩; clear hK K)
                (refine hr_plain rfl (fun K hK w1 hw1 => ?_); go_simp; refine ⟨R.refl _, hK _ _ ?_⟩; clear hK K)
                (refine (hr_plain (rfl) (fun K hK w1 hw1 => ?_)); have c1 := ((Blk.below kG hw1 kG.lt).cell j).trans (get_fA_lt G (by omega)); go_simp; refine ⟨R.refl _, hK _ _ ?_⟩; clear hK K)
                refine (hr_plain rfl (fun K hK w1 hw1 => ?_)); go_simp; refine ⟨R.refl _, (a2Near_yes _ _ _ n1 _).mono ?_, fun u hu => hK _ _ ?_⟩; (rintro e w' ⟨rfl, hb⟩; exact ⟨_, rfl, rfl, hb.below0⟩); clear hK K; obtain rfl := hu
                (refine hr_plain rfl (fun K hK w1 hw1 => ?_); go_simp; refine ⟨R.refl _, hK _ _ ?_⟩; clear hK K)
                (refine hr_plain rfl (fun K hK w1 hw1 => ?_); go_simp; refine ⟨R.refl _, hK _ _ ?_⟩; clear hK K)
                (refine (hr_want (by kernel_rfl) (fun K hK w1 hw1 => ?_)); go_simp; refine ⟨R.refl _, hK _ _ ?_⟩; clear hK K)
                (refine (hr_want (by kernel_rfl) (fun K hK w1 hw1 => ?_)); go_simp; refine ⟨R.refl _, hK _ _ ?_⟩; clear hK K)
                (refine (hr_want (by kernel_rfl) (fun K hK w1 hw1 => ?_)); go_simp; refine ⟨R.refl _, hK _ _ ?_⟩; clear hK K)
                (refine (hr_want (by kernel_rfl) (fun K hK w1 hw1 => ?_)); have c1 := ((Blk.below kS hw1 kS.lt).cell (32 + j)).trans (get_fA_lt S (by omega)); go_simp; refine ⟨R.refl _, hK _ _ ?_⟩; clear hK K)
                (refine (hr_want (by kernel_rfl) (fun K hK w1 hw1 => ?_)); go_simp; refine ⟨R.refl _, hK _ _ ?_⟩; clear hK K)
                (refine (hr_want (by kernel_rfl) (fun K hK w1 hw1 => ?_)); go_simp; refine ⟨R.refl _, hK _ _ ?_⟩; clear hK K)
                (refine (hr_want (by kernel_rfl) (fun K hK w1 hw1 => ?_)); go_simp; refine ⟨R.refl _, hK _ _ ?_⟩; clear hK K)
                (refine (hr_want (by kernel_rfl) (fun K hK w1 hw1 => ?_)); have c1 := ((Blk.below kG hw1 kG.lt).cell (32 + j)).trans (get_fA_lt G (by omega)); go_simp; refine ⟨R.refl _, hK _ _ ?_⟩; clear hK K)
                refine (hr_want (by kernel_rfl) (fun K hK w1 hw1 => ?_)); go_simp; refine ⟨R.refl _, (a2Near_yes _ _ _ n2 _).mono ?_, fun u hu => hK _ _ ?_⟩; (rintro e w' ⟨rfl, hb⟩; exact ⟨_, rfl, rfl, hb.below0⟩); clear hK K; obtain rfl := hu
                (refine (hr_want (by kernel_rfl) (fun K hK w1 hw1 => ?_)); go_simp; refine ⟨R.refl _, hK _ _ ?_⟩; clear hK K)
                (refine hr_plain rfl (fun K hK w1 hw1 => ?_); go_simp; refine ⟨R.refl _, hK _ _ ?_⟩; clear hK K)
                (refine hr_plain rfl (fun K hK w1 hw1 => ?_); go_simp; refine ⟨R.refl _, hK _ _ ?_⟩; clear hK K)
                (refine (hr_want (by kernel_rfl) (fun K hK w1 hw1 => ?_)); go_simp; refine ⟨R.refl _, hK _ _ ?_⟩; clear hK K)
                (refine (hr_want (by kernel_rfl) (fun K hK w1 hw1 => ?_)); go_simp; refine ⟨R.refl _, hK _ _ ?_⟩; clear hK K)
                (refine (hr_want (by kernel_rfl) (fun K hK w1 hw1 => ?_)); go_simp; refine ⟨R.refl _, hK _ _ ?_⟩; clear hK K)
                (refine (hr_want (by kernel_rfl) (fun K hK w1 hw1 => ?_)); have c1 := ((Blk.below kF hw1 kF.lt).cell j).trans (get_fA_lt F (by omega)); go_simp; refine ⟨R.refl _, hK _ _ ?_⟩; clear hK K)
                (refine (hr_want (by kernel_rfl) (fun K hK w1 hw1 => ?_)); go_simp; refine ⟨R.refl _, hK _ _ ?_⟩; clear hK K)
                (refine (hr_want (by kernel_rfl) (fun K hK w1 hw1 => ?_)); go_simp; refine ⟨R.refl _, hK _ _ ?_⟩; clear hK K)
                (refine (hr_want (by kernel_rfl) (fun K hK w1 hw1 => ?_)); go_simp; refine ⟨R.refl _, hK _ _ ?_⟩; clear hK K)
                (refine (hr_want (by kernel_rfl) (fun K hK w1 hw1 => ?_)); have c1 := ((Blk.below kF hw1 kF.lt).cell (32 + j)).trans (get_fA_lt F (by omega)); go_simp; refine ⟨R.refl _, hK _ _ ?_⟩; clear hK K)
                (refine (hr_want (by kernel_rfl) (fun K hK w1 hw1 => ?_)); go_simp; refine ⟨R.refl _, hK _ _ ?_⟩; clear hK K)
                (refine (hr_want (by kernel_rfl) (fun K hK w1 hw1 => ?_)); go_simp; refine ⟨R.refl _, hK _ _ ?_⟩; clear hK K)
                (refine (hr_want (by kernel_rfl) (fun K hK w1 hw1 => ?_)); go_simp; refine ⟨R.refl _, hK _ _ ?_⟩; clear hK K)
                (refine (hr_want (by kernel_rfl) (fun K hK w1 hw1 => ?_)); have c1 := ((Blk.below kO hw1 kO.lt).cell j).trans (get_fA_lt O (by omega)); go_simp; refine ⟨R.refl _, hK _ _ ?_⟩; clear hK K)
                (refine (hr_want (by kernel_rfl) (fun K hK w1 hw1 => ?_)); go_simp; refine ⟨R.refl _, hK _ _ ?_⟩; clear hK K)
                refine (hr_want (by kernel_rfl) (fun K hK w1 hw1 => ?_)); go_simp; refine ⟨R.refl _, (a2Near_yes _ _ _ n3 _).mono ?_, fun u hu => hK _ _ ?_⟩; (rintro e w' ⟨rfl, hb⟩; exact ⟨_, rfl, rfl, hb.below0⟩); clear hK K; obtain rfl := hu
                (refine (hr_want (by kernel_rfl) (fun K hK w1 hw1 => ?_)); go_simp; refine ⟨R.refl _, hK _ _ ?_⟩; clear hK K)
                (refine hr_plain rfl (fun K hK w1 hw1 => ?_); go_simp; refine ⟨R.refl _, hK _ _ ?_⟩; clear hK K)
                (refine hr_plain rfl (fun K hK w1 hw1 => ?_); go_simp; refine ⟨R.refl _, hK _ _ ?_⟩; clear hK K)
                (refine (hr_want (by kernel_rfl) (fun K hK w1 hw1 => ?_)); go_simp; refine ⟨R.refl _, hK _ _ ?_⟩; clear hK K)
                (refine (hr_want (by kernel_rfl) (fun K hK w1 hw1 => ?_)); go_simp; refine ⟨R.refl _, hK _ _ ?_⟩; clear hK K)
                (refine (hr_want (by kernel_rfl) (fun K hK w1 hw1 => ?_)); go_simp; refine ⟨R.refl _, hK _ _ ?_⟩; clear hK K)
                (refine (hr_want (by kernel_rfl) (fun K hK w1 hw1 => ?_)); have c1 := ((Blk.below kX hw1 kX.lt).cell (16 + j)).trans (get_fA_lt A (by omega)); go_simp; refine ⟨R.refl _, hK _ _ ?_⟩; clear hK K)
                (refine (hr_want (by kernel_rfl) (fun K hK w1 hw1 => ?_)); go_simp; refine ⟨R.refl _, hK _ _ ?_⟩; clear hK K)
                (refine (hr_want (by kernel_rfl) (fun K hK w1 hw1 => ?_)); go_simp; refine ⟨R.refl _, hK _ _ ?_⟩; clear hK K)
                (refine (hr_skip (by kernel_rfl) ?_); go_frame)
                (refine (hr_skip (by kernel_rfl) ?_); go_frame)
                (refine (hr_skip (by kernel_rfl) ?_); go_frame)
                (refine (hr_skip (by kernel_rfl) ?_); go_frame)
                (refine (hr_skip (by kernel_rfl) ?_); go_frame)
                (refine (hr_skip (by kernel_rfl) ?_); go_frame)
                (refine (hr_skip (by kernel_rfl) ?_); go_frame)
                (refine (hr_skip (by kernel_rfl) ?_); go_frame)
                (refine (hr_want (by kernel_rfl) (fun K hK w1 hw1 => ?_)); go_simp; refine ⟨R.refl _, hK _ _ ?_⟩; clear hK K)
                (refine hr_plain rfl (fun K hK w1 hw1 => ?_); go_simp; refine ⟨R.refl _, hK _ _ ?_⟩; clear hK K)
                refine hr_nil ?_
                intro W2 hW1 hSS
                clear hSS
                replace kX := kX.below hW1 kX.lt
                replace kF := kF.below hW1 kF.lt
                replace kW := kW.below hW1 kW.lt
                replace kG := kG.below hW1 kG.lt
                replace kS := kS.below hW1 kS.lt
                replace kO := kO.below hW1 kO.lt
                replace kT := kT.below hW1 kT.lt
                replace kY := kY.below hW1 kY.lt
                replace hb := bCall hb hW1 hb.size
                clear hW1 n1 n2 n3 o4 q5 m5 q6 m6
                go_wp2
                go_roundw
                case rel => exact ⟨j + 1, by omega, by go_num, hb, kX, kF, kW, kG, kS, kO, kT, kY⟩
                case measure => simp [intOf]; omega
          · obtain rfl : j = 16 := by omega
            clear kF kG kS kO kT kY
            clear HF HG HS HO HT HZ HSv Esv
            as_aux_lemma =>
              obtain ⟨c, e0, hc, he0, k1, k2, k3⟩ := coat_cons HL.out Hn.out HD.out
              have Hc := Lib.hid hc
              have He0 := Lib.hid he0
              have K1 := Lib.hid k1
              have K2 := Lib.hid k2
              have K3 := Lib.hid k3
              clear hc he0 k1 k2 k3
              go_wp2_with (first | (refine wpList_store_new rfl 31 _ _ rfl _ rfl rfl (by kernel_rfl) rfl (all_fA _ _) ?_) | (refine wpList_store_new rfl 26 _ _ rfl _ rfl rfl (by kernel_rfl) rfl (all_fA _ _) ?_) | (refine wpList_store_new rfl 28 _ _ rfl _ rfl rfl (by kernel_rfl) rfl (all_fA _ _) ?_) | (refine wpList_load_row rfl 28 _ rfl _ rfl _ _ (0, 0) _ kX Tryz.underlying28 rfl (by kernel_rfl) ?_))
              refine (iContrastOf_any A _).mono ?_
              rintro e w26 h
              obtain ⟨C, rfl, hC, hb1⟩ := h.code Hc.out
              clear h
              have HC := Lib.hid hC
              clear hC
              replace kX := kX.below hb1 kX.lt
              replace kW := kW.below hb1 kW.lt
              replace hb := bCall hb hb1 hb.size
              clear hb1
              go_wp2_with (first | (refine wpList_store_new rfl 31 _ _ rfl _ rfl rfl (by kernel_rfl) rfl (all_fA _ _) ?_) | (refine wpList_store_new rfl 26 _ _ rfl _ rfl rfl (by kernel_rfl) rfl (all_fA _ _) ?_) | (refine wpList_store_new rfl 28 _ _ rfl _ rfl rfl (by kernel_rfl) rfl (all_fA _ _) ?_) | (refine wpList_load_row rfl 28 _ rfl _ rfl _ _ (0, 0) _ kW Tryz.underlying28 rfl (by kernel_rfl) ?_))
              refine (iContrastOf_any (upd A 32 V) _).mono ?_
              rintro e w27 h
              obtain ⟨D, rfl, hD, hb1⟩ := h.code He0.out
              clear h
              have HE := Lib.hid hD
              clear hD
              replace kX := kX.below hb1 kX.lt
              replace kW := kW.below hb1 kW.lt
              replace hb := bCall hb hb1 hb.size
              clear hb1
              obtain ⟨x7, q7, m7, h7⟩ := op_word (op := .add) (x := C) (y := 1008981770) (by show (fadd (canon .f32 C) (canon .f32 1008981770)).isSome = true; rw [HC.out]; exact le_sum K1.out)
              have o1 : (FloatKind.f32.format.order D x7 == some .lt || FloatKind.f32.format.order D x7 == some .eq) = true := by rw [o_le, HE.out, show canon .f32 x7 = fadd (canon .f32 C) (canon .f32 1008981770) from h7, HC.out]; exact K1.out
              have o2 : (FloatKind.f32.format.order C 0 == some .gt || FloatKind.f32.format.order C 0 == some .eq) = true := by rw [o_ge, HC.out]; exact K2.out
              have o3 : (FloatKind.f32.format.order C 1065353216 == some .lt || FloatKind.f32.format.order C 1065353216 == some .eq) = true := by rw [o_le, HC.out]; exact K3.out
              go_wp2
              go_ret
              exact ⟨rfl, hb⟩

theorem own : ownKnob Tryz.prog.godebug = none := by kernel_rfl
theorem laidOut : laidOutB Tryz.prog = true := by kernel_rfl
set_option maxRecDepth 100000 in
theorem contract (H : Type) (enc : TypeId × Value → H) (W : World) (base : Nat) (args : Array Value) (ds gs : List (DataW H)) (before : List MemPlace)
    (hval0 : ∀ (j : Nat) t v, Tryz.f3.params[j]? = some t → args[j]? = some v → Value.okWide Tryz.prog W .any base t v)
    (hW : DataW.Whole enc Tryz.prog Tryz.f3.params.toList Rows.fnCoatsSpec.vars false W args.toList ds gs before) (hL : laidMetH Tryz.prog Rows.fnCoatsRow.laid W) (hsh : W.ShapedOpen Tryz.prog) :
    Calls Tryz.prog 3 args W fun e W' => ∃ v, e = .returned v ∧ Rows.fnCoatsSpec.post enc Tryz.prog Tryz.f3 false true false false W args v W' := by
  have hval := hval0
  have hW' := hW
  obtain ⟨p, q, hA0, hV, rfl, hfz, hnd⟩ := hW
  have hA : DataW.TrodAll enc Tryz.prog W 0 (fun _ => true) true Tryz.f3.params.toList args.toList ds p := hA0
  rw [Tryz.params3] at hA hval
  obtain ⟨v0, vs0, d0, ds0, p0, q0, hargs, rfl, rfl, h0, r0⟩ := trodAll_cons hA
  obtain ⟨v1, vs1, d1, ds1, p1, q1, rfl, rfl, rfl, h1, r1⟩ := trodAll_cons r0
  obtain ⟨rfl, rfl, rfl⟩ := trodAll_nil r1
  obtain rfl : args = #[v0, v1] := by cases args; simp_all
  obtain ⟨rfl, rfl⟩ := trodVars_none hV
  have k0 := h0
  have lt0 : ∀ x ∈ p0, x.block < W.heap.size := by obtain ⟨m, hm⟩ := k0; exact DataW.trod_lt m _ _ _ hm
  obtain ⟨a0, n0, c0, rfl⟩ := okWide_slice Tryz.underlying22 (hval 0 22 v0 rfl rfl)
  obtain ⟨f0, w0⟩ := open_byt Tryz.underlying22 Tryz.underlying5 (by kernel_rfl) h0
  have k1 := h1
  have lt1 : ∀ x ∈ p1, x.block < W.heap.size := by obtain ⟨m, hm⟩ := k1; exact DataW.trod_lt m _ _ _ hm
  obtain ⟨a1, n1, c1, rfl⟩ := okWide_slice Tryz.underlying22 (hval 1 22 v1 rfl rfl)
  obtain ⟨f1, w1⟩ := open_byt Tryz.underlying22 Tryz.underlying5 (by kernel_rfl) h1
  clear hA0 hval0
  refine (walk a0 n0 c0 f0 a1 n1 c1 f1 W w0 w1 (tab_of hL) (errs_of2 hL) (maxl_of hsh)).mono fun e W' ⟨he, bel⟩ => ?_
  subst he
  exact ⟨_, rfl, _, _, _, [], _, [], hW', trodAll_mk1 (shut_bool Tryz.underlying4 _), (trodAll_cons_mk (Below.trod laidOut (by kernel_rfl) (of_decide_eq_true (by kernel_rfl)) k0 bel lt0) (trodAll_cons_mk (Below.trod laidOut (by kernel_rfl) (of_decide_eq_true (by kernel_rfl)) k1 bel lt1) trodAll_mk0)), rfl, bel.frame _, fun h => by cases h⟩
set_option maxRecDepth 100000 in
theorem laid_met (os : Os) : laidMet Tryz.prog Rows.fnCoatsRow.laid ((laidWorldF os).forCall (fun _ _ => 0) ⟨#[], #[.slice none 0 0, .slice none 0 0], []⟩).memory :=
  laidMet_of_run' 8 (by kernel_rfl) (by kernel_rfl)
theorem reads (os : Os) {H : Type} (enc : TypeId × Value → H) : ∃ places, DataW.whole enc Tryz.prog ((laidWorldF os).forCall (fun _ _ => 0) ⟨#[], #[.slice none 0 0, .slice none 0 0], []⟩).memory Tryz.f3.params.toList Rows.fnCoatsSpec.vars false #[.slice none 0 0, .slice none 0 0].toList 8 = some ([.nil, .nil], [], places) :=
  ⟨[], by kernel_rfl⟩
set_option maxRecDepth 100000 in
theorem lifted (os : Os) (started : os.Started) (H : Type) (enc : TypeId × Value → H) (F : Stop.Interp) :
    ReturnsInHanded {} Tryz.checked os 3 .any ((OpenSpec.ofChange Rows.fnCoatsSpec).preRow enc Tryz.prog Tryz.f3 Rows.fnCoatsRow.domain false Rows.fnCoatsRow.laid) (((OpenSpec.ofChange Rows.fnCoatsSpec).at F).post enc Tryz.prog Tryz.f3 false true false false) := by
  obtain ⟨places, hx⟩ := reads os enc
  refine returnsInHanded_of_row (C := Tryz.checked) (s := OpenSpec.ofChange Rows.fnCoatsSpec) own started (by kernel_rfl) Tryz.func3
    (witness_row_at (enc := enc) (C := Tryz.checked) false (laidWorldF os) #[.slice none 0 0, .slice none 0 0] rfl (by kernel_rfl) (by kernel_rfl) (by kernel_rfl)
      (OpenSpec.preRow_of_cond 8 hx (by kernel_rfl) (fun k hk => by cases hk) (by kernel_rfl) (laid_met os))) ?_
  intro W base args ds gs before hval hW _ _ _ hL hsh _
  exact contract H enc W base args ds gs before hval hW hL hsh
theorem said : Rows.FnCoatsSaid :=
  OpenClaim.holds_of_cond 3 Tryz.f3 rfl rfl rfl rfl rfl rfl rfl ⟨rfl, rfl, rfl, rfl, rfl⟩ rfl rfl rfl rfl rfl (by kernel_rfl) Tryz.func3 (by kernel_rfl)
    (of_decide_eq_true (by kernel_rfl)) (by unfold Func.isWrapper; first | (rw [if_pos (by decide +kernel)]; kernel_rfl) | (rw [if_neg (by decide +kernel)]; exact ⟨rfl, rfl⟩))
    (fun os started H enc _ F => by rw [OpenClaim.pre_eq_preRow]; exact lifted os started H enc F)
theorem plain (f : FuncId) (fn : Func) (hf : Tryz.pinned.checked.prog.funcNamed "loop.example/g01213/laws.FnCoats" = some f) (hfn : Tryz.pinned.checked.prog.funcs[f]? = some fn) :
    true = Tryz.pinned.checked.prog.looks [] ∧ ∀ (j : Nat) t, fn.params[j]? = some t → Tryz.pinned.checked.prog.wantsStandIn t = false := by
  obtain rfl : f = 3 := Option.some.inj ((show Tryz.prog.funcNamed "loop.example/g01213/laws.FnCoats" = some 3 by kernel_rfl).symm.trans hf) |>.symm
  obtain rfl : fn = Tryz.f3 := (Option.some.inj (Tryz.func3.symm.trans hfn)).symm
  refine ⟨by kernel_rfl, fun j t ht => ?_⟩
  rw [Tryz.params3] at ht
  obtain rfl : t = 22 := by simpa using Array.mem_of_getElem? ht
  exact (show Tryz.prog.wantsStandIn 22 = false by kernel_rfl)
theorem card : Rows.FnCoatsCardSaid :=
  Claim7.holds_tied_plain_at .later [] _ _ _ _ said (fun _ h => by cases h) (by kernel_rfl) (fun _ h => by cases h) fnCoats_row_tie rfl ⟨rfl, rfl⟩ (by kernel_rfl) rfl plain (by kernel_rfl)
#print axioms card
end Go.Proofs.YtnfnlgmnnjgemaaGreatDoor.fnCoats
namespace Go.Proofs.YtnfnlgmnnjgemaaGreatDoor
/-- The card, under a short name, for the claim. -/
theorem fnCoats_holds : Rows.FnCoatsCardSaid := fnCoats.card
end Go.Proofs.YtnfnlgmnnjgemaaGreatDoor

