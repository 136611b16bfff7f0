/- Proved: the statement FnFilms of this seat: for every input the law returns true, and each argument reads as it read. There is no condition. -/
import Derived.Test.YtfpjiclkhjdihaaRows
import Derived.Test.YtfpjiclkhjdihaaOpen
import Derived.Test.YtfpjiclkhjdihaaDra
import Derived.Test.YtfpjiclkhjdihaaFmD
import Derived.Test.YtfpjiclkhjdihaaFmE
import Derived.Test.YtfpjiclkhjdihaaCN
import Derived.Test.YtfpjiclkhjdihaaCR
import Derived.Test.YtfpjiclkhjdihaaCP
import Derived.Test.YtfpjiclkhjdihaaDO
import Derived.Test.YtfpjiclkhjdihaaDM
import Derived.Test.YtfpjiclkhjdihaaGen
import Derived.Test.YtfpjiclkhjdihaaHeld
import Derived.Test.YtfpjiclkhjdihaaFnt
import Derived.WalkKit
import Derived.WalkSpells
import Derived.Outline
import Derived.ProofKit
import Derived.OpenShut
import Derived.ShutString
import Derived.ChangeOld
import Derived.Below
import Derived.IntWalk
import Derived.BigQuiet
namespace Go.Proofs.Ytfpjiclkhjdihaa.fnFilms
open Go.ChangeShapes Go.WideShapes Go.ChangeAt Go.RowKit
open Go.ChangeMaps (open_string shut_string)

set_option maxRecDepth 100000 in
set_option maxHeartbeats 40000000 in
theorem walk (a0 : Option Addr) (n0 c0 : Nat) (f0 : Nat → Nat) (a1 : Option Addr) (n1 c1 : Nat) (f1 : Nat → Nat) (w : World) (y0 : Byt w a0 n0 f0) (y1 : Byt w a1 n1 f1) : Calls Try.prog 3 #[.slice a0 n0 c0, .slice a1 n1 c1] w (RetB w true) := by
  go_enter Try.func3, Try.ntmps3
  by_cases hlong : 3000 < n0 ∨ 3000 < n1
  · go_wp2_with fail
    refine (a2Long_long a0 a1 n0 n1 c0 c1 hlong w).mono ?_
    rintro e w' ⟨rfl, rfl⟩
    go_wp2
    go_ret
    exact ⟨rfl, Below.refl _ _⟩
  · have hn0 : n0 ≤ 3000 := by omega
    have hn1 : n1 ≤ 3000 := by omega
    clear hlong
    go_wp2_with fail
    refine (a2Long_short a0 a1 n0 n1 c0 c1 hn0 hn1 w).mono ?_
    rintro e w0 ⟨rfl, hw⟩
    subst hw
    go_wp2_with fail
    refine (A2Film_any a0 n0 c0 f0 _ y0).mono ?_
    rintro e w2 ⟨F, hF, rfl, hb⟩
    have HF := Lib.hid hF
    clear hF
    have kF : Blk (w2.alloc (.cells (fA 48 F) 28)) w2.heap.size 28 (fA 48 F) := Blk.new _ _ _
    replace hb : Below w0.heap.size w0 (w2.alloc (.cells (fA 48 F) 28)) := hb.alloc hb.size _
    go_wp2_with (first | (refine wpList_store_new rfl 28 _ _ rfl _ rfl rfl (by kernel_rfl) rfl (all_fA _ _) ?_))
    refine (A2Film_any a1 n1 c1 f1 _ (y1.to hb (Nat.le_refl _))).mono ?_
    rintro e w3 ⟨G, hG, rfl, hb1⟩
    have HG := Lib.hid hG
    clear hG
    replace kF := kF.below hb1 kF.lt
    have hltF := kF.lt
    replace hb := bCall hb hb1 hb.size
    clear hb1
    replace kF := kF.alloc (.cells (fA 48 G) 28)
    have kG : Blk (w3.alloc (.cells (fA 48 G) 28)) w3.heap.size 28 (fA 48 G) := Blk.new _ _ _
    replace hb : Below w0.heap.size w0 (w3.alloc (.cells (fA 48 G) 28)) := hb.alloc hb.size _
    have hlb : w0.heap.size ≤ w3.heap.size + 1 := by have := hb.size; simpa using this
    have hB0 := y0.to (hb.alloc hb.size (.cells #[.int .u8 2] 5)) (Nat.le_refl _)
    have kG2 : Blk ((w3.alloc (.cells (fA 48 G) 28)).alloc (.cells #[.int .u8 2] 5)) (w3.heap.size + 1) 5 #[.int .u8 2] := Blk.new_at _ _ (by simp) rfl
    replace hb := hb.alloc hb.size (.cells #[.int .u8 2] 5)
    replace kF := kF.alloc (.cells #[.int .u8 2] 5)
    replace kG := kG.alloc (.cells #[.int .u8 2] 5)
    go_wp2_with (first | (refine wpList_store_new rfl 28 _ _ rfl _ rfl rfl (by kernel_rfl) rfl (all_fA _ _) ?_) | (at_builtin; refine wpList_ahead rfl (.tmp 44) (.tmp 45) rfl _ 2 (by decide) rfl kG2 a0 n0 c0 f0 rfl hB0 hn0 ?_; intro b5 c5 w5 hB5 hb5))
    replace kF := kF.below hb5 (by omega)
    replace kG := kG.below hb5 (by omega)
    replace hb := hb.trans (hb5.mono hlb)
    clear hB0 kG2 hb5 hlb hltF
    go_wp2_with fail
    refine (A2Film_low b5 (n0 + 1) c5 (ahead 2 f0) (by omega) rfl _ hB5).mono ?_
    rintro e w6 ⟨H, hH, hL, rfl, hb1⟩
    have HH := Lib.hid hH
    have HLow := Lib.hid hL
    clear hH hL hB5
    replace kF := kF.below hb1 kF.lt
    replace kG := kG.below hb1 kG.lt
    replace hb := bCall hb hb1 hb.size
    clear hb1
    replace kF := kF.alloc (.cells (fA 48 H) 28)
    replace kG := kG.alloc (.cells (fA 48 H) 28)
    have kH : Blk (w6.alloc (.cells (fA 48 H) 28)) w6.heap.size 28 (fA 48 H) := Blk.new _ _ _
    replace hb : Below w0.heap.size w0 (w6.alloc (.cells (fA 48 H) 28)) := hb.alloc hb.size _
    go_wp2_with (first | (refine wpList_store_new rfl 28 _ _ rfl _ rfl rfl (by kernel_rfl) rfl (all_fA _ _) ?_) | (refine wpList_store_new rfl 26 _ _ rfl _ rfl rfl (by kernel_rfl) rfl (all_fA _ _) ?_) | (refine wpList_load_row rfl 28 _ rfl _ rfl _ _ (0, 0) _ kF Try.underlying28 rfl (by kernel_rfl) ?_) | (refine wpList_load_row rfl 28 _ rfl _ rfl _ _ (0, 0) _ kG Try.underlying28 rfl (by kernel_rfl) ?_))
    refine (iAddFilms_any F G _).mono ?_
    rintro e w11 ⟨P, rfl, hP_, hb1⟩
    obtain ⟨cp, hcp⟩ : ∃ c, c = (addFilmsRes F G).2 := ⟨_, rfl⟩
    rw [← hcp]
    have Hcp := Lib.hid hcp
    clear hcp
    have HP := Lib.hid hP_
    clear hP_
    replace kF := kF.below hb1 kF.lt
    replace kG := kG.below hb1 kG.lt
    replace kH := kH.below hb1 kH.lt
    replace hb := bCall hb hb1 hb.size
    clear hb1
    replace kF := kF.alloc (.cells (fA 48 P) 28)
    replace kG := kG.alloc (.cells (fA 48 P) 28)
    replace kH := kH.alloc (.cells (fA 48 P) 28)
    have kP : Blk (w11.alloc (.cells (fA 48 P) 28)) w11.heap.size 28 (fA 48 P) := Blk.new _ _ _
    replace hb : Below w0.heap.size w0 (w11.alloc (.cells (fA 48 P) 28)) := hb.alloc hb.size _
    go_wp2_with (first | (refine wpList_store_new rfl 28 _ _ rfl _ rfl rfl (by kernel_rfl) rfl (all_fA _ _) ?_) | (refine wpList_store_new rfl 26 _ _ rfl _ rfl rfl (by kernel_rfl) rfl (all_fA _ _) ?_) | (refine wpList_load_row rfl 28 _ rfl _ rfl _ _ (0, 0) _ kF Try.underlying28 rfl (by kernel_rfl) ?_) | (refine wpList_load_row rfl 28 _ rfl _ rfl _ _ (0, 0) _ kG Try.underlying28 rfl (by kernel_rfl) ?_))
    refine (sAddFilms_any F G _).mono ?_
    rintro e w12 ⟨D, rfl, hD_, hb1⟩
    rw [← Hcp.out]
    have HD := Lib.hid hD_
    clear hD_
    replace kF := kF.below hb1 kF.lt
    replace kG := kG.below hb1 kG.lt
    replace kH := kH.below hb1 kH.lt
    replace kP := kP.below hb1 kP.lt
    replace hb := bCall hb hb1 hb.size
    clear hb1
    replace kF := kF.alloc (.cells (fA 48 D) 28)
    replace kG := kG.alloc (.cells (fA 48 D) 28)
    replace kH := kH.alloc (.cells (fA 48 D) 28)
    replace kP := kP.alloc (.cells (fA 48 D) 28)
    have kD : Blk (w12.alloc (.cells (fA 48 D) 28)) w12.heap.size 28 (fA 48 D) := Blk.new _ _ _
    replace hb : Below w0.heap.size w0 (w12.alloc (.cells (fA 48 D) 28)) := hb.alloc hb.size _
    have HS : Hid (sameFilm (rowAt P 0) (rowAt D 0) = true) := Lib.hid (by rw [rowAt_zero, rowAt_zero]; exact same_words fun i hi => by rw [HP.out i hi, HD.out i hi])
    have HO : Hid (filmOk (rowAt F 0) = true) := Lib.hid (by rw [rowAt_zero]; exact flm_ok HF.out)
    go_wp2_with (first | (refine wpList_store_new rfl 28 _ _ rfl _ rfl rfl (by kernel_rfl) rfl (all_fA _ _) ?_) | (refine wpList_store_new rfl 26 _ _ rfl _ rfl rfl (by kernel_rfl) rfl (all_fA _ _) ?_) | (refine wpList_load_partW rfl 28 _ rfl 0 48 kP rfl (by decide) Try.underlying28 rfl (by kernel_rfl) ?_) | (refine wpList_load_partW rfl 28 _ rfl 0 48 kD rfl (by decide) Try.underlying28 rfl (by kernel_rfl) ?_))
    refine (sSameFilm_any _ _ _).mono ?_
    rw [HS.out]
    rintro e w40 ⟨rfl, hb1⟩
    replace kF := kF.below hb1 kF.lt
    replace kG := kG.below hb1 kG.lt
    replace kH := kH.below hb1 kH.lt
    replace kP := kP.below hb1 kP.lt
    replace kD := kD.below hb1 kD.lt
    replace hb := bCall hb hb1 hb.size
    clear hb1
    clear kD
    clear HD HS
    go_wp2_with (first | (refine wpList_store_new rfl 28 _ _ rfl _ rfl rfl (by kernel_rfl) rfl (all_fA _ _) ?_) | (refine wpList_store_new rfl 26 _ _ rfl _ rfl rfl (by kernel_rfl) rfl (all_fA _ _) ?_) | (refine wpList_load_partW rfl 28 _ rfl 0 48 kF rfl (by decide) Try.underlying28 rfl (by kernel_rfl) ?_))
    refine (iValidFilm_any _ _).mono ?_
    rw [HO.out]
    rintro e w41 ⟨rfl, hb1⟩
    replace kF := kF.below hb1 kF.lt
    replace kG := kG.below hb1 kG.lt
    replace kH := kH.below hb1 kH.lt
    replace kP := kP.below hb1 kP.lt
    replace hb := bCall hb hb1 hb.size
    clear hb1
    clear HO
    rcases sum_code (flm_ok HF.out) (flm_ok HG.out) with ⟨e0, s1⟩ | e4
    rotate_left
    · obtain rfl : cp = 4 := by rw [Hcp.out, e4]
      clear Hcp e4 HP
      go_wp2
      go_ret
      exact ⟨rfl, hb⟩
    obtain rfl : cp = 0 := by rw [Hcp.out, e0]
    replace HP : Hid (∀ i, i < 48 → canon .f32 (P i) = addAt (fun i => canon .f32 (F i)) (fun i => canon .f32 (G i)) i) := Lib.hid fun i hi => by rw [HP.out i hi, e0]
    have HS1 := Lib.hid s1
    clear Hcp e0 s1
    as_aux_lemma =>
      go_wp2_with fail
      refine (iEmptyFilm_any _).mono ?_
      rintro e w13 ⟨E, rfl, hE, hb1⟩
      have HE := Lib.hid hE
      clear hE
      replace kF := kF.below hb1 kF.lt
      replace kG := kG.below hb1 kG.lt
      replace kH := kH.below hb1 kH.lt
      replace kP := kP.below hb1 kP.lt
      replace hb := bCall hb hb1 hb.size
      clear hb1
      replace kF := kF.alloc (.cells (fA 48 E) 28)
      replace kG := kG.alloc (.cells (fA 48 E) 28)
      replace kH := kH.alloc (.cells (fA 48 E) 28)
      replace kP := kP.alloc (.cells (fA 48 E) 28)
      have kE : Blk (w13.alloc (.cells (fA 48 E) 28)) w13.heap.size 28 (fA 48 E) := Blk.new _ _ _
      replace hb : Below w0.heap.size w0 (w13.alloc (.cells (fA 48 E) 28)) := hb.alloc hb.size _
      go_wp2_with (first | (refine wpList_store_new rfl 28 _ _ rfl _ rfl rfl (by kernel_rfl) rfl (all_fA _ _) ?_) | (refine wpList_store_new rfl 26 _ _ rfl _ rfl rfl (by kernel_rfl) rfl (all_fA _ _) ?_) | (refine wpList_load_row rfl 28 _ rfl _ rfl _ _ (0, 0) _ kE Try.underlying28 rfl (by kernel_rfl) ?_) | (refine wpList_load_row rfl 28 _ rfl _ rfl _ _ (0, 0) _ kF Try.underlying28 rfl (by kernel_rfl) ?_))
      refine (iAddFilms_any E F _).mono ?_
      rintro e w14 h
      obtain ⟨A, rfl, hA_, hb1⟩ := h.ok (sum_made (flm_ok (empty_flm HE.out)) (flm_ok HF.out) (empty_over HE.out HF.out).1) (fun i _ => rfl)
      clear h
      have HA := Lib.hid hA_
      clear hA_
      replace kF := kF.below hb1 kF.lt
      replace kG := kG.below hb1 kG.lt
      replace kH := kH.below hb1 kH.lt
      replace kP := kP.below hb1 kP.lt
      replace kE := kE.below hb1 kE.lt
      replace hb := bCall hb hb1 hb.size
      clear hb1
      replace kF := kF.alloc (.cells (fA 48 A) 28)
      replace kG := kG.alloc (.cells (fA 48 A) 28)
      replace kH := kH.alloc (.cells (fA 48 A) 28)
      replace kP := kP.alloc (.cells (fA 48 A) 28)
      replace kE := kE.alloc (.cells (fA 48 A) 28)
      have kA : Blk (w14.alloc (.cells (fA 48 A) 28)) w14.heap.size 28 (fA 48 A) := Blk.new _ _ _
      replace hb : Below w0.heap.size w0 (w14.alloc (.cells (fA 48 A) 28)) := hb.alloc hb.size _
      go_wp2_with (first | (refine wpList_store_new rfl 28 _ _ rfl _ rfl rfl (by kernel_rfl) rfl (all_fA _ _) ?_) | (refine wpList_store_new rfl 26 _ _ rfl _ rfl rfl (by kernel_rfl) rfl (all_fA _ _) ?_) | (refine wpList_load_row rfl 28 _ rfl _ rfl _ _ (0, 0) _ kE Try.underlying28 rfl (by kernel_rfl) ?_) | (refine wpList_load_row rfl 28 _ rfl _ rfl _ _ (0, 0) _ kF Try.underlying28 rfl (by kernel_rfl) ?_))
      refine (iAddFilms_any F E _).mono ?_
      rintro e w15 h
      obtain ⟨B, rfl, hB_, hb1⟩ := h.ok (sum_made (flm_ok HF.out) (flm_ok (empty_flm HE.out)) (over_empty HE.out HF.out).1) (fun i _ => rfl)
      clear h
      have HB := Lib.hid hB_
      clear hB_
      replace kF := kF.below hb1 kF.lt
      replace kG := kG.below hb1 kG.lt
      replace kH := kH.below hb1 kH.lt
      replace kP := kP.below hb1 kP.lt
      replace kE := kE.below hb1 kE.lt
      replace kA := kA.below hb1 kA.lt
      replace hb := bCall hb hb1 hb.size
      clear hb1
      replace kF := kF.alloc (.cells (fA 48 B) 28)
      replace kG := kG.alloc (.cells (fA 48 B) 28)
      replace kH := kH.alloc (.cells (fA 48 B) 28)
      replace kP := kP.alloc (.cells (fA 48 B) 28)
      replace kE := kE.alloc (.cells (fA 48 B) 28)
      replace kA := kA.alloc (.cells (fA 48 B) 28)
      have kB : Blk (w15.alloc (.cells (fA 48 B) 28)) w15.heap.size 28 (fA 48 B) := Blk.new _ _ _
      replace hb : Below w0.heap.size w0 (w15.alloc (.cells (fA 48 B) 28)) := hb.alloc hb.size _
      clear kE
      go_wp2_with (first | (refine wpList_store_new rfl 28 _ _ rfl _ rfl rfl (by kernel_rfl) rfl (all_fA _ _) ?_) | (refine wpList_store_new rfl 26 _ _ rfl _ rfl rfl (by kernel_rfl) rfl (all_fA _ _) ?_) | (refine wpList_load_row rfl 28 _ rfl _ rfl _ _ (0, 0) _ kF Try.underlying28 rfl (by kernel_rfl) ?_))
      refine (iTurnFilm_any F _).mono ?_
      rintro e w16 h
      obtain ⟨U, rfl, hU_, hb1⟩ := h.ok (turn_made (flm_ok HF.out)) (fun i _ => rfl)
      clear h
      have HU := Lib.hid hU_
      clear hU_
      replace kF := kF.below hb1 kF.lt
      replace kG := kG.below hb1 kG.lt
      replace kH := kH.below hb1 kH.lt
      replace kP := kP.below hb1 kP.lt
      replace kA := kA.below hb1 kA.lt
      replace kB := kB.below hb1 kB.lt
      replace hb := bCall hb hb1 hb.size
      clear hb1
      have TU := Lib.hid (turn_trn HU.out)
      clear HU
      replace kF := kF.alloc (.cells (fA 48 U) 28)
      replace kG := kG.alloc (.cells (fA 48 U) 28)
      replace kH := kH.alloc (.cells (fA 48 U) 28)
      replace kP := kP.alloc (.cells (fA 48 U) 28)
      replace kA := kA.alloc (.cells (fA 48 U) 28)
      replace kB := kB.alloc (.cells (fA 48 U) 28)
      have kU : Blk (w16.alloc (.cells (fA 48 U) 28)) w16.heap.size 28 (fA 48 U) := Blk.new _ _ _
      replace hb : Below w0.heap.size w0 (w16.alloc (.cells (fA 48 U) 28)) := hb.alloc hb.size _
      as_aux_lemma =>
        go_wp2_with (first | (refine wpList_store_new rfl 28 _ _ rfl _ rfl rfl (by kernel_rfl) rfl (all_fA _ _) ?_) | (refine wpList_store_new rfl 26 _ _ rfl _ rfl rfl (by kernel_rfl) rfl (all_fA _ _) ?_) | (refine wpList_load_row rfl 28 _ rfl _ rfl _ _ (0, 0) _ kG Try.underlying28 rfl (by kernel_rfl) ?_))
        refine (iTurnFilm_any G _).mono ?_
        rintro e w17 h
        obtain ⟨V, rfl, hV_, hb1⟩ := h.ok (turn_made (flm_ok HG.out)) (fun i _ => rfl)
        clear h
        have HV := Lib.hid hV_
        clear hV_
        replace kF := kF.below hb1 kF.lt
        replace kG := kG.below hb1 kG.lt
        replace kH := kH.below hb1 kH.lt
        replace kP := kP.below hb1 kP.lt
        replace kA := kA.below hb1 kA.lt
        replace kB := kB.below hb1 kB.lt
        replace kU := kU.below hb1 kU.lt
        replace hb := bCall hb hb1 hb.size
        clear hb1
        have TV := Lib.hid (turn_trn HV.out)
        clear HV
        replace kF := kF.alloc (.cells (fA 48 V) 28)
        replace kG := kG.alloc (.cells (fA 48 V) 28)
        replace kH := kH.alloc (.cells (fA 48 V) 28)
        replace kP := kP.alloc (.cells (fA 48 V) 28)
        replace kA := kA.alloc (.cells (fA 48 V) 28)
        replace kB := kB.alloc (.cells (fA 48 V) 28)
        replace kU := kU.alloc (.cells (fA 48 V) 28)
        have kV : Blk (w17.alloc (.cells (fA 48 V) 28)) w17.heap.size 28 (fA 48 V) := Blk.new _ _ _
        replace hb : Below w0.heap.size w0 (w17.alloc (.cells (fA 48 V) 28)) := hb.alloc hb.size _
        have TT := Lib.hid (turned HF.out HG.out TU.out TV.out HS1.out)
        go_wp2_with (first | (refine wpList_store_new rfl 28 _ _ rfl _ rfl rfl (by kernel_rfl) rfl (all_fA _ _) ?_) | (refine wpList_store_new rfl 26 _ _ rfl _ rfl rfl (by kernel_rfl) rfl (all_fA _ _) ?_) | (refine wpList_load_row rfl 28 _ rfl _ rfl _ _ (0, 0) _ kV Try.underlying28 rfl (by kernel_rfl) ?_) | (refine wpList_load_row rfl 28 _ rfl _ rfl _ _ (0, 0) _ kU Try.underlying28 rfl (by kernel_rfl) ?_))
        refine (iAddFilms_any V U _).mono ?_
        rintro e w18 h
        obtain ⟨X, rfl, hX_, hb1⟩ := h.ok (sum_made (flm_ok (TV.out.flm HG.out)) (flm_ok (TU.out.flm HF.out)) TT.out.1) (fun i _ => rfl)
        clear h
        have HX := Lib.hid hX_
        clear hX_
        replace kF := kF.below hb1 kF.lt
        replace kG := kG.below hb1 kG.lt
        replace kH := kH.below hb1 kH.lt
        replace kP := kP.below hb1 kP.lt
        replace kA := kA.below hb1 kA.lt
        replace kB := kB.below hb1 kB.lt
        replace kU := kU.below hb1 kU.lt
        replace kV := kV.below hb1 kV.lt
        replace hb := bCall hb hb1 hb.size
        clear hb1
        replace kF := kF.alloc (.cells (fA 48 X) 28)
        replace kG := kG.alloc (.cells (fA 48 X) 28)
        replace kH := kH.alloc (.cells (fA 48 X) 28)
        replace kP := kP.alloc (.cells (fA 48 X) 28)
        replace kA := kA.alloc (.cells (fA 48 X) 28)
        replace kB := kB.alloc (.cells (fA 48 X) 28)
        replace kU := kU.alloc (.cells (fA 48 X) 28)
        replace kV := kV.alloc (.cells (fA 48 X) 28)
        have kX : Blk (w18.alloc (.cells (fA 48 X) 28)) w18.heap.size 28 (fA 48 X) := Blk.new _ _ _
        replace hb : Below w0.heap.size w0 (w18.alloc (.cells (fA 48 X) 28)) := hb.alloc hb.size _
        go_wp2_with (first | (refine wpList_store_new rfl 28 _ _ rfl _ rfl rfl (by kernel_rfl) rfl (all_fA _ _) ?_) | (refine wpList_store_new rfl 26 _ _ rfl _ rfl rfl (by kernel_rfl) rfl (all_fA _ _) ?_) | (refine wpList_load_row rfl 28 _ rfl _ rfl _ _ (0, 0) _ kU Try.underlying28 rfl (by kernel_rfl) ?_))
        refine (iTurnFilm_any U _).mono ?_
        rintro e w19 h
        obtain ⟨Z, rfl, hZ_, hb1⟩ := h.ok (turn_made (flm_ok (TU.out.flm HF.out))) (fun i _ => rfl)
        clear h
        have HZ := Lib.hid hZ_
        clear hZ_
        replace kF := kF.below hb1 kF.lt
        replace kG := kG.below hb1 kG.lt
        replace kH := kH.below hb1 kH.lt
        replace kP := kP.below hb1 kP.lt
        replace kA := kA.below hb1 kA.lt
        replace kB := kB.below hb1 kB.lt
        replace kU := kU.below hb1 kU.lt
        replace kV := kV.below hb1 kV.lt
        replace kX := kX.below hb1 kX.lt
        replace hb := bCall hb hb1 hb.size
        clear hb1
        replace kF := kF.alloc (.cells (fA 48 Z) 28)
        replace kG := kG.alloc (.cells (fA 48 Z) 28)
        replace kH := kH.alloc (.cells (fA 48 Z) 28)
        replace kP := kP.alloc (.cells (fA 48 Z) 28)
        replace kA := kA.alloc (.cells (fA 48 Z) 28)
        replace kB := kB.alloc (.cells (fA 48 Z) 28)
        replace kU := kU.alloc (.cells (fA 48 Z) 28)
        replace kV := kV.alloc (.cells (fA 48 Z) 28)
        replace kX := kX.alloc (.cells (fA 48 Z) 28)
        have kZ : Blk (w19.alloc (.cells (fA 48 Z) 28)) w19.heap.size 28 (fA 48 Z) := Blk.new _ _ _
        replace hb : Below w0.heap.size w0 (w19.alloc (.cells (fA 48 Z) 28)) := hb.alloc hb.size _
        have HS : Hid (sameFilm (rowAt Z 0) (rowAt F 0) = true) := Lib.hid (by rw [rowAt_zero, rowAt_zero]; exact same_words fun i hi => TU.out.back (turn_trn HZ.out) i hi)
        clear HZ
        clear kV kU
        go_wp2_with (first | (refine wpList_store_new rfl 28 _ _ rfl _ rfl rfl (by kernel_rfl) rfl (all_fA _ _) ?_) | (refine wpList_store_new rfl 26 _ _ rfl _ rfl rfl (by kernel_rfl) rfl (all_fA _ _) ?_) | (refine wpList_load_partW rfl 28 _ rfl 0 48 kZ rfl (by decide) Try.underlying28 rfl (by kernel_rfl) ?_) | (refine wpList_load_partW rfl 28 _ rfl 0 48 kF rfl (by decide) Try.underlying28 rfl (by kernel_rfl) ?_))
        refine (sSameFilm_any _ _ _).mono ?_
        rw [HS.out]
        rintro e w42 ⟨rfl, hb1⟩
        replace kF := kF.below hb1 kF.lt
        replace kG := kG.below hb1 kG.lt
        replace kH := kH.below hb1 kH.lt
        replace kP := kP.below hb1 kP.lt
        replace kA := kA.below hb1 kA.lt
        replace kB := kB.below hb1 kB.lt
        replace kX := kX.below hb1 kX.lt
        replace kZ := kZ.below hb1 kZ.lt
        replace hb := bCall hb hb1 hb.size
        clear hb1
        clear kZ
        clear HS
        as_aux_lemma =>
          go_wp2_with (first | (refine wpList_store_new rfl 28 _ _ rfl _ rfl rfl (by kernel_rfl) rfl (all_fA _ _) ?_) | (refine wpList_store_new rfl 26 _ _ rfl _ rfl rfl (by kernel_rfl) rfl (all_fA _ _) ?_) | (refine wpList_load_row rfl 28 _ rfl _ rfl _ _ (0, 0) _ kG Try.underlying28 rfl (by kernel_rfl) ?_) | (refine wpList_load_row rfl 28 _ rfl _ rfl _ _ (0, 0) _ kH Try.underlying28 rfl (by kernel_rfl) ?_))
          refine (iAddFilms_any G H _).mono ?_
          rintro e w20 ⟨Q, rfl, hQ_, hb1⟩
          obtain ⟨cq, hcq⟩ : ∃ c, c = (addFilmsRes G H).2 := ⟨_, rfl⟩
          rw [← hcq]
          have Hcq := Lib.hid hcq
          clear hcq
          have HQ := Lib.hid hQ_
          clear hQ_
          replace kF := kF.below hb1 kF.lt
          replace kG := kG.below hb1 kG.lt
          replace kH := kH.below hb1 kH.lt
          replace kP := kP.below hb1 kP.lt
          replace kA := kA.below hb1 kA.lt
          replace kB := kB.below hb1 kB.lt
          replace kX := kX.below hb1 kX.lt
          replace hb := bCall hb hb1 hb.size
          clear hb1
          replace kF := kF.alloc (.cells (fA 48 Q) 28)
          replace kG := kG.alloc (.cells (fA 48 Q) 28)
          replace kH := kH.alloc (.cells (fA 48 Q) 28)
          replace kP := kP.alloc (.cells (fA 48 Q) 28)
          replace kA := kA.alloc (.cells (fA 48 Q) 28)
          replace kB := kB.alloc (.cells (fA 48 Q) 28)
          replace kX := kX.alloc (.cells (fA 48 Q) 28)
          have kQ : Blk (w20.alloc (.cells (fA 48 Q) 28)) w20.heap.size 28 (fA 48 Q) := Blk.new _ _ _
          replace hb : Below w0.heap.size w0 (w20.alloc (.cells (fA 48 Q) 28)) := hb.alloc hb.size _
          go_upto_region 24 with (first | (refine wpList_store_new rfl 28 _ _ rfl _ rfl rfl (by kernel_rfl) rfl (all_fA _ _) ?_))
          obtain ⟨VA, hVA⟩ : ∃ W : World, W = w20.alloc (.cells (fA 48 Q) 28) := ⟨_, rfl⟩
          rw [← hVA] at kF kG kH kP kA kB kX kQ hb ⊢
          clear hVA
          have lt_kF := kF.lt
          have lt_kG := kG.lt
          have lt_kH := kH.lt
          have lt_kP := kP.lt
          have lt_kA := kA.lt
          have lt_kB := kB.lt
          have lt_kX := kX.lt
          have lt_kQ := kQ.lt
          have hVA0 := hb.size
          replace kF := kF.alloc (.cells (fA 48 fun _ => 0) 28)
          replace kG := kG.alloc (.cells (fA 48 fun _ => 0) 28)
          replace kH := kH.alloc (.cells (fA 48 fun _ => 0) 28)
          replace kP := kP.alloc (.cells (fA 48 fun _ => 0) 28)
          replace kA := kA.alloc (.cells (fA 48 fun _ => 0) 28)
          replace kB := kB.alloc (.cells (fA 48 fun _ => 0) 28)
          replace kX := kX.alloc (.cells (fA 48 fun _ => 0) 28)
          replace kQ := kQ.alloc (.cells (fA 48 fun _ => 0) 28)
          have kL : Blk (VA.alloc (.cells (fA 48 fun _ => 0) 28)) VA.heap.size 28 (fA 48 fun _ => 0) := Blk.new _ _ _
          replace hb : Below w0.heap.size w0 (VA.alloc (.cells (fA 48 fun _ => 0) 28)) := hb.alloc hb.size _
          go_upto_region 25 with (first | (refine wpList_build_as rfl 28 _ rfl (fA 48 fun _ => 0) (by kernel_rfl) ?_) | (refine wpList_store_new rfl 28 _ _ rfl _ rfl rfl (by kernel_rfl) rfl (all_fA _ _) ?_))
          obtain ⟨VB, hVB⟩ : ∃ W : World, W = VA.alloc (.cells (fA 48 fun _ => 0) 28) := ⟨_, rfl⟩
          rw [← hVB] at kF kG kH kP kA kB kX kQ kL hb ⊢
          clear hVB
          have hAB := kL.lt
          replace kF := kF.alloc (.cells (fA 48 fun _ => 0) 28)
          replace kG := kG.alloc (.cells (fA 48 fun _ => 0) 28)
          replace kH := kH.alloc (.cells (fA 48 fun _ => 0) 28)
          replace kP := kP.alloc (.cells (fA 48 fun _ => 0) 28)
          replace kA := kA.alloc (.cells (fA 48 fun _ => 0) 28)
          replace kB := kB.alloc (.cells (fA 48 fun _ => 0) 28)
          replace kX := kX.alloc (.cells (fA 48 fun _ => 0) 28)
          replace kQ := kQ.alloc (.cells (fA 48 fun _ => 0) 28)
          replace kL := kL.alloc (.cells (fA 48 fun _ => 0) 28)
          have kR : Blk (VB.alloc (.cells (fA 48 fun _ => 0) 28)) VB.heap.size 28 (fA 48 fun _ => 0) := Blk.new _ _ _
          replace hb : Below w0.heap.size w0 (VB.alloc (.cells (fA 48 fun _ => 0) 28)) := hb.alloc hb.size _
          as_aux_lemma =>
            go_upto_region 28 with (first | (refine wpList_build_as rfl 28 _ rfl (fA 48 fun _ => 0) (by kernel_rfl) ?_) | (refine wpList_store_new rfl 28 _ _ rfl _ rfl rfl (by kernel_rfl) rfl (all_fA _ _) ?_))
            go_cut [155] from 37 (fun v wc => ∃ bq : Bool, v = .bool bq ∧ Below w0.heap.size w0 wc ∧ Blk wc w2.heap.size 28 (fA 48 F) ∧ Blk wc w3.heap.size 28 (fA 48 G) ∧ Blk wc w6.heap.size 28 (fA 48 H) ∧ Blk wc w11.heap.size 28 (fA 48 P) ∧ Blk wc w14.heap.size 28 (fA 48 A) ∧ Blk wc w15.heap.size 28 (fA 48 B) ∧ Blk wc w18.heap.size 28 (fA 48 X) ∧ Blk wc w20.heap.size 28 (fA 48 Q) ∧ Blk wc VA.heap.size 28 (fA 48 (fun _ => 0)) ∧ Blk wc VB.heap.size 28 (fA 48 (fun _ => 0)) ∧ Hid (bq = true → cq = 0 ∧ filmOk P = true ∧ filmOk Q = true))
            case first =>
              as_aux_lemma =>
                by_cases hq : cq = 0
                rotate_left
                · have dq : (cq == 0) = false := by simp; omega
                  go_wp2_with fail
                  go_meet
                  case rel => exact ⟨false, rfl, hb, kF, kG, kH, kP, kA, kB, kX, kQ, kL, kR, Lib.hid (fun h => by cases h)⟩
                subst hq
                go_wp2_with (first | (refine wpList_store_new rfl 28 _ _ rfl _ rfl rfl (by kernel_rfl) rfl (all_fA _ _) ?_) | (refine wpList_store_new rfl 26 _ _ rfl _ rfl rfl (by kernel_rfl) rfl (all_fA _ _) ?_) | (refine wpList_load_partW rfl 28 _ rfl 0 48 kP rfl (by decide) Try.underlying28 rfl (by kernel_rfl) ?_))
                rw [rowAt_zero]
                obtain ⟨boP, hoP⟩ : ∃ b, b = filmOk P := ⟨_, rfl⟩
                cases boP with
                | false =>
                  have HoP : Hid (filmOk P = false) := Lib.hid hoP.symm
                  clear hoP
                  refine (iValidFilm_any P _).mono ?_
                  rw [HoP.out]
                  rintro e w43 ⟨rfl, hb1⟩
                  replace kF := kF.below hb1 kF.lt
                  replace kG := kG.below hb1 kG.lt
                  replace kH := kH.below hb1 kH.lt
                  replace kP := kP.below hb1 kP.lt
                  replace kA := kA.below hb1 kA.lt
                  replace kB := kB.below hb1 kB.lt
                  replace kX := kX.below hb1 kX.lt
                  replace kQ := kQ.below hb1 kQ.lt
                  replace kL := kL.below hb1 kL.lt
                  replace kR := kR.below hb1 kR.lt
                  replace hb := bCall hb hb1 hb.size
                  clear hb1
                  dsimp only
                  go_wp2_with fail
                  go_meet
                  case rel => exact ⟨false, rfl, hb, kF, kG, kH, kP, kA, kB, kX, kQ, kL, kR, Lib.hid (fun h => by cases h)⟩
                | true =>
                  have HoP : Hid (filmOk P = true) := Lib.hid hoP.symm
                  clear hoP
                  refine (iValidFilm_any P _).mono ?_
                  rw [HoP.out]
                  rintro e w43 ⟨rfl, hb1⟩
                  replace kF := kF.below hb1 kF.lt
                  replace kG := kG.below hb1 kG.lt
                  replace kH := kH.below hb1 kH.lt
                  replace kP := kP.below hb1 kP.lt
                  replace kA := kA.below hb1 kA.lt
                  replace kB := kB.below hb1 kB.lt
                  replace kX := kX.below hb1 kX.lt
                  replace kQ := kQ.below hb1 kQ.lt
                  replace kL := kL.below hb1 kL.lt
                  replace kR := kR.below hb1 kR.lt
                  replace hb := bCall hb hb1 hb.size
                  clear hb1
                  dsimp only
                  go_wp2_with (first | (refine wpList_store_new rfl 28 _ _ rfl _ rfl rfl (by kernel_rfl) rfl (all_fA _ _) ?_) | (refine wpList_store_new rfl 26 _ _ rfl _ rfl rfl (by kernel_rfl) rfl (all_fA _ _) ?_) | (refine wpList_load_partW rfl 28 _ rfl 0 48 kQ rfl (by decide) Try.underlying28 rfl (by kernel_rfl) ?_))
                  rw [rowAt_zero]
                  obtain ⟨boQ, hoQ⟩ : ∃ b, b = filmOk Q := ⟨_, rfl⟩
                  cases boQ with
                  | false =>
                    have HoQ : Hid (filmOk Q = false) := Lib.hid hoQ.symm
                    clear hoQ
                    refine (iValidFilm_any Q _).mono ?_
                    rw [HoQ.out]
                    rintro e w44 ⟨rfl, hb1⟩
                    replace kF := kF.below hb1 kF.lt
                    replace kG := kG.below hb1 kG.lt
                    replace kH := kH.below hb1 kH.lt
                    replace kP := kP.below hb1 kP.lt
                    replace kA := kA.below hb1 kA.lt
                    replace kB := kB.below hb1 kB.lt
                    replace kX := kX.below hb1 kX.lt
                    replace kQ := kQ.below hb1 kQ.lt
                    replace kL := kL.below hb1 kL.lt
                    replace kR := kR.below hb1 kR.lt
                    replace hb := bCall hb hb1 hb.size
                    clear hb1
                    dsimp only
                    go_wp2_with fail
                    go_meet
                    case rel => exact ⟨false, rfl, hb, kF, kG, kH, kP, kA, kB, kX, kQ, kL, kR, Lib.hid (fun h => by cases h)⟩
                  | true =>
                    have HoQ : Hid (filmOk Q = true) := Lib.hid hoQ.symm
                    clear hoQ
                    refine (iValidFilm_any Q _).mono ?_
                    rw [HoQ.out]
                    rintro e w44 ⟨rfl, hb1⟩
                    replace kF := kF.below hb1 kF.lt
                    replace kG := kG.below hb1 kG.lt
                    replace kH := kH.below hb1 kH.lt
                    replace kP := kP.below hb1 kP.lt
                    replace kA := kA.below hb1 kA.lt
                    replace kB := kB.below hb1 kB.lt
                    replace kX := kX.below hb1 kX.lt
                    replace kQ := kQ.below hb1 kQ.lt
                    replace kL := kL.below hb1 kL.lt
                    replace kR := kR.below hb1 kR.lt
                    replace hb := bCall hb hb1 hb.size
                    clear hb1
                    dsimp only
                    go_wp2_with fail
                    go_meet
                    case rel => exact ⟨true, rfl, hb, kF, kG, kH, kP, kA, kB, kX, kQ, kL, kR, Lib.hid (fun _ => ⟨rfl, HoP.out, HoQ.out⟩)⟩
            case rest =>
            as_aux_lemma =>
              clear hb kF kG kH kP kA kB kX kQ kL kR
              obtain ⟨bq, rfl, hb, kF, kG, kH, kP, kA, kB, kX, kQ, kL, kR, Hbq⟩ := hcut
              go_upto_if 155 with fail
              go_cut [29, 30] from 37 (fun c9 c10 wc => ∃ (L Rr : Nat → Nat) (l9 l10 : Int), c9 = .int .i64 l9 ∧ c10 = .int .i64 l10 ∧ Below w0.heap.size w0 wc ∧ Blk wc w2.heap.size 28 (fA 48 F) ∧ Blk wc w3.heap.size 28 (fA 48 G) ∧ Blk wc w11.heap.size 28 (fA 48 P) ∧ Blk wc w14.heap.size 28 (fA 48 A) ∧ Blk wc w15.heap.size 28 (fA 48 B) ∧ Blk wc w18.heap.size 28 (fA 48 X) ∧ Blk wc VA.heap.size 28 (fA 48 L) ∧ Blk wc VB.heap.size 28 (fA 48 Rr) ∧ Hid (l9 = 0 → l10 = 0 → ∀ i, i < 16 → near (canon .f32 (L i)) (canon .f32 (Rr i)) (canon .f32 1008981770) = true ∧ near (canon .f32 (L (32 + i))) (canon .f32 (Rr (32 + i))) (canon .f32 1008981770) = true))
              case first =>
                as_aux_lemma =>
                  cases bq with
                  | false =>
                    go_wp2_with fail
                    go_meet
                    case rel => exact ⟨fun _ => 0, fun _ => 0, 4, 4, rfl, rfl, hb, kF, kG, kP, kA, kB, kX, kL, kR, Lib.hid fun h => absurd h (by decide)⟩
                  | true =>
                    obtain ⟨rfl, oP, oQ⟩ := Hbq.out rfl
                    have HoP := Lib.hid oP
                    have HoQ := Lib.hid oQ
                    clear oP oQ Hbq
                    go_wp2_with (first | (refine wpList_store_new rfl 28 _ _ rfl _ rfl rfl (by kernel_rfl) rfl (all_fA _ _) ?_) | (refine wpList_store_new rfl 26 _ _ rfl _ rfl rfl (by kernel_rfl) rfl (all_fA _ _) ?_) | (refine wpList_load_row rfl 28 _ rfl _ rfl _ _ (0, 0) _ kP Try.underlying28 rfl (by kernel_rfl) ?_) | (refine wpList_load_row rfl 28 _ rfl _ rfl _ _ (0, 0) _ kH Try.underlying28 rfl (by kernel_rfl) ?_))
                    refine (iAddFilms_any P H _).mono ?_
                    rintro e w21 ⟨L, rfl, hL_, hb1⟩
                    obtain ⟨l9, hl9⟩ : ∃ c, c = (addFilmsRes P H).2 := ⟨_, rfl⟩
                    rw [← hl9]
                    have Hl9 := Lib.hid hl9
                    clear hl9
                    have HL := Lib.hid hL_
                    clear hL_
                    replace kF := kF.below hb1 kF.lt
                    replace kG := kG.below hb1 kG.lt
                    replace kH := kH.below hb1 kH.lt
                    replace kP := kP.below hb1 kP.lt
                    replace kA := kA.below hb1 kA.lt
                    replace kB := kB.below hb1 kB.lt
                    replace kX := kX.below hb1 kX.lt
                    replace kQ := kQ.below hb1 kQ.lt
                    replace kL := kL.below hb1 kL.lt
                    replace kR := kR.below hb1 kR.lt
                    replace hb := bCall hb hb1 hb.size
                    clear hb1
                    dsimp only
                    have kF2 := kF.farRow (g' := VA.heap.size) (cs' := fA 48 L) (by omega)
                    have kG2 := kG.farRow (g' := VA.heap.size) (cs' := fA 48 L) (by omega)
                    have kH2 := kH.farRow (g' := VA.heap.size) (cs' := fA 48 L) (by omega)
                    have kP2 := kP.farRow (g' := VA.heap.size) (cs' := fA 48 L) (by omega)
                    have kA2 := kA.farRow (g' := VA.heap.size) (cs' := fA 48 L) (by omega)
                    have kB2 := kB.farRow (g' := VA.heap.size) (cs' := fA 48 L) (by omega)
                    have kX2 := kX.farRow (g' := VA.heap.size) (cs' := fA 48 L) (by omega)
                    have kQ2 := kQ.farRow (g' := VA.heap.size) (cs' := fA 48 L) (by omega)
                    have kR2 := kR.farRow (g' := VA.heap.size) (cs' := fA 48 L) (by omega)
                    have kL2 := kL.setRow (cs' := fA 48 L)
                    have hb2 := bRow hb hVA0 (fA 48 L)
                    go_wp2_with (first | (refine wpList_store_row rfl 28 _ _ rfl _ _ rfl rfl _ _ kL (by kernel_rfl) (by simp only [size_fA]) (all_fA _ _) ?_) | (refine wpList_load_row rfl 28 _ rfl _ rfl _ _ (0, 0) _ kF2 Try.underlying28 rfl (by kernel_rfl) ?_) | (refine wpList_load_row rfl 28 _ rfl _ rfl _ _ (0, 0) _ kQ2 Try.underlying28 rfl (by kernel_rfl) ?_))
                    clear hb kF kG kH kP kA kB kX kQ kL kR
                    have kF := kF2
                    have kG := kG2
                    have kH := kH2
                    have kP := kP2
                    have kA := kA2
                    have kB := kB2
                    have kX := kX2
                    have kQ := kQ2
                    have kL := kL2
                    have kR := kR2
                    have hb := hb2
                    clear hb2 kF2 kG2 kH2 kP2 kA2 kB2 kX2 kQ2 kL2 kR2
                    skip
                    refine (iAddFilms_any F Q _).mono ?_
                    rintro e w22 ⟨Rr, rfl, hRr_, hb1⟩
                    obtain ⟨l10, hl10⟩ : ∃ c, c = (addFilmsRes F Q).2 := ⟨_, rfl⟩
                    rw [← hl10]
                    have Hl10 := Lib.hid hl10
                    clear hl10
                    have HRr := Lib.hid hRr_
                    clear hRr_
                    replace kF := kF.below hb1 kF.lt
                    replace kG := kG.below hb1 kG.lt
                    replace kH := kH.below hb1 kH.lt
                    replace kP := kP.below hb1 kP.lt
                    replace kA := kA.below hb1 kA.lt
                    replace kB := kB.below hb1 kB.lt
                    replace kX := kX.below hb1 kX.lt
                    replace kQ := kQ.below hb1 kQ.lt
                    replace kL := kL.below hb1 kL.lt
                    replace kR := kR.below hb1 kR.lt
                    replace hb := bCall hb hb1 hb.size
                    clear hb1
                    dsimp only
                    go_wp2_with (first | (refine wpList_store_row rfl 28 _ _ rfl _ _ rfl rfl _ _ kR (by kernel_rfl) (by simp only [size_fA]) (all_fA _ _) ?_))
                    go_meet
                    case rel => exact ⟨L, Rr, l9, l10, rfl, rfl, bRow hb (by omega) _, kF.farRow (g' := VB.heap.size) (cs' := fA 48 Rr) (by omega), kG.farRow (g' := VB.heap.size) (cs' := fA 48 Rr) (by omega), kP.farRow (g' := VB.heap.size) (cs' := fA 48 Rr) (by omega), kA.farRow (g' := VB.heap.size) (cs' := fA 48 Rr) (by omega), kB.farRow (g' := VB.heap.size) (cs' := fA 48 Rr) (by omega), kX.farRow (g' := VB.heap.size) (cs' := fA 48 Rr) (by omega), kL.farRow (g' := VB.heap.size) (cs' := fA 48 Rr) (by omega), kR.setRow, Lib.hid fun h9 h10 => films_assoc HF.out HG.out HH.out HLow.out HP.out HQ.out Hcq.out.symm HS1.out HoP.out HoQ.out HL.out HRr.out (Hl9.out.symm.trans h9) (Hl10.out.symm.trans h10)⟩
              case rest =>
              as_aux_lemma =>
                clear hb Hbq kF kG kH kP kA kB kX kQ kL kR
                obtain ⟨L, Rr, l9, l10, rfl, rfl, hb, kF, kG, kP, kA, kB, kX, kL, kR, HN⟩ := hcut
                clear lt_kF lt_kG lt_kH lt_kP lt_kA lt_kB lt_kX lt_kQ
                clear hVA0 hAB
                go_wp2_with fail
                go_loopw [31] (fun i wr => ∃ (j : Nat), j ≤ 16 ∧ i = .int .i64 j ∧ Below w0.heap.size w0 wr ∧ Blk wr w2.heap.size 28 (fA 48 F) ∧ Blk wr w3.heap.size 28 (fA 48 G) ∧ Blk wr w11.heap.size 28 (fA 48 P) ∧ Blk wr w14.heap.size 28 (fA 48 A) ∧ Blk wr w15.heap.size 28 (fA 48 B) ∧ Blk wr w18.heap.size 28 (fA 48 X) ∧ Blk wr VA.heap.size 28 (fA 48 L) ∧ Blk wr VB.heap.size 28 (fA 48 Rr)) (fun i _ => 16 - (intOf i).toNat)
                case atStart => exact ⟨0, by omega, rfl, hb, kF, kG, kP, kA, kB, kX, kL, kR⟩
                case round =>
                  as_aux_lemma =>
                    clear hb kF kG kP kA kB kX kL kR
                    obtain ⟨j, hj, rfl, hb, kF, kG, kP, kA, kB, kX, kL, kR⟩ := hrel
                    by_cases hlt : j < 16
                    · have n1 : near (canon .f32 (A j)) (canon .f32 (F j)) (canon .f32 953267991) = true := by rw [HA.out j (by omega)]; exact near_sameV ((empty_over HE.out HF.out).2 j (by omega)) fe4_is fe4_pos
                      have n2 : near (canon .f32 (A (32 + j))) (canon .f32 (F (32 + j))) (canon .f32 953267991) = true := by rw [HA.out (32 + j) (by omega)]; exact near_sameV ((empty_over HE.out HF.out).2 (32 + j) (by omega)) fe4_is fe4_pos
                      have n3 : near (canon .f32 (B (16 + j))) (canon .f32 (F (16 + j))) (canon .f32 953267991) = true := by rw [HB.out (16 + j) (by omega)]; exact near_sameV ((over_empty HE.out HF.out).2 (16 + j) (by omega)) fe4_is fe4_pos
                      have n4 : near (canon .f32 (X j)) (canon .f32 (P (16 + j))) (canon .f32 981668463) = true := by rw [HX.out j (by omega), HP.out (16 + j) (by omega)]; exact (TT.out.2 j hlt).1
                      have n5 : near (canon .f32 (X (32 + j))) (canon .f32 (P (32 + j))) (canon .f32 981668463) = true := by rw [HX.out (32 + j) (by omega), HP.out (32 + j) (by omega)]; exact (TT.out.2 j hlt).2
                      go_wp2_with fail
                      refine wp_region_hr (fun f args u => u = .bool true) (by kernel_rfl) (by kernel_rfl) ?_
                      (refine hr_plain rfl (fun K hK w1 hw1 => ?_); go_simp; refine ⟨R.refl _, hK _ _ ?_⟩; clear hK K)
                      (refine hr_plain rfl (fun K hK w1 hw1 => ?_); go_simp; refine ⟨R.refl _, hK _ _ ?_⟩; clear hK K)
                      (refine hr_plain rfl (fun K hK w1 hw1 => ?_); go_simp; refine ⟨R.refl _, hK _ _ ?_⟩; clear hK K)
                      (refine (hr_plain (rfl) (fun K hK w1 hw1 => ?_)); have c1 := ((Blk.below kA hw1 kA.lt).cell j).trans (get_fA_lt A (by omega)); go_simp; refine ⟨R.refl _, hK _ _ ?_⟩; clear hK K)
                      (refine hr_plain rfl (fun K hK w1 hw1 => ?_); go_simp; refine ⟨R.refl _, hK _ _ ?_⟩; clear hK K)
                      (refine hr_plain rfl (fun K hK w1 hw1 => ?_); go_simp; refine ⟨R.refl _, hK _ _ ?_⟩; clear hK K)
                      (refine hr_plain rfl (fun K hK w1 hw1 => ?_); go_simp; refine ⟨R.refl _, hK _ _ ?_⟩; clear hK K)
                      (refine (hr_plain (rfl) (fun K hK w1 hw1 => ?_)); have c1 := ((Blk.below kF hw1 kF.lt).cell j).trans (get_fA_lt F (by omega)); go_simp; refine ⟨R.refl _, hK _ _ ?_⟩; clear hK K)
                      refine (hr_plain rfl (fun K hK w1 hw1 => ?_)); go_simp; refine ⟨R.refl _, (a2Near_yes _ _ _ n1 _).mono ?_, fun u hu => hK _ _ ?_⟩; (rintro e w' ⟨rfl, hb⟩; exact ⟨_, rfl, rfl, hb.below0⟩); clear hK K; obtain rfl := hu
                      (refine hr_plain rfl (fun K hK w1 hw1 => ?_); go_simp; refine ⟨R.refl _, hK _ _ ?_⟩; clear hK K)
                      (refine hr_plain rfl (fun K hK w1 hw1 => ?_); go_simp; refine ⟨R.refl _, hK _ _ ?_⟩; clear hK K)
                      (refine (hr_want (by kernel_rfl) (fun K hK w1 hw1 => ?_)); go_simp; refine ⟨R.refl _, hK _ _ ?_⟩; clear hK K)
                      (refine (hr_want (by kernel_rfl) (fun K hK w1 hw1 => ?_)); go_simp; refine ⟨R.refl _, hK _ _ ?_⟩; clear hK K)
                      (refine (hr_want (by kernel_rfl) (fun K hK w1 hw1 => ?_)); go_simp; refine ⟨R.refl _, hK _ _ ?_⟩; clear hK K)
                      (refine (hr_want (by kernel_rfl) (fun K hK w1 hw1 => ?_)); have c1 := ((Blk.below kA hw1 kA.lt).cell (32 + j)).trans (get_fA_lt A (by omega)); go_simp; refine ⟨R.refl _, hK _ _ ?_⟩; clear hK K)
                      (refine (hr_want (by kernel_rfl) (fun K hK w1 hw1 => ?_)); go_simp; refine ⟨R.refl _, hK _ _ ?_⟩; clear hK K)
                      (refine (hr_want (by kernel_rfl) (fun K hK w1 hw1 => ?_)); go_simp; refine ⟨R.refl _, hK _ _ ?_⟩; clear hK K)
                      (refine (hr_want (by kernel_rfl) (fun K hK w1 hw1 => ?_)); go_simp; refine ⟨R.refl _, hK _ _ ?_⟩; clear hK K)
                      (refine (hr_want (by kernel_rfl) (fun K hK w1 hw1 => ?_)); have c1 := ((Blk.below kF hw1 kF.lt).cell (32 + j)).trans (get_fA_lt F (by omega)); go_simp; refine ⟨R.refl _, hK _ _ ?_⟩; clear hK K)
                      refine (hr_want (by kernel_rfl) (fun K hK w1 hw1 => ?_)); go_simp; refine ⟨R.refl _, (a2Near_yes _ _ _ n2 _).mono ?_, fun u hu => hK _ _ ?_⟩; (rintro e w' ⟨rfl, hb⟩; exact ⟨_, rfl, rfl, hb.below0⟩); clear hK K; obtain rfl := hu
                      (refine (hr_want (by kernel_rfl) (fun K hK w1 hw1 => ?_)); go_simp; refine ⟨R.refl _, hK _ _ ?_⟩; clear hK K)
                      (refine hr_plain rfl (fun K hK w1 hw1 => ?_); go_simp; refine ⟨R.refl _, hK _ _ ?_⟩; clear hK K)
                      (refine hr_plain rfl (fun K hK w1 hw1 => ?_); go_simp; refine ⟨R.refl _, hK _ _ ?_⟩; clear hK K)
                      (refine (hr_want (by kernel_rfl) (fun K hK w1 hw1 => ?_)); go_simp; refine ⟨R.refl _, hK _ _ ?_⟩; clear hK K)
                      (refine (hr_want (by kernel_rfl) (fun K hK w1 hw1 => ?_)); go_simp; refine ⟨R.refl _, hK _ _ ?_⟩; clear hK K)
                      (refine (hr_want (by kernel_rfl) (fun K hK w1 hw1 => ?_)); go_simp; refine ⟨R.refl _, hK _ _ ?_⟩; clear hK K)
                      (refine (hr_want (by kernel_rfl) (fun K hK w1 hw1 => ?_)); have c1 := ((Blk.below kB hw1 kB.lt).cell (16 + j)).trans (get_fA_lt B (by omega)); go_simp; refine ⟨R.refl _, hK _ _ ?_⟩; clear hK K)
                      (refine (hr_want (by kernel_rfl) (fun K hK w1 hw1 => ?_)); go_simp; refine ⟨R.refl _, hK _ _ ?_⟩; clear hK K)
                      (refine (hr_want (by kernel_rfl) (fun K hK w1 hw1 => ?_)); go_simp; refine ⟨R.refl _, hK _ _ ?_⟩; clear hK K)
                      (refine (hr_want (by kernel_rfl) (fun K hK w1 hw1 => ?_)); go_simp; refine ⟨R.refl _, hK _ _ ?_⟩; clear hK K)
                      (refine (hr_want (by kernel_rfl) (fun K hK w1 hw1 => ?_)); have c1 := ((Blk.below kF hw1 kF.lt).cell (16 + j)).trans (get_fA_lt F (by omega)); go_simp; refine ⟨R.refl _, hK _ _ ?_⟩; clear hK K)
                      refine (hr_want (by kernel_rfl) (fun K hK w1 hw1 => ?_)); go_simp; refine ⟨R.refl _, (a2Near_yes _ _ _ n3 _).mono ?_, fun u hu => hK _ _ ?_⟩; (rintro e w' ⟨rfl, hb⟩; exact ⟨_, rfl, rfl, hb.below0⟩); clear hK K; obtain rfl := hu
                      (refine (hr_want (by kernel_rfl) (fun K hK w1 hw1 => ?_)); go_simp; refine ⟨R.refl _, hK _ _ ?_⟩; clear hK K)
                      (refine hr_plain rfl (fun K hK w1 hw1 => ?_); go_simp; refine ⟨R.refl _, hK _ _ ?_⟩; clear hK K)
                      (refine hr_plain rfl (fun K hK w1 hw1 => ?_); go_simp; refine ⟨R.refl _, hK _ _ ?_⟩; clear hK K)
                      (refine (hr_want (by kernel_rfl) (fun K hK w1 hw1 => ?_)); go_simp; refine ⟨R.refl _, hK _ _ ?_⟩; clear hK K)
                      (refine (hr_want (by kernel_rfl) (fun K hK w1 hw1 => ?_)); go_simp; refine ⟨R.refl _, hK _ _ ?_⟩; clear hK K)
                      (refine (hr_want (by kernel_rfl) (fun K hK w1 hw1 => ?_)); go_simp; refine ⟨R.refl _, hK _ _ ?_⟩; clear hK K)
                      (refine (hr_want (by kernel_rfl) (fun K hK w1 hw1 => ?_)); have c1 := ((Blk.below kX hw1 kX.lt).cell j).trans (get_fA_lt X (by omega)); go_simp; refine ⟨R.refl _, hK _ _ ?_⟩; clear hK K)
                      (refine (hr_want (by kernel_rfl) (fun K hK w1 hw1 => ?_)); go_simp; refine ⟨R.refl _, hK _ _ ?_⟩; clear hK K)
                      (refine (hr_want (by kernel_rfl) (fun K hK w1 hw1 => ?_)); go_simp; refine ⟨R.refl _, hK _ _ ?_⟩; clear hK K)
                      (refine (hr_want (by kernel_rfl) (fun K hK w1 hw1 => ?_)); go_simp; refine ⟨R.refl _, hK _ _ ?_⟩; clear hK K)
                      (refine (hr_want (by kernel_rfl) (fun K hK w1 hw1 => ?_)); have c1 := ((Blk.below kP hw1 kP.lt).cell (16 + j)).trans (get_fA_lt P (by omega)); go_simp; refine ⟨R.refl _, hK _ _ ?_⟩; clear hK K)
                      refine (hr_want (by kernel_rfl) (fun K hK w1 hw1 => ?_)); go_simp; refine ⟨R.refl _, (a2Near_yes _ _ _ n4 _).mono ?_, fun u hu => hK _ _ ?_⟩; (rintro e w' ⟨rfl, hb⟩; exact ⟨_, rfl, rfl, hb.below0⟩); clear hK K; obtain rfl := hu
                      (refine (hr_want (by kernel_rfl) (fun K hK w1 hw1 => ?_)); go_simp; refine ⟨R.refl _, hK _ _ ?_⟩; clear hK K)
                      (refine hr_plain rfl (fun K hK w1 hw1 => ?_); go_simp; refine ⟨R.refl _, hK _ _ ?_⟩; clear hK K)
                      (refine hr_plain rfl (fun K hK w1 hw1 => ?_); go_simp; refine ⟨R.refl _, hK _ _ ?_⟩; clear hK K)
                      (refine (hr_want (by kernel_rfl) (fun K hK w1 hw1 => ?_)); go_simp; refine ⟨R.refl _, hK _ _ ?_⟩; clear hK K)
                      (refine (hr_want (by kernel_rfl) (fun K hK w1 hw1 => ?_)); go_simp; refine ⟨R.refl _, hK _ _ ?_⟩; clear hK K)
                      (refine (hr_want (by kernel_rfl) (fun K hK w1 hw1 => ?_)); go_simp; refine ⟨R.refl _, hK _ _ ?_⟩; clear hK K)
                      (refine (hr_want (by kernel_rfl) (fun K hK w1 hw1 => ?_)); have c1 := ((Blk.below kX hw1 kX.lt).cell (32 + j)).trans (get_fA_lt X (by omega)); go_simp; refine ⟨R.refl _, hK _ _ ?_⟩; clear hK K)
                      (refine (hr_want (by kernel_rfl) (fun K hK w1 hw1 => ?_)); go_simp; refine ⟨R.refl _, hK _ _ ?_⟩; clear hK K)
                      (refine (hr_want (by kernel_rfl) (fun K hK w1 hw1 => ?_)); go_simp; refine ⟨R.refl _, hK _ _ ?_⟩; clear hK K)
                      (refine (hr_want (by kernel_rfl) (fun K hK w1 hw1 => ?_)); go_simp; refine ⟨R.refl _, hK _ _ ?_⟩; clear hK K)
                      (refine (hr_want (by kernel_rfl) (fun K hK w1 hw1 => ?_)); have c1 := ((Blk.below kP hw1 kP.lt).cell (32 + j)).trans (get_fA_lt P (by omega)); go_simp; refine ⟨R.refl _, hK _ _ ?_⟩; clear hK K)
                      refine (hr_want (by kernel_rfl) (fun K hK w1 hw1 => ?_)); go_simp; refine ⟨R.refl _, (a2Near_yes _ _ _ n5 _).mono ?_, fun u hu => hK _ _ ?_⟩; (rintro e w' ⟨rfl, hb⟩; exact ⟨_, rfl, rfl, hb.below0⟩); clear hK K; obtain rfl := hu
                      (refine (hr_want (by kernel_rfl) (fun K hK w1 hw1 => ?_)); go_simp; refine ⟨R.refl _, hK _ _ ?_⟩; clear hK K)
                      (refine hr_plain rfl (fun K hK w1 hw1 => ?_); go_simp; refine ⟨R.refl _, hK _ _ ?_⟩; clear hK K)
                      refine hr_nil ?_
                      intro W2 hW1 hSS
                      clear hSS
                      replace kF := kF.below hW1 kF.lt
                      replace kG := kG.below hW1 kG.lt
                      replace kP := kP.below hW1 kP.lt
                      replace kA := kA.below hW1 kA.lt
                      replace kB := kB.below hW1 kB.lt
                      replace kX := kX.below hW1 kX.lt
                      replace kL := kL.below hW1 kL.lt
                      replace kR := kR.below hW1 kR.lt
                      replace hb := bCall hb hW1 hb.size
                      clear hW1
                      clear n1 n2 n3 n4 n5
                      as_aux_lemma =>
                        go_wp2_with fail
                        by_cases h9 : l9 = 0
                        · by_cases h10 : l10 = 0
                          · have n6 := (HN.out h9 h10 j hlt).2
                            have n7 := (HN.out h9 h10 j hlt).1
                            subst h9
                            subst h10
                            refine wp_region_hr (fun f args u => u = .bool true) (by kernel_rfl) (by kernel_rfl) ?_
                            (refine hr_plain rfl (fun K hK w1 hw1 => ?_); go_simp; refine ⟨R.refl _, hK _ _ ?_⟩; clear hK K)
                            (refine hr_plain rfl (fun K hK w1 hw1 => ?_); go_simp; refine ⟨R.refl _, hK _ _ ?_⟩; clear hK K)
                            (refine hr_plain rfl (fun K hK w1 hw1 => ?_); go_simp; refine ⟨R.refl _, hK _ _ ?_⟩; clear hK K)
                            (refine (hr_want (by kernel_rfl) (fun K hK w1 hw1 => ?_)); go_simp; refine ⟨R.refl _, hK _ _ ?_⟩; clear hK K)
                            (refine (hr_want (by kernel_rfl) (fun K hK w1 hw1 => ?_)); go_simp; refine ⟨R.refl _, hK _ _ ?_⟩; clear hK K)
                            (refine hr_plain rfl (fun K hK w1 hw1 => ?_); go_simp; refine ⟨R.refl _, hK _ _ ?_⟩; clear hK K)
                            (refine hr_plain rfl (fun K hK w1 hw1 => ?_); go_simp; refine ⟨R.refl _, hK _ _ ?_⟩; clear hK K)
                            (refine (hr_want (by kernel_rfl) (fun K hK w1 hw1 => ?_)); go_simp; refine ⟨R.refl _, hK _ _ ?_⟩; clear hK K)
                            (refine (hr_want (by kernel_rfl) (fun K hK w1 hw1 => ?_)); go_simp; refine ⟨R.refl _, hK _ _ ?_⟩; clear hK K)
                            (refine (hr_want (by kernel_rfl) (fun K hK w1 hw1 => ?_)); go_simp; refine ⟨R.refl _, hK _ _ ?_⟩; clear hK K)
                            (refine (hr_want (by kernel_rfl) (fun K hK w1 hw1 => ?_)); have c1 := ((Blk.below kL hw1 kL.lt).cell (32 + j)).trans (get_fA_lt L (by omega)); go_simp; refine ⟨R.refl _, hK _ _ ?_⟩; clear hK K)
                            (refine (hr_want (by kernel_rfl) (fun K hK w1 hw1 => ?_)); go_simp; refine ⟨R.refl _, hK _ _ ?_⟩; clear hK K)
                            (refine (hr_want (by kernel_rfl) (fun K hK w1 hw1 => ?_)); go_simp; refine ⟨R.refl _, hK _ _ ?_⟩; clear hK K)
                            (refine (hr_want (by kernel_rfl) (fun K hK w1 hw1 => ?_)); go_simp; refine ⟨R.refl _, hK _ _ ?_⟩; clear hK K)
                            (refine (hr_want (by kernel_rfl) (fun K hK w1 hw1 => ?_)); have c1 := ((Blk.below kR hw1 kR.lt).cell (32 + j)).trans (get_fA_lt Rr (by omega)); go_simp; refine ⟨R.refl _, hK _ _ ?_⟩; clear hK K)
                            refine (hr_want (by kernel_rfl) (fun K hK w1 hw1 => ?_)); go_simp; refine ⟨R.refl _, (a2Near_yes _ _ _ n6 _).mono ?_, fun u hu => hK _ _ ?_⟩; (rintro e w' ⟨rfl, hb⟩; exact ⟨_, rfl, rfl, hb.below0⟩); clear hK K; obtain rfl := hu
                            (refine (hr_want (by kernel_rfl) (fun K hK w1 hw1 => ?_)); go_simp; refine ⟨R.refl _, hK _ _ ?_⟩; clear hK K)
                            (refine (hr_want (by kernel_rfl) (fun K hK w1 hw1 => ?_)); go_simp; refine ⟨R.refl _, hK _ _ ?_⟩; clear hK K)
                            (refine (hr_want (by kernel_rfl) (fun K hK w1 hw1 => ?_)); go_simp; refine ⟨R.refl _, hK _ _ ?_⟩; clear hK K)
                            (refine (hr_want (by kernel_rfl) (fun K hK w1 hw1 => ?_)); go_simp; refine ⟨R.refl _, hK _ _ ?_⟩; clear hK K)
                            (refine (hr_want (by kernel_rfl) (fun K hK w1 hw1 => ?_)); go_simp; refine ⟨R.refl _, hK _ _ ?_⟩; clear hK K)
                            (refine (hr_want (by kernel_rfl) (fun K hK w1 hw1 => ?_)); have c1 := ((Blk.below kL hw1 kL.lt).cell j).trans (get_fA_lt L (by omega)); go_simp; refine ⟨R.refl _, hK _ _ ?_⟩; clear hK K)
                            (refine (hr_want (by kernel_rfl) (fun K hK w1 hw1 => ?_)); go_simp; refine ⟨R.refl _, hK _ _ ?_⟩; clear hK K)
                            (refine (hr_want (by kernel_rfl) (fun K hK w1 hw1 => ?_)); go_simp; refine ⟨R.refl _, hK _ _ ?_⟩; clear hK K)
                            (refine (hr_want (by kernel_rfl) (fun K hK w1 hw1 => ?_)); go_simp; refine ⟨R.refl _, hK _ _ ?_⟩; clear hK K)
                            (refine (hr_want (by kernel_rfl) (fun K hK w1 hw1 => ?_)); have c1 := ((Blk.below kR hw1 kR.lt).cell j).trans (get_fA_lt Rr (by omega)); go_simp; refine ⟨R.refl _, hK _ _ ?_⟩; clear hK K)
                            refine (hr_want (by kernel_rfl) (fun K hK w1 hw1 => ?_)); go_simp; refine ⟨R.refl _, (a2Near_yes _ _ _ n7 _).mono ?_, fun u hu => hK _ _ ?_⟩; (rintro e w' ⟨rfl, hb⟩; exact ⟨_, rfl, rfl, hb.below0⟩); clear hK K; obtain rfl := hu
                            (refine (hr_want (by kernel_rfl) (fun K hK w1 hw1 => ?_)); go_simp; refine ⟨R.refl _, hK _ _ ?_⟩; clear hK K)
                            (refine (hr_want (by kernel_rfl) (fun K hK w1 hw1 => ?_)); go_simp; refine ⟨R.refl _, hK _ _ ?_⟩; clear hK K)
                            (refine hr_plain rfl (fun K hK w1 hw1 => ?_); go_simp; refine ⟨R.refl _, hK _ _ ?_⟩; clear hK K)
                            refine hr_nil ?_
                            intro W2 hW1 hSS
                            clear hSS
                            replace kF := kF.below hW1 kF.lt
                            replace kG := kG.below hW1 kG.lt
                            replace kP := kP.below hW1 kP.lt
                            replace kA := kA.below hW1 kA.lt
                            replace kB := kB.below hW1 kB.lt
                            replace kX := kX.below hW1 kX.lt
                            replace kL := kL.below hW1 kL.lt
                            replace kR := kR.below hW1 kR.lt
                            replace hb := bCall hb hW1 hb.size
                            clear hW1
                            clear n6 n7
                            go_wp2
                            go_roundw
                            case rel => exact ⟨j + 1, by omega, by go_num, hb, kF, kG, kP, kA, kB, kX, kL, kR⟩
                            case measure => simp [intOf]; omega
                          · have d10 : (l10 == 0) = false := by simp; omega
                            subst h9
                            refine wp_region_hr (fun f args u => u = .bool true) (by kernel_rfl) (by kernel_rfl) ?_
                            (refine hr_plain rfl (fun K hK w1 hw1 => ?_); go_simp; refine ⟨R.refl _, hK _ _ ?_⟩; clear hK K)
                            (refine hr_plain rfl (fun K hK w1 hw1 => ?_); go_simp; refine ⟨R.refl _, hK _ _ ?_⟩; clear hK K)
                            (refine hr_plain rfl (fun K hK w1 hw1 => ?_); go_simp; refine ⟨R.refl _, hK _ _ ?_⟩; clear hK K)
                            (refine (hr_want (by kernel_rfl) (fun K hK w1 hw1 => ?_)); go_simp; refine ⟨R.refl _, hK _ _ ?_⟩; clear hK K)
                            (refine (hr_want (by kernel_rfl) (fun K hK w1 hw1 => ?_)); go_simp; refine ⟨R.refl _, hK _ _ ?_⟩; clear hK K)
                            (refine hr_plain rfl (fun K hK w1 hw1 => ?_); go_simp; refine ⟨R.refl _, hK _ _ ?_⟩; clear hK K)
                            (refine hr_plain rfl (fun K hK w1 hw1 => ?_); go_simp; refine ⟨R.refl _, hK _ _ ?_⟩; clear hK K)
                            (refine (hr_skip (by kernel_rfl) ?_); go_frame)
                            (refine (hr_skip (by kernel_rfl) ?_); go_frame)
                            (refine (hr_skip (by kernel_rfl) ?_); go_frame)
                            (refine (hr_skip (by kernel_rfl) ?_); go_frame)
                            (refine (hr_skip (by kernel_rfl) ?_); go_frame)
                            (refine (hr_skip (by kernel_rfl) ?_); go_frame)
                            (refine (hr_skip (by kernel_rfl) ?_); go_frame)
                            (refine (hr_skip (by kernel_rfl) ?_); go_frame)
                            (refine (hr_skip (by kernel_rfl) ?_); go_frame)
                            (refine (hr_skip (by kernel_rfl) ?_); go_frame)
                            (refine (hr_skip (by kernel_rfl) ?_); go_frame)
                            (refine (hr_skip (by kernel_rfl) ?_); go_frame)
                            (refine (hr_skip (by kernel_rfl) ?_); go_frame)
                            (refine (hr_skip (by kernel_rfl) ?_); go_frame)
                            (refine (hr_skip (by kernel_rfl) ?_); go_frame)
                            (refine (hr_skip (by kernel_rfl) ?_); go_frame)
                            (refine (hr_skip (by kernel_rfl) ?_); go_frame)
                            (refine (hr_skip (by kernel_rfl) ?_); go_frame)
                            (refine (hr_skip (by kernel_rfl) ?_); go_frame)
                            (refine (hr_skip (by kernel_rfl) ?_); go_frame)
                            (refine (hr_skip (by kernel_rfl) ?_); go_frame)
                            (refine (hr_skip (by kernel_rfl) ?_); go_frame)
                            (refine hr_plain rfl (fun K hK w1 hw1 => ?_); go_simp; refine ⟨R.refl _, hK _ _ ?_⟩; clear hK K)
                            refine hr_nil ?_
                            intro W2 hW1 hSS
                            clear hSS
                            replace kF := kF.below hW1 kF.lt
                            replace kG := kG.below hW1 kG.lt
                            replace kP := kP.below hW1 kP.lt
                            replace kA := kA.below hW1 kA.lt
                            replace kB := kB.below hW1 kB.lt
                            replace kX := kX.below hW1 kX.lt
                            replace kL := kL.below hW1 kL.lt
                            replace kR := kR.below hW1 kR.lt
                            replace hb := bCall hb hW1 hb.size
                            clear hW1
                            clear d10
                            go_wp2
                            go_roundw
                            case rel => exact ⟨j + 1, by omega, by go_num, hb, kF, kG, kP, kA, kB, kX, kL, kR⟩
                            case measure => simp [intOf]; omega
                        · have d9 : (l9 == 0) = false := by simp; omega
                          refine wp_region_hr (fun f args u => u = .bool true) (by kernel_rfl) (by kernel_rfl) ?_
                          (refine hr_plain rfl (fun K hK w1 hw1 => ?_); go_simp; refine ⟨R.refl _, hK _ _ ?_⟩; clear hK K)
                          (refine hr_plain rfl (fun K hK w1 hw1 => ?_); go_simp; refine ⟨R.refl _, hK _ _ ?_⟩; clear hK K)
                          (refine hr_plain rfl (fun K hK w1 hw1 => ?_); go_simp; refine ⟨R.refl _, hK _ _ ?_⟩; clear hK K)
                          (refine (hr_skip (by kernel_rfl) ?_); go_frame)
                          (refine (hr_skip (by kernel_rfl) ?_); go_frame)
                          (refine hr_plain rfl (fun K hK w1 hw1 => ?_); go_simp; refine ⟨R.refl _, hK _ _ ?_⟩; clear hK K)
                          (refine hr_plain rfl (fun K hK w1 hw1 => ?_); go_simp; refine ⟨R.refl _, hK _ _ ?_⟩; clear hK K)
                          (refine (hr_skip (by kernel_rfl) ?_); go_frame)
                          (refine (hr_skip (by kernel_rfl) ?_); go_frame)
                          (refine (hr_skip (by kernel_rfl) ?_); go_frame)
                          (refine (hr_skip (by kernel_rfl) ?_); go_frame)
                          (refine (hr_skip (by kernel_rfl) ?_); go_frame)
                          (refine (hr_skip (by kernel_rfl) ?_); go_frame)
                          (refine (hr_skip (by kernel_rfl) ?_); go_frame)
                          (refine (hr_skip (by kernel_rfl) ?_); go_frame)
                          (refine (hr_skip (by kernel_rfl) ?_); go_frame)
                          (refine (hr_skip (by kernel_rfl) ?_); go_frame)
                          (refine (hr_skip (by kernel_rfl) ?_); go_frame)
                          (refine (hr_skip (by kernel_rfl) ?_); go_frame)
                          (refine (hr_skip (by kernel_rfl) ?_); go_frame)
                          (refine (hr_skip (by kernel_rfl) ?_); go_frame)
                          (refine (hr_skip (by kernel_rfl) ?_); go_frame)
                          (refine (hr_skip (by kernel_rfl) ?_); go_frame)
                          (refine (hr_skip (by kernel_rfl) ?_); go_frame)
                          (refine (hr_skip (by kernel_rfl) ?_); go_frame)
                          (refine (hr_skip (by kernel_rfl) ?_); go_frame)
                          (refine (hr_skip (by kernel_rfl) ?_); go_frame)
                          (refine (hr_skip (by kernel_rfl) ?_); go_frame)
                          (refine (hr_skip (by kernel_rfl) ?_); go_frame)
                          (refine hr_plain rfl (fun K hK w1 hw1 => ?_); go_simp; refine ⟨R.refl _, hK _ _ ?_⟩; clear hK K)
                          refine hr_nil ?_
                          intro W2 hW1 hSS
                          clear hSS
                          replace kF := kF.below hW1 kF.lt
                          replace kG := kG.below hW1 kG.lt
                          replace kP := kP.below hW1 kP.lt
                          replace kA := kA.below hW1 kA.lt
                          replace kB := kB.below hW1 kB.lt
                          replace kX := kX.below hW1 kX.lt
                          replace kL := kL.below hW1 kL.lt
                          replace kR := kR.below hW1 kR.lt
                          replace hb := bCall hb hW1 hb.size
                          clear hW1
                          clear d9
                          go_wp2
                          go_roundw
                          case rel => exact ⟨j + 1, by omega, by go_num, hb, kF, kG, kP, kA, kB, kX, kL, kR⟩
                          case measure => simp [intOf]; omega
                    · obtain rfl : j = 16 := by omega
                      as_aux_lemma =>
                        clear HN kP kA kB kX kL kR
                        have kG0 := kG
                        replace kF := kF.alloc (.cells (fA 16 (rowAt G 0)) 26)
                        replace kG := kG.alloc (.cells (fA 16 (rowAt G 0)) 26)
                        have kK : Blk (wr.alloc (.cells (fA 16 (rowAt G 0)) 26)) wr.heap.size 26 (fA 16 (rowAt G 0)) := Blk.new _ _ _
                        replace hb : Below w0.heap.size w0 (wr.alloc (.cells (fA 16 (rowAt G 0)) 26)) := hb.alloc hb.size _
                        go_wp2_with (first | (refine wpList_store_new rfl 28 _ _ rfl _ rfl rfl (by kernel_rfl) rfl (all_fA _ _) ?_) | (refine wpList_store_new rfl 26 _ _ rfl _ rfl rfl (by kernel_rfl) rfl (all_fA _ _) ?_) | (refine wpList_load_partW rfl 26 _ rfl 0 16 kG0 rfl (by decide) Try.underlying26 rfl (by kernel_rfl) ?_) | (refine wpList_load_row rfl 28 _ rfl _ rfl _ _ (0, 0) _ kF Try.underlying28 rfl (by kernel_rfl) ?_) | (refine wpList_load_row rfl 26 _ rfl _ rfl _ _ (0, 0) _ kK Try.underlying26 rfl (by kernel_rfl) ?_))
                        refine (iOverBacking_any F (rowAt G 0) _).mono ?_
                        rintro e w23 ⟨O, rfl, hO_, hb1⟩
                        obtain ⟨co, hco⟩ : ∃ c, c = (overBackingRes F (rowAt G 0)).2 := ⟨_, rfl⟩
                        rw [← hco]
                        have Hco := Lib.hid hco
                        clear hco
                        have HO := Lib.hid hO_
                        clear hO_
                        replace kF := kF.below hb1 kF.lt
                        replace kG := kG.below hb1 kG.lt
                        replace kK := kK.below hb1 kK.lt
                        replace hb := bCall hb hb1 hb.size
                        clear hb1
                        clear kG0
                        replace kF := kF.alloc (.cells (fA 16 O) 26)
                        replace kG := kG.alloc (.cells (fA 16 O) 26)
                        replace kK := kK.alloc (.cells (fA 16 O) 26)
                        have kO : Blk (w23.alloc (.cells (fA 16 O) 26)) w23.heap.size 26 (fA 16 O) := Blk.new _ _ _
                        replace hb : Below w0.heap.size w0 (w23.alloc (.cells (fA 16 O) 26)) := hb.alloc hb.size _
                        go_wp2_with (first | (refine wpList_store_new rfl 28 _ _ rfl _ rfl rfl (by kernel_rfl) rfl (all_fA _ _) ?_) | (refine wpList_store_new rfl 26 _ _ rfl _ rfl rfl (by kernel_rfl) rfl (all_fA _ _) ?_) | (refine wpList_load_row rfl 28 _ rfl _ rfl _ _ (0, 0) _ kF Try.underlying28 rfl (by kernel_rfl) ?_) | (refine wpList_load_row rfl 26 _ rfl _ rfl _ _ (0, 0) _ kK Try.underlying26 rfl (by kernel_rfl) ?_))
                        refine (sOverBacking_any F (rowAt G 0) _).mono ?_
                        rintro e w24 ⟨Y, rfl, hY_, hb1⟩
                        rw [← Hco.out]
                        have HY := Lib.hid hY_
                        clear hY_
                        replace kF := kF.below hb1 kF.lt
                        replace kG := kG.below hb1 kG.lt
                        replace kK := kK.below hb1 kK.lt
                        replace kO := kO.below hb1 kO.lt
                        replace hb := bCall hb hb1 hb.size
                        clear hb1
                        replace kF := kF.alloc (.cells (fA 16 Y) 26)
                        replace kG := kG.alloc (.cells (fA 16 Y) 26)
                        replace kK := kK.alloc (.cells (fA 16 Y) 26)
                        replace kO := kO.alloc (.cells (fA 16 Y) 26)
                        have kY : Blk (w24.alloc (.cells (fA 16 Y) 26)) w24.heap.size 26 (fA 16 Y) := Blk.new _ _ _
                        replace hb : Below w0.heap.size w0 (w24.alloc (.cells (fA 16 Y) 26)) := hb.alloc hb.size _
                        go_wp2_with (first | (refine wpList_store_new rfl 28 _ _ rfl _ rfl rfl (by kernel_rfl) rfl (all_fA _ _) ?_) | (refine wpList_store_new rfl 26 _ _ rfl _ rfl rfl (by kernel_rfl) rfl (all_fA _ _) ?_) | (refine wpList_load_partW rfl 26 _ rfl 0 16 kO rfl (by decide) Try.underlying26 rfl (by kernel_rfl) ?_) | (refine wpList_load_partW rfl 26 _ rfl 0 16 kY rfl (by decide) Try.underlying26 rfl (by kernel_rfl) ?_))
                        refine (same_any _ _ (fun i hi => by simp only [rowAt, Nat.zero_add]; rw [HO.out i hi, HY.out i hi]) _).mono ?_
                        rintro e w60 ⟨rfl, hb1⟩
                        replace hb := bCall hb hb1 hb.size
                        clear hb1
                        go_wp2
                        go_ret
                        exact ⟨rfl, hb⟩

theorem own : ownKnob Try.prog.godebug = none := by kernel_rfl
theorem laidOut : laidOutB Try.prog = true := by kernel_rfl
set_option maxRecDepth 100000 in
theorem lifted (os : Os) (started : os.Started) (H : Type) (enc : TypeId × Value → H) :
    ReturnsInHanded {} Try.checked os 3 .any (Rows.fnFilmsSpec.pre6 enc Try.prog Try.f3 Rows.fnFilmsRow.domain false) (Rows.fnFilmsSpec.post enc Try.prog Try.f3 false true false false) := by
  refine returnsInHanded_of_change (C := Try.checked) own started (by kernel_rfl) Try.func3
    (ChangeSpec.witness6 (enc := enc) (C := Try.checked) false ⟨#[], #[.slice none 0 0, .slice none 0 0], []⟩ 8 (by kernel_rfl) (by kernel_rfl) (by kernel_rfl) (by kernel_rfl)) ?_
  intro W base args ds gs before hval0 hW hcnd _
  have hval : ∀ (j : Nat) t v, Try.f3.params[j]? = some t → args[j]? = some v → Value.okWide Try.prog W .any base t v := hval0
  have hW' := hW
  obtain ⟨p, q, hA0, hV, rfl, hfz, hnd⟩ := hW
  have hA : DataW.TrodAll enc Try.prog W 0 (fun _ => true) true Try.f3.params.toList args.toList ds p := hA0
  rw [Try.params3] at hA hval
  obtain ⟨v0, vs0, d0, ds0, p0, q0, hargs, rfl, rfl, h0, r0⟩ := trodAll_cons hA
  obtain ⟨v1, vs1, d1, ds1, p1, q1, rfl, rfl, rfl, h1, r1⟩ := trodAll_cons r0
  obtain ⟨rfl, rfl, rfl⟩ := trodAll_nil r1
  obtain rfl : args = #[v0, v1] := by cases args; simp_all
  obtain ⟨rfl, rfl⟩ := trodVars_none hV
  have k0 := h0
  have lt0 : ∀ x ∈ p0, x.block < W.heap.size := by obtain ⟨m, hm⟩ := k0; exact DataW.trod_lt m _ _ _ hm
  obtain ⟨a0, n0, c0, rfl⟩ := okWide_slice Try.underlying22 (hval 0 22 v0 rfl rfl)
  obtain ⟨f0, w0⟩ := open_byt Try.underlying22 Try.underlying5 (by kernel_rfl) h0
  have k1 := h1
  have lt1 : ∀ x ∈ p1, x.block < W.heap.size := by obtain ⟨m, hm⟩ := k1; exact DataW.trod_lt m _ _ _ hm
  obtain ⟨a1, n1, c1, rfl⟩ := okWide_slice Try.underlying22 (hval 1 22 v1 rfl rfl)
  obtain ⟨f1, w1⟩ := open_byt Try.underlying22 Try.underlying5 (by kernel_rfl) h1
  clear hA0 hval0
  refine (walk a0 n0 c0 f0 a1 n1 c1 f1 W w0 w1).mono fun e W' ⟨he, bel⟩ => ?_
  subst he
  exact ⟨_, rfl, _, _, _, [], _, [], hW', trodAll_mk1 (shut_bool Try.underlying4 _), (trodAll_cons_mk (Below.trod laidOut (by kernel_rfl) (of_decide_eq_true (by kernel_rfl)) k0 bel lt0) (trodAll_cons_mk (Below.trod laidOut (by kernel_rfl) (of_decide_eq_true (by kernel_rfl)) k1 bel lt1) trodAll_mk0)), rfl, bel.frame _, fun h => by cases h⟩
theorem over : Rows.fnFilmsRow.holds Try.pinned (OpenSpec.ofChange Rows.fnFilmsSpec) :=
  OpenClaim.holds_of_wide 3 Try.f3 rfl rfl rfl rfl rfl rfl rfl ⟨rfl, rfl, rfl, rfl, rfl⟩ rfl rfl rfl rfl rfl (by kernel_rfl) Try.func3 (by kernel_rfl)
    (of_decide_eq_true (by kernel_rfl)) (by unfold Func.isWrapper; first | (rw [if_pos (by decide +kernel)]; kernel_rfl) | (rw [if_neg (by decide +kernel)]; exact ⟨rfl, rfl⟩))
    (fun os started H enc _ => lifted os started H enc)
theorem proved : Rows.FnFilmsSaid := over
#print axioms proved
end Go.Proofs.Ytfpjiclkhjdihaa.fnFilms
namespace Go.Proofs.Ytfpjiclkhjdihaa
/-- The row, under a short name, for the claim. -/
theorem fnFilms_holds : Rows.FnFilmsSaid := fnFilms.proved
end Go.Proofs.Ytfpjiclkhjdihaa

