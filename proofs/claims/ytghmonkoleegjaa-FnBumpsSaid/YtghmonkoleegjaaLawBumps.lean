/- Proved: the statement FnBumps of this seat: for every input the law returns true, and each argument reads as it read. There is no condition. -/
import Derived.Test.YtghmonkoleegjaaRows
import Derived.Test.YtghmonkoleegjaaOpen
import Derived.Test.YtghmonkoleegjaaCA
import Derived.Test.YtghmonkoleegjaaCH
import Derived.Test.YtghmonkoleegjaaCI
import Derived.Test.YtghmonkoleegjaaCJ
import Derived.Test.YtghmonkoleegjaaCW
import Derived.Test.YtghmonkoleegjaaDI
import Derived.Test.YtghmonkoleegjaaLA
import Derived.Test.YtghmonkoleegjaaBumpC
import Derived.Test.YtghmonkoleegjaaEqa
import Derived.Test.YtghmonkoleegjaaHeld
import Derived.Test.YtghmonkoleegjaaDB
import Derived.WalkKit
import Derived.WalkSpells
import Derived.Outline
import Derived.ProofKit
import Derived.OpenShut
import Derived.ShutString
import Derived.ChangeOld
import Derived.Below
import Derived.IntWalk
import Derived.BigQuiet
namespace Go.Proofs.Ytghmonkoleegjaa.fnBumps
open Go.ChangeShapes Go.WideShapes Go.ChangeAt Go.RowKit
open Go.ChangeMaps (open_string shut_string)

set_option maxRecDepth 100000 in
set_option maxHeartbeats 4000000 in
theorem walk (a0 : Option Addr) (n0 c0 : Nat) (f0 : Nat → Nat) (a1 : Option Addr) (n1 c1 : Nat) (f1 : Nat → Nat) (w : World) (y0 : Byt w a0 n0 f0) (y1 : Byt w a1 n1 f1) : Calls Try.prog 6 #[.slice a0 n0 c0, .slice a1 n1 c1] w (RetB w true) := by
  go_enter Try.func6, Try.ntmps6
  by_cases hlong : 3000 < n0 ∨ 3000 < n1
  · go_wp2_with fail
    refine (a2Long_long a0 a1 n0 n1 c0 c1 hlong w).mono ?_
    rintro e w' ⟨rfl, rfl⟩
    go_wp2
    go_ret
    exact ⟨rfl, Below.refl _ _⟩
  · have hn0 : n0 ≤ 3000 := by omega
    have hn1 : n1 ≤ 3000 := by omega
    clear hlong
    go_wp2_with fail
    refine (a2Long_short a0 a1 n0 n1 c0 c1 hn0 hn1 w).mono ?_
    rintro e w1 ⟨rfl, hw⟩
    subst hw
    go_wp2_with fail
    refine (a2At_any a0 n0 c0 f0 w1 y0 0 16 (by omega) (by omega) (by omega)).mono ?_
    rintro e w ⟨place, hp, rfl, hw⟩
    subst hw
    go_wp2_with fail
    refine (a2At_any a1 n1 c1 f1 w y1 0 16 (by omega) (by omega) (by omega)).mono ?_
    rintro e w1 ⟨m, hm, rfl, hw⟩
    subst hw
    have Hq : Hid (canon .f32 (fval .quo .f32 (floatOfInt .f32 (1 + (m : Int))) 1082130432 w1) = quarter m) := Lib.hid (c_div ..)
    go_wp2_with fail
    generalize fval .quo .f32 (floatOfInt .f32 (1 + (m : Int))) 1082130432 w1 = q at *
    refine (iBump_row hp hm Hq.out _).mono ?_
    rintro e w2 ⟨rfl, hb2⟩
    have hB : Blk (w2.alloc (.cells (fA 16 (bumpRow place m)) 26)) w2.heap.size 26 (fA 16 (bumpRow place m)) := Blk.new _ _ _
    have hb : Below w1.heap.size w1 (w2.alloc (.cells (fA 16 (bumpRow place m)) 26)) := (bCall (bDrew (Below.refl _ _) _) hb2 (by simp)).alloc (by have := hb2.size; simpa using this) _
    go_wp2_with (first | (refine wpList_store_new rfl 26 _ _ rfl _ rfl rfl (by kernel_rfl) rfl (all_fA _ _) ?_))
    refine (sBump_row hp hm Hq.out _).mono ?_
    rintro e w3 ⟨rfl, hb3⟩
    have hg2 : w1.heap.size ≤ w2.heap.size := by have := hb2.size; simpa using this
    have hlt2 := hB.lt
    have hD : Blk (w3.alloc (.cells (fA 16 (bumpRow place m)) 26)) w3.heap.size 26 (fA 16 (bumpRow place m)) := Blk.new _ _ _
    have hB : Blk (w3.alloc (.cells (fA 16 (bumpRow place m)) 26)) w2.heap.size 26 (fA 16 (bumpRow place m)) := (hB.below hb3 hB.lt).alloc _
    have hb : Below w1.heap.size w1 (w3.alloc (.cells (fA 16 (bumpRow place m)) 26)) := (bCall hb hb3 (by omega)).alloc (by have := hb3.size; omega) _
    go_wp2_with (first | (refine wpList_store_new rfl 26 _ _ rfl _ rfl rfl (by kernel_rfl) rfl (all_fA _ _) ?_) | (refine wpList_load_partW rfl 26 _ rfl 0 16 hB rfl (by decide) Try.underlying26 rfl (by kernel_rfl) ?_) | (refine wpList_load_partW rfl 26 _ rfl 0 16 hD rfl (by decide) Try.underlying26 rfl (by kernel_rfl) ?_))
    refine (sSame_self _ _).mono ?_
    rintro e w4 ⟨rfl, hb4⟩
    have hB := hB.below hb4 hB.lt
    have hb := bCall hb hb4 hb.size
    have hlt := hB.lt
    clear hb2 hb3 hb4 hD hlt2 Hq
    have Hpl : Hid (bumpRow place m place = 1065353216) := by have := bump_top m hm; unfold Hid bumpRow farOf; rw [if_pos (Nat.le_refl _), Nat.sub_self]; exact this
    have cp := (hB.cell place).trans (get_fA_lt (bumpRow place m) hp)
    rw [Hpl.out] at cp
    have o1 : FloatKind.f32.format.order 1065353216 1065353216 = some .eq := order_same (by decide)
    go_wp2
    clear cp
    go_loopw [11] (fun i wr => ∃ (k : Nat), k ≤ 15 ∧ i = .int .i64 (k + 1 : Nat) ∧ Below w1.heap.size w1 wr ∧ Blk wr w2.heap.size 26 (fA 16 (bumpRow place m))) (fun i _ => 16 - (intOf i).toNat)
    case atStart => exact ⟨0, by omega, rfl, hb, hB⟩
    case round =>
      obtain ⟨k, hk, rfl, hb, hB⟩ := hrel
      by_cases hlt : k < 15
      · have c1 := (hB.cell k).trans (get_fA_lt (bumpRow place m) (show k < 16 by omega))
        have c2 := (hB.cell (k + 1)).trans (get_fA_lt (bumpRow place m) (show k + 1 < 16 by omega))
        have o3 : (FloatKind.f32.format.order (bumpRow place m (k + 1)) 0 == some .lt || FloatKind.f32.format.order (bumpRow place m (k + 1)) 0 == some .eq) = false := by
          have h := bump_small m hm (farOf (k + 1) place) (by unfold farOf; split <;> omega)
          unfold bumpRow
          rw [order_words h.2 (by omega), if_neg (by omega), if_neg (by omega)]
          rfl
        by_cases hkp : k + 1 ≤ place
        · have o1 : (FloatKind.f32.format.order (bumpRow place m (k + 1)) (bumpRow place m k) == some .lt) = false := by
            have h := bump_small m hm (farOf (k + 1) place) (by unfold farOf; split <;> omega)
            have h' := bump_small m hm (farOf k place) (by unfold farOf; split <;> omega)
            have hmo := bump_mono hm (a := farOf (k + 1) place) (farOf k place) (by unfold farOf; rw [if_pos hkp, if_pos (by omega)]; omega) (by unfold farOf; split <;> omega)
            unfold bumpRow
            rw [order_words h.2 h'.2, if_neg (by omega)]
            split <;> rfl
          generalize bumpRow place m (k + 1) = u1 at *
          generalize bumpRow place m k = u0 at *
          obtain ⟨j, hj⟩ := Nat.le.dest hkp
          have e1 : IntKind.i64.wrap (k : Int) = (k : Int) := IntWalk.i64_in _ (by omega)
          have e2 : IntKind.i64.wrap ((place : Int) - ((k : Int) + 1)) = (j : Int) := by rw [show (place : Int) - ((k : Int) + 1) = (j : Int) by omega]; exact IntWalk.i64_in _ (by omega)
          have e3 : IntKind.i64.wrap ((place : Int) + ((k : Int) + 1)) = (place : Int) + ((k : Int) + 1) := IntWalk.i64_in _ (by omega)
          have e4 : ((place : Int) + ((k : Int) + 1)).toNat = place + (k + 1) := by omega
          have e5 : 0 ≤ (place : Int) + ((k : Int) + 1) := by omega
          have hk16 : (k : Int) < 16 := by omega
          have hj16 : (j : Int) < 16 := by omega
          have hnl : decide ((place : Int) < (k : Int) + 1) = false := by simp; omega
          have hnk : decide ((k : Int) + 1 ≤ (place : Int)) = true := by simp; omega
          have o4 : place + (k + 1) < 16 → (FloatKind.f32.format.order (bumpRow place m j) (bumpRow place m (place + (k + 1))) == some .eq) = true ∧ (FloatKind.f32.format.order (bumpRow place m j) (bumpRow place m (place + (k + 1))) != some .eq) = false := by
            intro h
            have h1 : bumpRow place m j = bumpRow place m (place + (k + 1)) := by unfold bumpRow farOf; rw [if_pos (by omega), if_neg (by omega)]; congr 1; omega
            rw [h1]
            have h2 := bump_small m hm (farOf (place + (k + 1)) place) (by unfold farOf; split <;> omega)
            have h3 := order_same h2.2
            unfold bumpRow
            rw [h3]
            exact ⟨rfl, rfl⟩
          have c3 := (hB.cell j).trans (get_fA_lt (bumpRow place m) (show j < 16 by omega))
          have Hj := Lib.hid hj
          clear hj
          by_cases hs : place + (k + 1) < 16
          · have c4 := (hB.cell (place + (k + 1))).trans (get_fA_lt (bumpRow place m) hs)
            obtain ⟨o5, o6⟩ := o4 hs
            have hs16 : (place : Int) + ((k : Int) + 1) < 16 := by omega
            have hs17 : decide ((place : Int) + ((k : Int) + 1) < 16) = true := by simp; omega
            clear o4
            generalize bumpRow place m (k + 1) = u1 at *
            generalize bumpRow place m k = u0 at *
            generalize bumpRow place m j = u3 at *
            generalize bumpRow place m (place + (k + 1)) = u4 at *
            go_wp2_with fail
            refine wp_region_hl (fun w' => ∃ n, w' = wr.drewN n) (fun _ _ _ => False) (by kernel_rfl) (by kernel_rfl) ⟨1, rfl⟩ ?_
            iterate 4 (refine hl_plain rfl (fun K hK w1 hw1 => ?_); obtain ⟨n, rfl⟩ := hw1; go_simp; refine ⟨⟨_, rfl⟩, hK _ ?_⟩; clear hK K)
            iterate 8 (refine (hl_want (by kernel_rfl) (fun K hK w1 hw1 => ?_)); obtain ⟨n, rfl⟩ := hw1; go_simp; refine ⟨⟨_, rfl⟩, hK _ ?_⟩; clear hK K)
            iterate 2 (refine hl_plain rfl (fun K hK w1 hw1 => ?_); obtain ⟨n, rfl⟩ := hw1; go_simp; refine ⟨⟨_, rfl⟩, hK _ ?_⟩; clear hK K)
            iterate 4 (refine (hl_want (by kernel_rfl) (fun K hK w1 hw1 => ?_)); obtain ⟨n, rfl⟩ := hw1; go_simp; refine ⟨⟨_, rfl⟩, hK _ ?_⟩; clear hK K)
            iterate 8 (refine (hl_skipE (by kernel_rfl) (by go_simp; rfl) ?_))
            iterate 1 (refine (hl_want (by kernel_rfl) (fun K hK w1 hw1 => ?_)); obtain ⟨n, rfl⟩ := hw1; go_simp; refine ⟨⟨_, rfl⟩, hK _ ?_⟩; clear hK K)
            iterate 2 (refine hl_plain rfl (fun K hK w1 hw1 => ?_); obtain ⟨n, rfl⟩ := hw1; go_simp; refine ⟨⟨_, rfl⟩, hK _ ?_⟩; clear hK K)
            iterate 4 (refine (hl_want (by kernel_rfl) (fun K hK w1 hw1 => ?_)); obtain ⟨n, rfl⟩ := hw1; go_simp; refine ⟨⟨_, rfl⟩, hK _ ?_⟩; clear hK K)
            iterate 1 (refine hl_plain rfl (fun K hK w1 hw1 => ?_); obtain ⟨n, rfl⟩ := hw1; go_simp; refine ⟨⟨_, rfl⟩, hK _ ?_⟩; clear hK K)
            (refine hl_nil ?_; intro _ hw'; obtain ⟨nq, rfl⟩ := hw')
            go_wp2_with fail
            refine wp_region_hl (fun w' => ∃ n, w' = wr.drewN n) (fun _ _ _ => False) (by kernel_rfl) (by kernel_rfl) ⟨nq + 1, rfl⟩ ?_
            iterate 5 (refine hl_plain rfl (fun K hK w1 hw1 => ?_); obtain ⟨n, rfl⟩ := hw1; go_simp; refine ⟨⟨_, rfl⟩, hK _ ?_⟩; clear hK K)
            iterate 4 (refine (hl_want (by kernel_rfl) (fun K hK w1 hw1 => ?_)); obtain ⟨n, rfl⟩ := hw1; go_simp; refine ⟨⟨_, rfl⟩, hK _ ?_⟩; clear hK K)
            iterate 2 (refine hl_plain rfl (fun K hK w1 hw1 => ?_); obtain ⟨n, rfl⟩ := hw1; go_simp; refine ⟨⟨_, rfl⟩, hK _ ?_⟩; clear hK K)
            iterate 11 (refine (hl_want (by kernel_rfl) (fun K hK w1 hw1 => ?_)); obtain ⟨n, rfl⟩ := hw1; go_simp; refine ⟨⟨_, rfl⟩, hK _ ?_⟩; clear hK K)
            iterate 1 (refine hl_plain rfl (fun K hK w1 hw1 => ?_); obtain ⟨n, rfl⟩ := hw1; go_simp; refine ⟨⟨_, rfl⟩, hK _ ?_⟩; clear hK K)
            (refine hl_nil ?_; intro _ hw'; obtain ⟨nq, rfl⟩ := hw')
            go_wp2
            go_roundw
            case rel => exact ⟨k + 1, by omega, by go_num, (by repeat (first | assumption | exact Below.refl _ _ | refine bDrew ?_ _ | refine Below.alloc ?_ (by first | omega | (simp; done) | (simp; omega)) _ | refine Below.setCell ?_ (by first | omega | (simp; done) | (simp; omega)) _ | refine bRow ?_ (by first | omega | (simp; done) | (simp; omega)) _)), (by first | assumption | (repeat (first | assumption | (apply Blk.new_at; (focus (simp; done)); rfl) | apply Blk.alloc | apply Blk.drewN)))⟩
            case measure => first | (simp [intOf]; done) | (simp [intOf]; omega)
          · have hs16 : decide ((place : Int) + ((k : Int) + 1) < 16) = false := by simp; omega
            clear o4
            generalize bumpRow place m (k + 1) = u1 at *
            generalize bumpRow place m k = u0 at *
            go_wp2_with fail
            refine wp_region_hl (fun w' => ∃ n, w' = wr.drewN n) (fun _ _ _ => False) (by kernel_rfl) (by kernel_rfl) ⟨1, rfl⟩ ?_
            iterate 4 (refine hl_plain rfl (fun K hK w1 hw1 => ?_); obtain ⟨n, rfl⟩ := hw1; go_simp; refine ⟨⟨_, rfl⟩, hK _ ?_⟩; clear hK K)
            iterate 8 (refine (hl_want (by kernel_rfl) (fun K hK w1 hw1 => ?_)); obtain ⟨n, rfl⟩ := hw1; go_simp; refine ⟨⟨_, rfl⟩, hK _ ?_⟩; clear hK K)
            iterate 2 (refine hl_plain rfl (fun K hK w1 hw1 => ?_); obtain ⟨n, rfl⟩ := hw1; go_simp; refine ⟨⟨_, rfl⟩, hK _ ?_⟩; clear hK K)
            iterate 4 (refine (hl_want (by kernel_rfl) (fun K hK w1 hw1 => ?_)); obtain ⟨n, rfl⟩ := hw1; go_simp; refine ⟨⟨_, rfl⟩, hK _ ?_⟩; clear hK K)
            iterate 8 (refine (hl_skipE (by kernel_rfl) (by go_simp; rfl) ?_))
            iterate 1 (refine (hl_want (by kernel_rfl) (fun K hK w1 hw1 => ?_)); obtain ⟨n, rfl⟩ := hw1; go_simp; refine ⟨⟨_, rfl⟩, hK _ ?_⟩; clear hK K)
            iterate 2 (refine hl_plain rfl (fun K hK w1 hw1 => ?_); obtain ⟨n, rfl⟩ := hw1; go_simp; refine ⟨⟨_, rfl⟩, hK _ ?_⟩; clear hK K)
            iterate 4 (refine (hl_want (by kernel_rfl) (fun K hK w1 hw1 => ?_)); obtain ⟨n, rfl⟩ := hw1; go_simp; refine ⟨⟨_, rfl⟩, hK _ ?_⟩; clear hK K)
            iterate 1 (refine hl_plain rfl (fun K hK w1 hw1 => ?_); obtain ⟨n, rfl⟩ := hw1; go_simp; refine ⟨⟨_, rfl⟩, hK _ ?_⟩; clear hK K)
            (refine hl_nil ?_; intro _ hw'; obtain ⟨nq, rfl⟩ := hw')
            go_wp2_with fail
            refine wp_region_hl (fun w' => ∃ n, w' = wr.drewN n) (fun _ _ _ => False) (by kernel_rfl) (by kernel_rfl) ⟨nq + 1, rfl⟩ ?_
            iterate 5 (refine hl_plain rfl (fun K hK w1 hw1 => ?_); obtain ⟨n, rfl⟩ := hw1; go_simp; refine ⟨⟨_, rfl⟩, hK _ ?_⟩; clear hK K)
            iterate 4 (refine (hl_want (by kernel_rfl) (fun K hK w1 hw1 => ?_)); obtain ⟨n, rfl⟩ := hw1; go_simp; refine ⟨⟨_, rfl⟩, hK _ ?_⟩; clear hK K)
            iterate 2 (refine hl_plain rfl (fun K hK w1 hw1 => ?_); obtain ⟨n, rfl⟩ := hw1; go_simp; refine ⟨⟨_, rfl⟩, hK _ ?_⟩; clear hK K)
            iterate 11 (refine (hl_skipE (by kernel_rfl) (by go_simp; rfl) ?_))
            iterate 1 (refine hl_plain rfl (fun K hK w1 hw1 => ?_); obtain ⟨n, rfl⟩ := hw1; go_simp; refine ⟨⟨_, rfl⟩, hK _ ?_⟩; clear hK K)
            (refine hl_nil ?_; intro _ hw'; obtain ⟨nq, rfl⟩ := hw')
            go_wp2
            go_roundw
            case rel => exact ⟨k + 1, by omega, by go_num, (by repeat (first | assumption | exact Below.refl _ _ | refine bDrew ?_ _ | refine Below.alloc ?_ (by first | omega | (simp; done) | (simp; omega)) _ | refine Below.setCell ?_ (by first | omega | (simp; done) | (simp; omega)) _ | refine bRow ?_ (by first | omega | (simp; done) | (simp; omega)) _)), (by first | assumption | (repeat (first | assumption | (apply Blk.new_at; (focus (simp; done)); rfl) | apply Blk.alloc | apply Blk.drewN)))⟩
            case measure => first | (simp [intOf]; done) | (simp [intOf]; omega)
        · have hpk : (place : Int) < (k : Int) + 1 := by omega
          have o2 : (FloatKind.f32.format.order (bumpRow place m (k + 1)) (bumpRow place m k) == some .gt) = false := by
            have h := bump_small m hm (farOf (k + 1) place) (by unfold farOf; split <;> omega)
            have h' := bump_small m hm (farOf k place) (by unfold farOf; split <;> omega)
            have hmo := bump_mono hm (a := farOf k place) (farOf (k + 1) place) (by unfold farOf; rw [if_neg (show ¬ k + 1 ≤ place from hkp)]; split <;> omega) (by unfold farOf; split <;> omega)
            unfold bumpRow
            rw [order_words h.2 h'.2]
            by_cases e : bumpW m (farOf (k + 1) place) < bumpW m (farOf k place)
            · rw [if_pos e]; rfl
            · rw [if_neg e, if_pos (by omega)]; rfl
          have e1 : IntKind.i64.wrap (k : Int) = (k : Int) := IntWalk.i64_in _ (by omega)
          have e2 : IntKind.i64.wrap ((place : Int) - ((k : Int) + 1)) = (place : Int) - ((k : Int) + 1) := IntWalk.i64_in _ (by omega)
          have hk16 : (k : Int) < 16 := by omega
          have hng : decide (0 ≤ (place : Int) - ((k : Int) + 1)) = false := by simp; omega
          have hnp : decide ((k : Int) + 1 ≤ (place : Int)) = false := by simp; omega
          have hnq : decide ((place : Int) < (k : Int) + 1) = true := by simp; omega
          generalize bumpRow place m (k + 1) = u1 at *
          generalize bumpRow place m k = u0 at *
          go_wp2_with fail
          refine wp_region_hl (fun w' => ∃ n, w' = wr.drewN n) (fun _ _ _ => False) (by kernel_rfl) (by kernel_rfl) ⟨1, rfl⟩ ?_
          iterate 4 (refine hl_plain rfl (fun K hK w1 hw1 => ?_); obtain ⟨n, rfl⟩ := hw1; go_simp; refine ⟨⟨_, rfl⟩, hK _ ?_⟩; clear hK K)
          iterate 8 (refine (hl_skipE (by kernel_rfl) (by go_simp; rfl) ?_))
          iterate 2 (refine hl_plain rfl (fun K hK w1 hw1 => ?_); obtain ⟨n, rfl⟩ := hw1; go_simp; refine ⟨⟨_, rfl⟩, hK _ ?_⟩; clear hK K)
          iterate 4 (refine (hl_want (by kernel_rfl) (fun K hK w1 hw1 => ?_)); obtain ⟨n, rfl⟩ := hw1; go_simp; refine ⟨⟨_, rfl⟩, hK _ ?_⟩; clear hK K)
          iterate 8 (refine (hl_want (by kernel_rfl) (fun K hK w1 hw1 => ?_)); obtain ⟨n, rfl⟩ := hw1; go_simp; refine ⟨⟨_, rfl⟩, hK _ ?_⟩; clear hK K)
          iterate 1 (refine (hl_want (by kernel_rfl) (fun K hK w1 hw1 => ?_)); obtain ⟨n, rfl⟩ := hw1; go_simp; refine ⟨⟨_, rfl⟩, hK _ ?_⟩; clear hK K)
          iterate 2 (refine hl_plain rfl (fun K hK w1 hw1 => ?_); obtain ⟨n, rfl⟩ := hw1; go_simp; refine ⟨⟨_, rfl⟩, hK _ ?_⟩; clear hK K)
          iterate 4 (refine (hl_want (by kernel_rfl) (fun K hK w1 hw1 => ?_)); obtain ⟨n, rfl⟩ := hw1; go_simp; refine ⟨⟨_, rfl⟩, hK _ ?_⟩; clear hK K)
          iterate 1 (refine hl_plain rfl (fun K hK w1 hw1 => ?_); obtain ⟨n, rfl⟩ := hw1; go_simp; refine ⟨⟨_, rfl⟩, hK _ ?_⟩; clear hK K)
          (refine hl_nil ?_; intro _ hw'; obtain ⟨nq, rfl⟩ := hw')
          go_wp2_with fail
          refine wp_region_hl (fun w' => ∃ n, w' = wr.drewN n) (fun _ _ _ => False) (by kernel_rfl) (by kernel_rfl) ⟨nq + 1, rfl⟩ ?_
          iterate 5 (refine hl_plain rfl (fun K hK w1 hw1 => ?_); obtain ⟨n, rfl⟩ := hw1; go_simp; refine ⟨⟨_, rfl⟩, hK _ ?_⟩; clear hK K)
          iterate 4 (refine (hl_skipE (by kernel_rfl) (by go_simp; rfl) ?_))
          iterate 2 (refine hl_plain rfl (fun K hK w1 hw1 => ?_); obtain ⟨n, rfl⟩ := hw1; go_simp; refine ⟨⟨_, rfl⟩, hK _ ?_⟩; clear hK K)
          iterate 11 (refine (hl_skipE (by kernel_rfl) (by go_simp; rfl) ?_))
          iterate 1 (refine hl_plain rfl (fun K hK w1 hw1 => ?_); obtain ⟨n, rfl⟩ := hw1; go_simp; refine ⟨⟨_, rfl⟩, hK _ ?_⟩; clear hK K)
          (refine hl_nil ?_; intro _ hw'; obtain ⟨nq, rfl⟩ := hw')
          go_wp2
          go_roundw
          case rel => exact ⟨k + 1, by omega, by go_num, (by repeat (first | assumption | exact Below.refl _ _ | refine bDrew ?_ _ | refine Below.alloc ?_ (by first | omega | (simp; done) | (simp; omega)) _ | refine Below.setCell ?_ (by first | omega | (simp; done) | (simp; omega)) _ | refine bRow ?_ (by first | omega | (simp; done) | (simp; omega)) _)), (by first | assumption | (repeat (first | assumption | (apply Blk.new_at; (focus (simp; done)); rfl) | apply Blk.alloc | apply Blk.drewN)))⟩
          case measure => first | (simp [intOf]; done) | (simp [intOf]; omega)
      · obtain rfl : k = 15 := by omega
        have hx : w1.heap.size ≤ wr.heap.size := hb.size
        clear hB hlt
        go_wp2_with fail
        refine (iObservers_row _).mono ?_
        rintro e w5 ⟨rfl, hb5⟩
        have hE : Blk (w5.alloc (.cells (fA 48 obsW) 49)) w5.heap.size 49 (fA 48 obsW) := Blk.new _ _ _
        have hb : Below w1.heap.size w1 (w5.alloc (.cells (fA 48 obsW) 49)) := (bCall hb hb5 hb.size).alloc (by have := hb5.size; omega) _
        have hx5 := hb5.size
        clear hb5
        go_wp2_with (first | (refine wpList_store_new rfl 49 _ _ rfl _ rfl rfl (by kernel_rfl) rfl (all_fA _ _) ?_))
        refine (sObservers_row _).mono ?_
        rintro e w6 ⟨rfl, hb6⟩
        have hE := hE.below hb6 hE.lt
        have hb := bCall hb hb6 hb.size
        have hx6 := hE.lt
        clear hb6
        have hE : Blk (w6.alloc (.cells (fA 48 obsW) 49)) w5.heap.size 49 (fA 48 obsW) := hE.alloc _
        have hM : Blk (w6.alloc (.cells (fA 48 obsW) 49)) w6.heap.size 49 (fA 48 obsW) := Blk.new _ _ _
        have hb : Below w1.heap.size w1 (w6.alloc (.cells (fA 48 obsW) 49)) := hb.alloc hb.size _
        go_wp2_with (first | (refine wpList_store_new rfl 49 _ _ rfl _ rfl rfl (by kernel_rfl) rfl (all_fA _ _) ?_))
        refine (a2At_any a0 n0 c0 f0 _ (y0.to hb (Nat.le_refl _)) 1 16 (by omega) (by omega) (by omega)).mono ?_
        rintro e w7 ⟨m, hm, rfl, hw⟩
        subst hw
        have Hq : Hid (canon .f32 (fval .quo .f32 (floatOfInt .f32 (1 + (m : Int))) 1098907648 (w6.alloc (.cells (fA 48 obsW) 49))) = sixteenth m) := Lib.hid (c_div ..)
        go_wp2_with fail
        generalize fval .quo .f32 (floatOfInt .f32 (1 + (m : Int))) 1098907648 (w6.alloc (.cells (fA 48 obsW) 49)) = q1 at *
        generalize fcnt .quo .f32 (floatOfInt .f32 (1 + (m : Int))) 1098907648 = nd at *
        refine (warm_row hm Hq.out _).mono ?_
        rintro e w8 ⟨rfl, hb8⟩
        have hE := (hE.drewN nd).below hb8 hE.lt
        have hM := (hM.drewN nd).below hb8 hM.lt
        have hb := bCall (bDrew hb nd) hb8 hb.size
        have hE : Blk (w8.alloc (.cells (fA 16 (lightW m)) 26)) w5.heap.size 49 (fA 48 obsW) := hE.alloc _
        have hM : Blk (w8.alloc (.cells (fA 16 (lightW m)) 26)) w6.heap.size 49 (fA 48 obsW) := hM.alloc _
        have hU : Blk (w8.alloc (.cells (fA 16 (lightW m)) 26)) w8.heap.size 26 (fA 16 (lightW m)) := Blk.new _ _ _
        have hb : Below w1.heap.size w1 (w8.alloc (.cells (fA 16 (lightW m)) 26)) := hb.alloc hb.size _
        clear hb8
        go_wp2_with (first | (refine wpList_store_new rfl 26 _ _ rfl _ rfl rfl (by kernel_rfl) rfl (all_fA _ _) ?_))
        refine (cold_row hm Hq.out _).mono ?_
        rintro e w9 ⟨rfl, hb9⟩
        have hE := hE.below hb9 hE.lt
        have hM := hM.below hb9 hM.lt
        have hU := hU.below hb9 hU.lt
        have hb := bCall hb hb9 hb.size
        have hE : Blk (w9.alloc (.cells (fA 16 (coldW m)) 26)) w5.heap.size 49 (fA 48 obsW) := hE.alloc _
        have hM : Blk (w9.alloc (.cells (fA 16 (coldW m)) 26)) w6.heap.size 49 (fA 48 obsW) := hM.alloc _
        have hU : Blk (w9.alloc (.cells (fA 16 (coldW m)) 26)) w8.heap.size 26 (fA 16 (lightW m)) := hU.alloc _
        have hV : Blk (w9.alloc (.cells (fA 16 (coldW m)) 26)) w9.heap.size 26 (fA 16 (coldW m)) := Blk.new _ _ _
        have hb : Below w1.heap.size w1 (w9.alloc (.cells (fA 16 (coldW m)) 26)) := hb.alloc hb.size _
        clear hb9 Hq
        have hne : ∀ w, (binOp .neq 49 (.agg (fA 48 obsW)) (.agg (fA 48 obsW))).run Try.prog w = .ok (.bool false) w := fun w => neq_rows w 3 16 Try.underlying49 Try.underlying26 Try.underlying24 (by kernel_rfl) (by kernel_rfl) fun i hi => order_same (obs_word i hi).2.2
        have heg : ∀ w x y, (eqGuard .neq 49 x y (.agg (fA 48 obsW)) (.agg (fA 48 obsW))).run Try.prog w = .ok () w := fun w x y => run_eqGuard_agg w _ _ _ _ _ _ (by kernel_rfl)
        go_wp2_with (first | (refine wpList_store_new rfl 26 _ _ rfl _ rfl rfl (by kernel_rfl) rfl (all_fA _ _) ?_) | (refine wpList_load_row rfl 49 _ rfl _ rfl _ _ (0, 0) _ hE Try.underlying49 rfl (by kernel_rfl) ?_) | (refine wpList_load_row rfl 49 _ rfl _ rfl _ _ (0, 0) _ hM Try.underlying49 rfl (by kernel_rfl) ?_) | (refine wpList_load_partW rfl 26 _ rfl 0 16 hU rfl (by decide) Try.underlying26 rfl (by kernel_rfl) ?_))
        refine (iSumOfCurve_any _ _).mono ?_
        rintro e w10 ⟨sm, rfl, hsm, hb10⟩
        have Hsm : Hid (near (canon .f32 sm) (canon .f32 1098907648) (canon .f32 981668463) = true) := Lib.hid (by rw [hsm]; exact sum_near hm fun i _ => by simp [rowAt])
        have hE := hE.below hb10 hE.lt
        have hU := hU.below hb10 hU.lt
        have hV := hV.below hb10 hV.lt
        have hb := bCall hb hb10 hb.size
        clear hsm hb10 hM hne heg
        go_wp2_with fail
        refine (a2Near_yes _ _ _ Hsm.out _).mono ?_
        rintro e w11 ⟨rfl, n11, rfl⟩
        have hE := hE.drewN n11
        have hU := hU.drewN n11
        have hV := hV.drewN n11
        have hb := bDrew hb n11
        clear Hsm
        go_wp2
        go_loopw [19] (fun i wr => ∃ (k : Nat), k ≤ 16 ∧ i = .int .i64 k ∧ Below w1.heap.size w1 wr ∧ Blk wr w5.heap.size 49 (fA 48 obsW) ∧ Blk wr w8.heap.size 26 (fA 16 (lightW m)) ∧ Blk wr w9.heap.size 26 (fA 16 (coldW m))) (fun i _ => 16 - (intOf i).toNat)
        case atStart => exact ⟨0, by omega, rfl, hb, hE, hU, hV⟩
        case round =>
          obtain ⟨k, hk, rfl, hb, hE, hU, hV⟩ := hrel
          by_cases hlt : k < 16
          · have p1 := above_zero (obs_word k (by omega)).2
            have p2 := above_zero (obs_word (16 + k) (by omega)).2
            have p3 := above_zero (obs_word (32 + k) (by omega)).2
            have c1 := (hE.cell k).trans (get_fA_lt obsW (show k < 48 by omega))
            have c2 := (hE.cell (16 + k)).trans (get_fA_lt obsW (show 16 + k < 48 by omega))
            have c3 := (hE.cell (32 + k)).trans (get_fA_lt obsW (show 32 + k < 48 by omega))
            have c4 := (hU.cell k).trans (get_fA_lt (lightW m) hlt)
            have hk16 : (k : Int) < 16 := by omega
            have P4 : Hid ((FloatKind.f32.format.order (lightW m k) (coldW m (15 - k)) == some .eq) = true ∧ (FloatKind.f32.format.order (lightW m k) (coldW m (15 - k)) != some .eq) = false) := Lib.hid (by
              have h : coldW m (15 - k) = lightW m k := by unfold coldW; congr 1; omega
              rw [h, order_same (light_small m hm k hlt)]
              exact ⟨rfl, rfl⟩)
            generalize obsW k = u1 at *
            generalize obsW (16 + k) = u2 at *
            generalize obsW (32 + k) = u3 at *
            by_cases h0 : k = 0
            · subst h0
              have z0 : decide ((0 : Int) < ((0 : Nat) : Int)) = false := by simp
              have c5 := (hV.cell 15).trans (get_fA_lt (coldW m) (show 15 < 16 by omega))
              have e1 : IntKind.i64.wrap 15 = 15 := IntWalk.i64_in _ (by omega)
              obtain ⟨p4, p5⟩ : (FloatKind.f32.format.order (lightW m 0) (coldW m 15) == some .eq) = true ∧ (FloatKind.f32.format.order (lightW m 0) (coldW m 15) != some .eq) = false := P4.out
              clear P4
              generalize coldW m 15 = u5 at *
              generalize lightW m 0 = u4 at *
              go_wp2_with fail
              refine wp_region_hl (fun w' => ∃ n, w' = wr.drewN n) (fun _ _ _ => False) (by kernel_rfl) (by kernel_rfl) ⟨1, rfl⟩ ?_
              iterate 6 (refine hl_plain rfl (fun K hK w1 hw1 => ?_); obtain ⟨n, rfl⟩ := hw1; go_simp; refine ⟨⟨_, rfl⟩, hK _ ?_⟩; clear hK K)
              iterate 5 (refine (hl_want (by kernel_rfl) (fun K hK w1 hw1 => ?_)); obtain ⟨n, rfl⟩ := hw1; go_simp; refine ⟨⟨_, rfl⟩, hK _ ?_⟩; clear hK K)
              iterate 2 (refine hl_plain rfl (fun K hK w1 hw1 => ?_); obtain ⟨n, rfl⟩ := hw1; go_simp; refine ⟨⟨_, rfl⟩, hK _ ?_⟩; clear hK K)
              iterate 5 (refine (hl_want (by kernel_rfl) (fun K hK w1 hw1 => ?_)); obtain ⟨n, rfl⟩ := hw1; go_simp; refine ⟨⟨_, rfl⟩, hK _ ?_⟩; clear hK K)
              iterate 2 (refine hl_plain rfl (fun K hK w1 hw1 => ?_); obtain ⟨n, rfl⟩ := hw1; go_simp; refine ⟨⟨_, rfl⟩, hK _ ?_⟩; clear hK K)
              iterate 8 (refine (hl_want (by kernel_rfl) (fun K hK w1 hw1 => ?_)); obtain ⟨n, rfl⟩ := hw1; go_simp; refine ⟨⟨_, rfl⟩, hK _ ?_⟩; clear hK K)
              iterate 2 (refine hl_plain rfl (fun K hK w1 hw1 => ?_); obtain ⟨n, rfl⟩ := hw1; go_simp; refine ⟨⟨_, rfl⟩, hK _ ?_⟩; clear hK K)
              iterate 3 (refine (hl_want (by kernel_rfl) (fun K hK w1 hw1 => ?_)); obtain ⟨n, rfl⟩ := hw1; go_simp; refine ⟨⟨_, rfl⟩, hK _ ?_⟩; clear hK K)
              iterate 8 (refine (hl_skipE (by kernel_rfl) (by go_simp; rfl) ?_))
              iterate 1 (refine (hl_want (by kernel_rfl) (fun K hK w1 hw1 => ?_)); obtain ⟨n, rfl⟩ := hw1; go_simp; refine ⟨⟨_, rfl⟩, hK _ ?_⟩; clear hK K)
              iterate 1 (refine hl_plain rfl (fun K hK w1 hw1 => ?_); obtain ⟨n, rfl⟩ := hw1; go_simp; refine ⟨⟨_, rfl⟩, hK _ ?_⟩; clear hK K)
              (refine hl_nil ?_; intro _ hw'; obtain ⟨nq, rfl⟩ := hw')
              go_wp2
              go_roundw
              case rel => exact ⟨0 + 1, by omega, by go_num, (by repeat (first | assumption | exact Below.refl _ _ | refine bDrew ?_ _ | refine Below.alloc ?_ (by first | omega | (simp; done) | (simp; omega)) _ | refine Below.setCell ?_ (by first | omega | (simp; done) | (simp; omega)) _ | refine bRow ?_ (by first | omega | (simp; done) | (simp; omega)) _)), (by first | assumption | (repeat (first | assumption | (apply Blk.new_at; (focus (simp; done)); rfl) | apply Blk.alloc | apply Blk.drewN))), (by first | assumption | (repeat (first | assumption | (apply Blk.new_at; (focus (simp; done)); rfl) | apply Blk.alloc | apply Blk.drewN))), (by first | assumption | (repeat (first | assumption | (apply Blk.new_at; (focus (simp; done)); rfl) | apply Blk.alloc | apply Blk.drewN)))⟩
              case measure => first | (simp [intOf]; done) | (simp [intOf]; omega)
            · obtain ⟨j, rfl⟩ : ∃ j, k = j + 1 := ⟨k - 1, by omega⟩
              have c6 := (hU.cell j).trans (get_fA_lt (lightW m) (show j < 16 by omega))
              have p6 := not_le (light_rises m hm j (by omega)) (light_small m hm (j + 1) hlt)
              have e2 : IntKind.i64.wrap (j : Int) = (j : Int) := IntWalk.i64_in _ (by omega)
              have hjj : (j : Int) < 16 := by omega
              have z0 : decide ((0 : Int) < ((j + 1 : Nat) : Int)) = true := by simp
              have z1 : decide ((0 : Int) < (j : Int) + 1) = true := by
                simp only [decide_eq_true_eq]
                omega
              have c5 := (hV.cell (15 - (j + 1))).trans (get_fA_lt (coldW m) (show 15 - (j + 1) < 16 by omega))
              have e1 : IntKind.i64.wrap (15 - ((j : Int) + 1)) = ((15 - (j + 1) : Nat) : Int) := by rw [show (15 : Int) - ((j : Int) + 1) = ((15 - (j + 1) : Nat) : Int) by omega]; exact IntWalk.i64_in _ (by omega)
              have hj16 : ((15 - (j + 1) : Nat) : Int) < 16 := by omega
              obtain ⟨p4, p5⟩ := P4.out
              clear P4
              generalize coldW m (15 - (j + 1)) = u5 at *
              generalize 15 - (j + 1) = k15 at *
              generalize lightW m (j + 1) = u4 at *
              generalize lightW m j = u6 at *
              go_wp2_with fail
              refine wp_region_hl (fun w' => ∃ n, w' = wr.drewN n) (fun _ _ _ => False) (by kernel_rfl) (by kernel_rfl) ⟨1, rfl⟩ ?_
              iterate 6 (refine hl_plain rfl (fun K hK w1 hw1 => ?_); obtain ⟨n, rfl⟩ := hw1; go_simp; refine ⟨⟨_, rfl⟩, hK _ ?_⟩; clear hK K)
              iterate 5 (refine (hl_want (by kernel_rfl) (fun K hK w1 hw1 => ?_)); obtain ⟨n, rfl⟩ := hw1; go_simp; refine ⟨⟨_, rfl⟩, hK _ ?_⟩; clear hK K)
              iterate 2 (refine hl_plain rfl (fun K hK w1 hw1 => ?_); obtain ⟨n, rfl⟩ := hw1; go_simp; refine ⟨⟨_, rfl⟩, hK _ ?_⟩; clear hK K)
              iterate 5 (refine (hl_want (by kernel_rfl) (fun K hK w1 hw1 => ?_)); obtain ⟨n, rfl⟩ := hw1; go_simp; refine ⟨⟨_, rfl⟩, hK _ ?_⟩; clear hK K)
              iterate 2 (refine hl_plain rfl (fun K hK w1 hw1 => ?_); obtain ⟨n, rfl⟩ := hw1; go_simp; refine ⟨⟨_, rfl⟩, hK _ ?_⟩; clear hK K)
              iterate 8 (refine (hl_want (by kernel_rfl) (fun K hK w1 hw1 => ?_)); obtain ⟨n, rfl⟩ := hw1; go_simp; refine ⟨⟨_, rfl⟩, hK _ ?_⟩; clear hK K)
              iterate 2 (refine hl_plain rfl (fun K hK w1 hw1 => ?_); obtain ⟨n, rfl⟩ := hw1; go_simp; refine ⟨⟨_, rfl⟩, hK _ ?_⟩; clear hK K)
              iterate 3 (refine (hl_want (by kernel_rfl) (fun K hK w1 hw1 => ?_)); obtain ⟨n, rfl⟩ := hw1; go_simp; refine ⟨⟨_, rfl⟩, hK _ ?_⟩; clear hK K)
              iterate 8 (refine (hl_want (by kernel_rfl) (fun K hK w1 hw1 => ?_)); obtain ⟨n, rfl⟩ := hw1; go_simp; refine ⟨⟨_, rfl⟩, hK _ ?_⟩; clear hK K)
              iterate 1 (refine (hl_want (by kernel_rfl) (fun K hK w1 hw1 => ?_)); obtain ⟨n, rfl⟩ := hw1; go_simp; refine ⟨⟨_, rfl⟩, hK _ ?_⟩; clear hK K)
              iterate 1 (refine hl_plain rfl (fun K hK w1 hw1 => ?_); obtain ⟨n, rfl⟩ := hw1; go_simp; refine ⟨⟨_, rfl⟩, hK _ ?_⟩; clear hK K)
              (refine hl_nil ?_; intro _ hw'; obtain ⟨nq, rfl⟩ := hw')
              go_wp2
              go_roundw
              case rel => exact ⟨j + 1 + 1, by omega, by go_num, (by repeat (first | assumption | exact Below.refl _ _ | refine bDrew ?_ _ | refine Below.alloc ?_ (by first | omega | (simp; done) | (simp; omega)) _ | refine Below.setCell ?_ (by first | omega | (simp; done) | (simp; omega)) _ | refine bRow ?_ (by first | omega | (simp; done) | (simp; omega)) _)), (by first | assumption | (repeat (first | assumption | (apply Blk.new_at; (focus (simp; done)); rfl) | apply Blk.alloc | apply Blk.drewN))), (by first | assumption | (repeat (first | assumption | (apply Blk.new_at; (focus (simp; done)); rfl) | apply Blk.alloc | apply Blk.drewN))), (by first | assumption | (repeat (first | assumption | (apply Blk.new_at; (focus (simp; done)); rfl) | apply Blk.alloc | apply Blk.drewN)))⟩
              case measure => first | (simp [intOf]; done) | (simp [intOf]; omega)
          · obtain rfl : k = 16 := by omega
            go_wp2
            go_ret
            exact ⟨rfl, hb⟩

theorem own : ownKnob Try.prog.godebug = none := by kernel_rfl
theorem laidOut : laidOutB Try.prog = true := by kernel_rfl
set_option maxRecDepth 100000 in
theorem lifted (os : Os) (started : os.Started) (H : Type) (enc : TypeId × Value → H) :
    ReturnsInHanded {} Try.checked os 6 .any (Rows.fnBumpsSpec.pre6 enc Try.prog Try.f6 Rows.fnBumpsRow.domain false) (Rows.fnBumpsSpec.post enc Try.prog Try.f6 false true false false) := by
  refine returnsInHanded_of_change (C := Try.checked) own started (by kernel_rfl) Try.func6
    (ChangeSpec.witness6 (enc := enc) (C := Try.checked) false ⟨#[], #[.slice none 0 0, .slice none 0 0], []⟩ 8 (by kernel_rfl) (by kernel_rfl) (by kernel_rfl) (by kernel_rfl)) ?_
  intro W base args ds gs before hval0 hW hcnd _
  have hval : ∀ (j : Nat) t v, Try.f6.params[j]? = some t → args[j]? = some v → Value.okWide Try.prog W .any base t v := hval0
  have hW' := hW
  obtain ⟨p, q, hA0, hV, rfl, hfz, hnd⟩ := hW
  have hA : DataW.TrodAll enc Try.prog W 0 (fun _ => true) true Try.f6.params.toList args.toList ds p := hA0
  rw [Try.params6] at hA hval
  obtain ⟨v0, vs0, d0, ds0, p0, q0, hargs, rfl, rfl, h0, r0⟩ := trodAll_cons hA
  obtain ⟨v1, vs1, d1, ds1, p1, q1, rfl, rfl, rfl, h1, r1⟩ := trodAll_cons r0
  obtain ⟨rfl, rfl, rfl⟩ := trodAll_nil r1
  obtain rfl : args = #[v0, v1] := by cases args; simp_all
  obtain ⟨rfl, rfl⟩ := trodVars_none hV
  have k0 := h0
  have lt0 : ∀ x ∈ p0, x.block < W.heap.size := by obtain ⟨m, hm⟩ := k0; exact DataW.trod_lt m _ _ _ hm
  obtain ⟨a0, n0, c0, rfl⟩ := okWide_slice Try.underlying41 (hval 0 41 v0 rfl rfl)
  obtain ⟨f0, w0⟩ := open_byt Try.underlying41 Try.underlying5 (by kernel_rfl) h0
  have k1 := h1
  have lt1 : ∀ x ∈ p1, x.block < W.heap.size := by obtain ⟨m, hm⟩ := k1; exact DataW.trod_lt m _ _ _ hm
  obtain ⟨a1, n1, c1, rfl⟩ := okWide_slice Try.underlying41 (hval 1 41 v1 rfl rfl)
  obtain ⟨f1, w1⟩ := open_byt Try.underlying41 Try.underlying5 (by kernel_rfl) h1
  clear hA0 hval0
  refine (walk a0 n0 c0 f0 a1 n1 c1 f1 W w0 w1).mono fun e W' ⟨he, bel⟩ => ?_
  subst he
  exact ⟨_, rfl, _, _, _, [], _, [], hW', trodAll_mk1 (shut_bool Try.underlying4 _), (trodAll_cons_mk (Below.trod laidOut (by kernel_rfl) (of_decide_eq_true (by kernel_rfl)) k0 bel lt0) (trodAll_cons_mk (Below.trod laidOut (by kernel_rfl) (of_decide_eq_true (by kernel_rfl)) k1 bel lt1) trodAll_mk0)), rfl, bel.frame _, fun h => by cases h⟩
theorem over : Rows.fnBumpsRow.holds Try.pinned (OpenSpec.ofChange Rows.fnBumpsSpec) :=
  OpenClaim.holds_of_wide 6 Try.f6 rfl rfl rfl rfl rfl rfl rfl ⟨rfl, rfl, rfl, rfl, rfl⟩ rfl rfl rfl rfl rfl (by kernel_rfl) Try.func6 (by kernel_rfl)
    (of_decide_eq_true (by kernel_rfl)) (by unfold Func.isWrapper; first | (rw [if_pos (by decide +kernel)]; kernel_rfl) | (rw [if_neg (by decide +kernel)]; exact ⟨rfl, rfl⟩))
    (fun os started H enc _ => lifted os started H enc)
theorem proved : Rows.FnBumpsSaid := over
#print axioms proved
end Go.Proofs.Ytghmonkoleegjaa.fnBumps
namespace Go.Proofs.Ytghmonkoleegjaa
/-- The row, under a short name, for the claim. -/
theorem fnBumps_holds : Rows.FnBumpsSaid := fnBumps.proved
end Go.Proofs.Ytghmonkoleegjaa

