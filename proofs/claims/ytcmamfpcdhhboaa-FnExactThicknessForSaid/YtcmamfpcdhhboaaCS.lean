/- Contracts: the least and the greatest number of a curve. -/
import Derived.Test.YtcmamfpcdhhboaaCL
import Derived.Test.YtcmamfpcdhhboaaHeld
import Derived.Test.YtcmamfpcdhhboaaCD
namespace Go.Proofs.Ytcmamfpcdhhboaa
open Go.RowKit
set_option maxRecDepth 100000

/-- The first number that none is better than: its place among the first k, if one of them is a number. -/
def stepTo (lt : Option Nat → Option Nat → Bool) (c : Nat → Option Nat) (k : Nat) (o : Option Nat) : Option Nat :=
  if (c k).isSome then (match o with | none => some k | some b => if lt (c k) (c b) then some k else some b) else o
def bestTo (lt : Option Nat → Option Nat → Bool) (c : Nat → Option Nat) : Nat → Option Nat
  | 0 => none
  | k + 1 => stepTo lt c k (bestTo lt c k)
def endVal (c : Nat → Option Nat) : Option Nat → Option Nat
  | none => none
  | some b => c b
def endAt : Option Nat → Int
  | none => 0
  | some b => b
theorem best_nan {lt : Option Nat → Option Nat → Bool} {c : Nat → Option Nat} {k : Nat} (h : c k = none) : bestTo lt c (k + 1) = bestTo lt c k := by
  show stepTo lt c k _ = _
  simp [stepTo, h]
theorem best_first {lt : Option Nat → Option Nat → Bool} {c : Nat → Option Nat} {k x : Nat} (h : c k = some x) (hn : bestTo lt c k = none) : bestTo lt c (k + 1) = some k := by
  show stepTo lt c k _ = _
  simp [stepTo, h, hn]
theorem best_more {lt : Option Nat → Option Nat → Bool} {c : Nat → Option Nat} {k x b : Nat} (h : (c k) = some x) (hb : bestTo lt c k = some b) (hq : lt (c k) (c b) = true) : bestTo lt c (k + 1) = some k := by
  show stepTo lt c k _ = _
  unfold stepTo
  rw [hb]
  simp only [hq, if_true]
  rw [h]
  rfl
theorem best_less {lt : Option Nat → Option Nat → Bool} {c : Nat → Option Nat} {k x b : Nat} (h : (c k) = some x) (hb : bestTo lt c k = some b) (hq : lt (c k) (c b) = false) : bestTo lt c (k + 1) = some b := by
  show stepTo lt c k _ = _
  unfold stepTo
  rw [hb]
  simp only [hq]
  rw [h]
  rfl
/-- The best so far, as the loops keep it. -/
def IsBest (lt : Option Nat → Option Nat → Bool) (c : Nat → Option Nat) (k : Nat) (v : Value) : Prop :=
  (bestTo lt c k = none ∧ v = .int .i64 (-1)) ∨ ∃ b, b < k ∧ bestTo lt c k = some b ∧ v = .int .i64 b

theorem nan_any (w : World) : Calls Try.prog 103 #[] w fun e w' => e = .returned (.float .f64 9221120237041090561) ∧ Drawn w w' := by
  have h1 : ∀ (i : Int) (w : World), (callFunc 105 #[.int .u64 i]).run Try.prog w = .ok (.value (.float .f64 i.toNat)) w := fun i w => by kernel_rfl
  go_enter Try.func103, Try.ntmps103
  go_wp2
  go_ret
  exact ⟨rfl, 0, rfl⟩
theorem nan_short (w : World) : canon .f32 (cval .f64 .f32 9221120237041090561 w) = none := by
  rw [canon_cval (by decide) _ w (fun h => absurd h (by decide))]
  rw [show canon .f64 9221120237041090561 = none by decide]
  rfl
theorem first_any (F : Nat) (lt : Option Nat → Option Nat → Bool) (c : Nat → Nat) (w : World) (he : Enters Try.prog F)
    (hF : ∀ (x y : Nat) (w1 : World), Calls Try.prog F #[.float .f32 x, .float .f32 y] w1 (RetBq w1 (lt (canon .f32 x) (canon .f32 y)))) :
    Calls Try.prog 95 #[.agg (fA 16 c), .func (.func F) #[] #[]] w (RetFC w (endVal (fun i => canon .f32 (c i)) (bestTo lt (fun i => canon .f32 (c i)) 16)) (endAt (bestTo lt (fun i => canon .f32 (c i)) 16))) := by
  have HF := Lib.hid hF
  have he' := he
  unfold Enters at he'
  clear hF he
  go_enter Try.func95, Try.ntmps95
  have hix : ∀ (k : Nat) (w : World), k < 16 → (Instr.index 26 (.agg (fA 16 c)) (.int .i64 k)).run Try.prog w = .ok (.float .f32 (c k)) w := fun k w hk =>
    run_index_fA w 26 22 16 c k Try.underlying26 Try.underlying22 (by kernel_rfl) (by omega) (by omega)
  go_wp2_with (refine wpList_load_row rfl 26 _ rfl (w.heap.size) rfl 26 (fA 16 c) (0, 0) _ (Blk.new w _ _) Try.underlying26 rfl (by kernel_rfl) ?_)
  go_loopw [6, 7, 8, 10] (fun best _ _ i wr => ∃ (k : Nat), k ≤ 16 ∧ i = .int .i64 k ∧ Hid (IsBest lt (fun i => canon .f32 (c i)) k best) ∧ Below w.heap.size w wr ∧ Blk wr w.heap.size 26 (fA 16 c)) (fun _ _ _ i _ => 16 - (intOf i).toNat)
  case atStart => exact ⟨0, by omega, rfl, Lib.hid (.inl ⟨rfl, rfl⟩), (by repeat (first | assumption | exact Below.refl _ _ | refine bDrew ?_ _ | refine Below.alloc ?_ (by first | omega | (simp; done) | (simp; omega)) _ | refine Below.setCell ?_ (by first | omega | (simp; done) | (simp; omega)) _ | refine bRow ?_ (by first | omega | (simp; done) | (simp; omega)) _)), (by first | assumption | (repeat (first | assumption | (apply Blk.new_at; (focus (simp; done)); rfl) | apply Blk.alloc | apply Blk.drewN)))⟩
  case round =>
    obtain ⟨k, hk, rfl, Hm, hb, hC⟩ := hrel
    by_cases hlt : k < 16
    · have hx := hix k wr hlt
      clear hix
      cases hc : canon .f32 (c k) with
      | none =>
        have oa : FloatKind.f32.format.order (c k) (c k) = none := by rw [order_self, hc]; rfl
        have Hc := Lib.hid hc
        clear hc
        go_wp2
        go_roundw
        case rel => exact ⟨k + 1, by omega, by go_num, Lib.hid (by have h := Hm.out; unfold IsBest at h ⊢; rw [best_nan (c := fun i => canon .f32 (c i)) Hc.out]; rcases h with h | ⟨b, h1, h2⟩; exact .inl h; exact .inr ⟨b, by omega, h2⟩), hb, hC⟩
        case measure => simp [intOf]; omega
      | some x =>
        have oa : FloatKind.f32.format.order (c k) (c k) = some .eq := by rw [order_self, hc]; rfl
        have Hc := Lib.hid hc
        clear hc
        rcases Hm.out with ⟨hn, rfl⟩ | ⟨b, hbk, hn, rfl⟩
        · have Hn := Lib.hid hn
          clear hn Hm
          go_wp2
          go_roundw
          case rel => exact ⟨k + 1, by omega, by go_num, Lib.hid (.inr ⟨k, by omega, best_first (c := fun i => canon .f32 (c i)) Hc.out Hn.out, rfl⟩), hb, hC⟩
          case measure => simp [intOf]; omega
        · have Hn := Lib.hid hn
          clear hn Hm
          have cb := (hC.cell b).trans (get_fA_lt c (by omega))
          have hb0 : decide ((b : Int) < 0) = false := by simp
          go_wp2_with fail
          refine (HF.out _ _ _).mono ?_
          rintro e w1 ⟨rfl, n, rfl⟩
          clear cb hx
          cases hq : lt (canon .f32 (c k)) (canon .f32 (c b)) with
          | true =>
            have Hq := Lib.hid hq
            clear hq
            go_wp2
            go_roundw
            case rel => exact ⟨k + 1, by omega, by go_num, Lib.hid (.inr ⟨k, by omega, best_more (c := fun i => canon .f32 (c i)) Hc.out Hn.out Hq.out, rfl⟩), bDrew hb n, Blk.drewN hC n⟩
            case measure => simp [intOf]; omega
          | false =>
            have Hq := Lib.hid hq
            clear hq
            go_wp2
            go_roundw
            case rel => exact ⟨k + 1, by omega, by go_num, Lib.hid (.inr ⟨b, by omega, best_less (c := fun i => canon .f32 (c i)) Hc.out Hn.out Hq.out, rfl⟩), bDrew hb n, Blk.drewN hC n⟩
            case measure => simp [intOf]; omega
    · obtain rfl : k = 16 := by omega
      clear hix
      rcases Hm.out with ⟨hn, rfl⟩ | ⟨b, hbk, hn, rfl⟩
      · have Hn := Lib.hid hn
        clear hn Hm
        go_wp2_with fail
        refine (nan_any _).mono ?_
        rintro e w1 ⟨rfl, n, rfl⟩
        go_wp2
        go_ret2
        exact ⟨_, by rw [Hn.out]; rfl, by rw [Hn.out]; exact nan_short _, (by repeat (first | assumption | exact Below.refl _ _ | refine bDrew ?_ _ | refine Below.alloc ?_ (by first | omega | (simp; done) | (simp; omega)) _ | refine Below.setCell ?_ (by first | omega | (simp; done) | (simp; omega)) _ | refine bRow ?_ (by first | omega | (simp; done) | (simp; omega)) _))⟩
      · have Hn := Lib.hid hn
        clear hn Hm
        have cb := (hC.cell b).trans (get_fA_lt c (by omega))
        have hb0 : decide ((b : Int) < 0) = false := by simp
        go_wp2
        go_ret2
        exact ⟨_, by rw [Hn.out]; rfl, by rw [Hn.out]; rfl, hb⟩
theorem betterGreatestOf_any (x y : Nat) (w : World) : Calls Try.prog 96 #[.float .f32 x, .float .f32 y] w (RetBq w (fgt (canon .f32 x) (canon .f32 y))) := by
  go_enter Try.func96, Try.ntmps96
  go_wp2
  go_ret
  exact ⟨congrArg (fun x => Ending.returned (Value.bool x)) (o_gt _ _), 0, rfl⟩
theorem iGreatestOf_any (c : Nat → Nat) (w : World) : Calls Try.prog 67 #[.agg (fA 16 c)] w (RetFC w (endVal (fun i => canon .f32 (c i)) (bestTo fgt (fun i => canon .f32 (c i)) 16)) (endAt (bestTo fgt (fun i => canon .f32 (c i)) 16))) := by
  have hC : Blk (w.alloc (.cells (fA 16 c) 26)) w.heap.size 26 (fA 16 c) := Blk.new _ _ _
  have hb : Below w.heap.size w (w.alloc (.cells (fA 16 c) 26)) := (by repeat (first | assumption | exact Below.refl _ _ | refine bDrew ?_ _ | refine Below.alloc ?_ (by first | omega | (simp; done) | (simp; omega)) _ | refine Below.setCell ?_ (by first | omega | (simp; done) | (simp; omega)) _ | refine bRow ?_ (by first | omega | (simp; done) | (simp; omega)) _))
  go_enter Try.func67, Try.ntmps67
  go_wp2_with (refine wpList_load_row rfl 26 _ rfl _ rfl _ _ (0, 0) _ hC Try.underlying26 rfl (by kernel_rfl) ?_)
  refine (first_any 96 fgt c _ (fun _ _ => by kernel_rfl) betterGreatestOf_any).mono ?_
  rintro e w1 ⟨r, rfl, hr, hb1⟩
  have Hr := Lib.hid hr
  clear hr
  go_wp2
  go_ret2
  exact ⟨_, rfl, Hr.out, bCall hb hb1 hb.size⟩
set_option maxRecDepth 100000 in
set_option maxHeartbeats 800000 in
theorem l01End_greatest (c : Nat → Nat) (w : World) : Calls Try.prog 92 #[.agg (fA 16 c), .bool true] w (RetFC w (endVal (fun i => canon .f32 (c i)) (bestTo fgt (fun i => canon .f32 (c i)) 16)) (endAt (bestTo fgt (fun i => canon .f32 (c i)) 16))) := by
  go_enter Try.func92, Try.ntmps92
  go_wp2
  go_loopw [6, 7] (fun best i wr => ∃ (k : Nat), k ≤ 16 ∧ i = .int .i64 k ∧ Hid (IsBest fgt (fun i => canon .f32 (c i)) k best) ∧ Below w.heap.size w wr ∧ Blk wr w.heap.size 26 (fA 16 c)) (fun _ i _ => 16 - (intOf i).toNat)
  case atStart => exact ⟨0, by omega, rfl, Lib.hid (.inl ⟨rfl, rfl⟩), (by repeat (first | assumption | exact Below.refl _ _ | refine bDrew ?_ _ | refine Below.alloc ?_ (by first | omega | (simp; done) | (simp; omega)) _ | refine Below.setCell ?_ (by first | omega | (simp; done) | (simp; omega)) _ | refine bRow ?_ (by first | omega | (simp; done) | (simp; omega)) _)), (by first | assumption | (repeat (first | assumption | (apply Blk.new_at; (focus (simp; done)); rfl) | apply Blk.alloc | apply Blk.drewN)))⟩
  case round =>
    obtain ⟨k, hk, rfl, Hm, hb, hC⟩ := hrel
    by_cases hlt : k < 16
    · have c1 := (hC.cell k).trans (get_fA_lt c hlt)
      cases hc : canon .f32 (c k) with
      | none =>
        have oa : FloatKind.f32.format.order (c k) (c k) = none := by rw [order_self, hc]; rfl
        have Hc := Lib.hid hc
        clear hc
        go_wp2_with fail
        refine wp_region_hl (fun w' => ∃ n, w' = wr.drewN n) (fun _ _ _ => False) (by kernel_rfl) (by kernel_rfl) ⟨1, rfl⟩ ?_
        iterate 7 (refine hl_plain rfl (fun K hK w1 hw1 => ?_); obtain ⟨n, rfl⟩ := hw1; go_simp; refine ⟨⟨_, rfl⟩, hK _ ?_⟩; clear hK K)
        (refine hl_nil ?_; intro _ hw'; obtain ⟨nq, rfl⟩ := hw')
        go_wp2
        go_roundw
        case rel => exact ⟨k + 1, by omega, by go_num, Lib.hid (by have h := Hm.out; unfold IsBest at h ⊢; rw [best_nan (c := fun i => canon .f32 (c i)) Hc.out]; rcases h with h | ⟨b, h1, h2⟩; exact .inl h; exact .inr ⟨b, by omega, h2⟩), bDrew hb _, Blk.drewN hC _⟩
        case measure => simp [intOf]; omega
      | some x =>
        have oa : FloatKind.f32.format.order (c k) (c k) = some .eq := by rw [order_self, hc]; rfl
        have Hc := Lib.hid hc
        clear hc
        rcases Hm.out with ⟨hn, rfl⟩ | ⟨b, hbk, hn, rfl⟩
        · have Hn := Lib.hid hn
          clear hn Hm
          go_wp2_with fail
          refine wp_region_hl (fun w' => ∃ n, w' = wr.drewN n) (fun _ _ _ => False) (by kernel_rfl) (by kernel_rfl) ⟨1, rfl⟩ ?_
          iterate 7 (refine hl_plain rfl (fun K hK w1 hw1 => ?_); obtain ⟨n, rfl⟩ := hw1; go_simp; refine ⟨⟨_, rfl⟩, hK _ ?_⟩; clear hK K)
          (refine hl_nil ?_; intro _ hw'; obtain ⟨nq, rfl⟩ := hw')
          have c1 := ((Blk.drewN hC nq).cell k).trans (get_fA_lt c hlt)
          go_wp2_with fail
          refine wp_region_hl (fun w' => ∃ n, w' = wr.drewN n) (fun _ _ _ => False) (by kernel_rfl) (by kernel_rfl) ⟨nq + 1, by rw [← World.drewN_drewN]; rfl⟩ ?_
          iterate 3 (refine hl_plain rfl (fun K hK w1 hw1 => ?_); obtain ⟨n, rfl⟩ := hw1; go_simp; refine ⟨⟨_, rfl⟩, hK _ ?_⟩; clear hK K)
          iterate 10 (refine (hl_skipE (by kernel_rfl) (by go_simp; rfl) ?_))
          iterate 2 (refine hl_plain rfl (fun K hK w1 hw1 => ?_); obtain ⟨n, rfl⟩ := hw1; go_simp; refine ⟨⟨_, rfl⟩, hK _ ?_⟩; clear hK K)
          iterate 11 (refine (hl_skipE (by kernel_rfl) (by go_simp; rfl) ?_))
          iterate 1 (refine hl_plain rfl (fun K hK w1 hw1 => ?_); obtain ⟨n, rfl⟩ := hw1; go_simp; refine ⟨⟨_, rfl⟩, hK _ ?_⟩; clear hK K)
          (refine hl_nil ?_; intro _ hw'; obtain ⟨nq, rfl⟩ := hw')
          go_wp2
          go_roundw
          case rel => exact ⟨k + 1, by omega, by go_num, Lib.hid (.inr ⟨k, by omega, best_first (c := fun i => canon .f32 (c i)) Hc.out Hn.out, rfl⟩), bDrew hb _, Blk.drewN hC _⟩
          case measure => simp [intOf]; omega
        · have Hn := Lib.hid hn
          clear hn Hm
          have cb := (hC.cell b).trans (get_fA_lt c (by omega))
          have hb0 : decide ((b : Int) < 0) = false := by simp
          have hb16 : (b : Int) < 16 := by omega
          have eb : (FloatKind.f32.format.order (c k) (c b) == some .gt) = fgt (canon .f32 (c k)) (canon .f32 (c b)) := o_gt _ _
          have Eb := Lib.hid eb
          clear eb
          go_wp2_with fail
          refine wp_region_hl (fun w' => ∃ n, w' = wr.drewN n) (fun _ _ _ => False) (by kernel_rfl) (by kernel_rfl) ⟨1, rfl⟩ ?_
          iterate 7 (refine hl_plain rfl (fun K hK w1 hw1 => ?_); obtain ⟨n, rfl⟩ := hw1; go_simp; refine ⟨⟨_, rfl⟩, hK _ ?_⟩; clear hK K)
          (refine hl_nil ?_; intro _ hw'; obtain ⟨nq, rfl⟩ := hw')
          have c1 := ((Blk.drewN hC nq).cell k).trans (get_fA_lt c hlt)
          have cb := ((Blk.drewN hC nq).cell b).trans (get_fA_lt c (by omega))
          go_wp2_with fail
          refine wp_region_hl (fun w' => ∃ n, w' = wr.drewN n) (fun _ _ _ => False) (by kernel_rfl) (by kernel_rfl) ⟨nq + 1, by rw [← World.drewN_drewN]; rfl⟩ ?_
          iterate 3 (refine hl_plain rfl (fun K hK w1 hw1 => ?_); obtain ⟨n, rfl⟩ := hw1; go_simp; refine ⟨⟨_, rfl⟩, hK _ ?_⟩; clear hK K)
          iterate 9 (refine (hl_want (by kernel_rfl) (fun K hK w1 hw1 => ?_)); obtain ⟨n, rfl⟩ := hw1; go_simp; refine ⟨⟨_, rfl⟩, hK _ ?_⟩; clear hK K)
          rw [Eb.out]
          cases hq : fgt (canon .f32 (c k)) (canon .f32 (c b)) with
          | true =>
            have Hq := Lib.hid hq
            clear hq
            iterate 1 (refine (hl_want (by kernel_rfl) (fun K hK w1 hw1 => ?_)); obtain ⟨n, rfl⟩ := hw1; go_simp; refine ⟨⟨_, rfl⟩, hK _ ?_⟩; clear hK K)
            iterate 2 (refine hl_plain rfl (fun K hK w1 hw1 => ?_); obtain ⟨n, rfl⟩ := hw1; go_simp; refine ⟨⟨_, rfl⟩, hK _ ?_⟩; clear hK K)
            iterate 11 (refine (hl_skipE (by kernel_rfl) (by go_simp; rfl) ?_))
            iterate 1 (refine hl_plain rfl (fun K hK w1 hw1 => ?_); obtain ⟨n, rfl⟩ := hw1; go_simp; refine ⟨⟨_, rfl⟩, hK _ ?_⟩; clear hK K)
            (refine hl_nil ?_; intro _ hw'; obtain ⟨nq, rfl⟩ := hw')
            go_wp2
            go_roundw
            case rel => exact ⟨k + 1, by omega, by go_num, Lib.hid (.inr ⟨k, by omega, best_more (c := fun i => canon .f32 (c i)) Hc.out Hn.out Hq.out, rfl⟩), bDrew hb _, Blk.drewN hC _⟩
            case measure => simp [intOf]; omega
          | false =>
            have Hq := Lib.hid hq
            clear hq
            iterate 1 (refine (hl_want (by kernel_rfl) (fun K hK w1 hw1 => ?_)); obtain ⟨n, rfl⟩ := hw1; go_simp; refine ⟨⟨_, rfl⟩, hK _ ?_⟩; clear hK K)
            iterate 2 (refine hl_plain rfl (fun K hK w1 hw1 => ?_); obtain ⟨n, rfl⟩ := hw1; go_simp; refine ⟨⟨_, rfl⟩, hK _ ?_⟩; clear hK K)
            iterate 3 (refine (hl_want (by kernel_rfl) (fun K hK w1 hw1 => ?_)); obtain ⟨n, rfl⟩ := hw1; go_simp; refine ⟨⟨_, rfl⟩, hK _ ?_⟩; clear hK K)
            iterate 7 (refine (hl_skipE (by kernel_rfl) (by go_simp; rfl) ?_))
            iterate 1 (refine (hl_want (by kernel_rfl) (fun K hK w1 hw1 => ?_)); obtain ⟨n, rfl⟩ := hw1; go_simp; refine ⟨⟨_, rfl⟩, hK _ ?_⟩; clear hK K)
            iterate 1 (refine hl_plain rfl (fun K hK w1 hw1 => ?_); obtain ⟨n, rfl⟩ := hw1; go_simp; refine ⟨⟨_, rfl⟩, hK _ ?_⟩; clear hK K)
            (refine hl_nil ?_; intro _ hw'; obtain ⟨nq, rfl⟩ := hw')
            go_wp2
            go_roundw
            case rel => exact ⟨k + 1, by omega, by go_num, Lib.hid (.inr ⟨b, by omega, best_less (c := fun i => canon .f32 (c i)) Hc.out Hn.out Hq.out, rfl⟩), bDrew hb _, Blk.drewN hC _⟩
            case measure => simp [intOf]; omega
    · obtain rfl : k = 16 := by omega
      rcases Hm.out with ⟨hn, rfl⟩ | ⟨b, hbk, hn, rfl⟩
      · have Hn := Lib.hid hn
        clear hn Hm
        go_wp2_with fail
        refine (nan_any _).mono ?_
        rintro e w1 ⟨rfl, n, rfl⟩
        go_wp2
        go_ret2
        exact ⟨_, by rw [Hn.out]; rfl, by rw [Hn.out]; exact nan_short _, (by repeat (first | assumption | exact Below.refl _ _ | refine bDrew ?_ _ | refine Below.alloc ?_ (by first | omega | (simp; done) | (simp; omega)) _ | refine Below.setCell ?_ (by first | omega | (simp; done) | (simp; omega)) _ | refine bRow ?_ (by first | omega | (simp; done) | (simp; omega)) _))⟩
      · have Hn := Lib.hid hn
        clear hn Hm
        have cb := (hC.cell b).trans (get_fA_lt c (by omega))
        have hb0 : decide ((b : Int) < 0) = false := by simp
        go_wp2
        go_ret2
        exact ⟨_, by rw [Hn.out]; rfl, by rw [Hn.out]; rfl, hb⟩
set_option maxRecDepth 100000 in
set_option maxHeartbeats 800000 in
theorem l01End_least (c : Nat → Nat) (w : World) : Calls Try.prog 92 #[.agg (fA 16 c), .bool false] w (RetFC w (endVal (fun i => canon .f32 (c i)) (bestTo flt (fun i => canon .f32 (c i)) 16)) (endAt (bestTo flt (fun i => canon .f32 (c i)) 16))) := by
  go_enter Try.func92, Try.ntmps92
  go_wp2
  go_loopw [6, 7] (fun best i wr => ∃ (k : Nat), k ≤ 16 ∧ i = .int .i64 k ∧ Hid (IsBest flt (fun i => canon .f32 (c i)) k best) ∧ Below w.heap.size w wr ∧ Blk wr w.heap.size 26 (fA 16 c)) (fun _ i _ => 16 - (intOf i).toNat)
  case atStart => exact ⟨0, by omega, rfl, Lib.hid (.inl ⟨rfl, rfl⟩), (by repeat (first | assumption | exact Below.refl _ _ | refine bDrew ?_ _ | refine Below.alloc ?_ (by first | omega | (simp; done) | (simp; omega)) _ | refine Below.setCell ?_ (by first | omega | (simp; done) | (simp; omega)) _ | refine bRow ?_ (by first | omega | (simp; done) | (simp; omega)) _)), (by first | assumption | (repeat (first | assumption | (apply Blk.new_at; (focus (simp; done)); rfl) | apply Blk.alloc | apply Blk.drewN)))⟩
  case round =>
    obtain ⟨k, hk, rfl, Hm, hb, hC⟩ := hrel
    by_cases hlt : k < 16
    · have c1 := (hC.cell k).trans (get_fA_lt c hlt)
      cases hc : canon .f32 (c k) with
      | none =>
        have oa : FloatKind.f32.format.order (c k) (c k) = none := by rw [order_self, hc]; rfl
        have Hc := Lib.hid hc
        clear hc
        go_wp2_with fail
        refine wp_region_hl (fun w' => ∃ n, w' = wr.drewN n) (fun _ _ _ => False) (by kernel_rfl) (by kernel_rfl) ⟨1, rfl⟩ ?_
        iterate 7 (refine hl_plain rfl (fun K hK w1 hw1 => ?_); obtain ⟨n, rfl⟩ := hw1; go_simp; refine ⟨⟨_, rfl⟩, hK _ ?_⟩; clear hK K)
        (refine hl_nil ?_; intro _ hw'; obtain ⟨nq, rfl⟩ := hw')
        go_wp2
        go_roundw
        case rel => exact ⟨k + 1, by omega, by go_num, Lib.hid (by have h := Hm.out; unfold IsBest at h ⊢; rw [best_nan (c := fun i => canon .f32 (c i)) Hc.out]; rcases h with h | ⟨b, h1, h2⟩; exact .inl h; exact .inr ⟨b, by omega, h2⟩), bDrew hb _, Blk.drewN hC _⟩
        case measure => simp [intOf]; omega
      | some x =>
        have oa : FloatKind.f32.format.order (c k) (c k) = some .eq := by rw [order_self, hc]; rfl
        have Hc := Lib.hid hc
        clear hc
        rcases Hm.out with ⟨hn, rfl⟩ | ⟨b, hbk, hn, rfl⟩
        · have Hn := Lib.hid hn
          clear hn Hm
          go_wp2_with fail
          refine wp_region_hl (fun w' => ∃ n, w' = wr.drewN n) (fun _ _ _ => False) (by kernel_rfl) (by kernel_rfl) ⟨1, rfl⟩ ?_
          iterate 7 (refine hl_plain rfl (fun K hK w1 hw1 => ?_); obtain ⟨n, rfl⟩ := hw1; go_simp; refine ⟨⟨_, rfl⟩, hK _ ?_⟩; clear hK K)
          (refine hl_nil ?_; intro _ hw'; obtain ⟨nq, rfl⟩ := hw')
          have c1 := ((Blk.drewN hC nq).cell k).trans (get_fA_lt c hlt)
          go_wp2_with fail
          refine wp_region_hl (fun w' => ∃ n, w' = wr.drewN n) (fun _ _ _ => False) (by kernel_rfl) (by kernel_rfl) ⟨nq + 1, by rw [← World.drewN_drewN]; rfl⟩ ?_
          iterate 3 (refine hl_plain rfl (fun K hK w1 hw1 => ?_); obtain ⟨n, rfl⟩ := hw1; go_simp; refine ⟨⟨_, rfl⟩, hK _ ?_⟩; clear hK K)
          iterate 10 (refine (hl_skipE (by kernel_rfl) (by go_simp; rfl) ?_))
          iterate 2 (refine hl_plain rfl (fun K hK w1 hw1 => ?_); obtain ⟨n, rfl⟩ := hw1; go_simp; refine ⟨⟨_, rfl⟩, hK _ ?_⟩; clear hK K)
          iterate 11 (refine (hl_skipE (by kernel_rfl) (by go_simp; rfl) ?_))
          iterate 1 (refine hl_plain rfl (fun K hK w1 hw1 => ?_); obtain ⟨n, rfl⟩ := hw1; go_simp; refine ⟨⟨_, rfl⟩, hK _ ?_⟩; clear hK K)
          (refine hl_nil ?_; intro _ hw'; obtain ⟨nq, rfl⟩ := hw')
          go_wp2
          go_roundw
          case rel => exact ⟨k + 1, by omega, by go_num, Lib.hid (.inr ⟨k, by omega, best_first (c := fun i => canon .f32 (c i)) Hc.out Hn.out, rfl⟩), bDrew hb _, Blk.drewN hC _⟩
          case measure => simp [intOf]; omega
        · have Hn := Lib.hid hn
          clear hn Hm
          have cb := (hC.cell b).trans (get_fA_lt c (by omega))
          have hb0 : decide ((b : Int) < 0) = false := by simp
          have hb16 : (b : Int) < 16 := by omega
          have eb : (FloatKind.f32.format.order (c k) (c b) == some .lt) = flt (canon .f32 (c k)) (canon .f32 (c b)) := o_lt _ _
          have Eb := Lib.hid eb
          clear eb
          go_wp2_with fail
          refine wp_region_hl (fun w' => ∃ n, w' = wr.drewN n) (fun _ _ _ => False) (by kernel_rfl) (by kernel_rfl) ⟨1, rfl⟩ ?_
          iterate 7 (refine hl_plain rfl (fun K hK w1 hw1 => ?_); obtain ⟨n, rfl⟩ := hw1; go_simp; refine ⟨⟨_, rfl⟩, hK _ ?_⟩; clear hK K)
          (refine hl_nil ?_; intro _ hw'; obtain ⟨nq, rfl⟩ := hw')
          have c1 := ((Blk.drewN hC nq).cell k).trans (get_fA_lt c hlt)
          have cb := ((Blk.drewN hC nq).cell b).trans (get_fA_lt c (by omega))
          go_wp2_with fail
          refine wp_region_hl (fun w' => ∃ n, w' = wr.drewN n) (fun _ _ _ => False) (by kernel_rfl) (by kernel_rfl) ⟨nq + 1, by rw [← World.drewN_drewN]; rfl⟩ ?_
          iterate 3 (refine hl_plain rfl (fun K hK w1 hw1 => ?_); obtain ⟨n, rfl⟩ := hw1; go_simp; refine ⟨⟨_, rfl⟩, hK _ ?_⟩; clear hK K)
          iterate 2 (refine (hl_want (by kernel_rfl) (fun K hK w1 hw1 => ?_)); obtain ⟨n, rfl⟩ := hw1; go_simp; refine ⟨⟨_, rfl⟩, hK _ ?_⟩; clear hK K)
          iterate 7 (refine (hl_skipE (by kernel_rfl) (by go_simp; rfl) ?_))
          iterate 1 (refine (hl_want (by kernel_rfl) (fun K hK w1 hw1 => ?_)); obtain ⟨n, rfl⟩ := hw1; go_simp; refine ⟨⟨_, rfl⟩, hK _ ?_⟩; clear hK K)
          iterate 2 (refine hl_plain rfl (fun K hK w1 hw1 => ?_); obtain ⟨n, rfl⟩ := hw1; go_simp; refine ⟨⟨_, rfl⟩, hK _ ?_⟩; clear hK K)
          iterate 10 (refine (hl_want (by kernel_rfl) (fun K hK w1 hw1 => ?_)); obtain ⟨n, rfl⟩ := hw1; go_simp; refine ⟨⟨_, rfl⟩, hK _ ?_⟩; clear hK K)
          rw [Eb.out]
          cases hq : flt (canon .f32 (c k)) (canon .f32 (c b)) with
          | true =>
            have Hq := Lib.hid hq
            clear hq
            iterate 1 (refine (hl_want (by kernel_rfl) (fun K hK w1 hw1 => ?_)); obtain ⟨n, rfl⟩ := hw1; go_simp; refine ⟨⟨_, rfl⟩, hK _ ?_⟩; clear hK K)
            iterate 1 (refine hl_plain rfl (fun K hK w1 hw1 => ?_); obtain ⟨n, rfl⟩ := hw1; go_simp; refine ⟨⟨_, rfl⟩, hK _ ?_⟩; clear hK K)
            (refine hl_nil ?_; intro _ hw'; obtain ⟨nq, rfl⟩ := hw')
            go_wp2
            go_roundw
            case rel => exact ⟨k + 1, by omega, by go_num, Lib.hid (.inr ⟨k, by omega, best_more (c := fun i => canon .f32 (c i)) Hc.out Hn.out Hq.out, rfl⟩), bDrew hb _, Blk.drewN hC _⟩
            case measure => simp [intOf]; omega
          | false =>
            have Hq := Lib.hid hq
            clear hq
            iterate 1 (refine (hl_want (by kernel_rfl) (fun K hK w1 hw1 => ?_)); obtain ⟨n, rfl⟩ := hw1; go_simp; refine ⟨⟨_, rfl⟩, hK _ ?_⟩; clear hK K)
            iterate 1 (refine hl_plain rfl (fun K hK w1 hw1 => ?_); obtain ⟨n, rfl⟩ := hw1; go_simp; refine ⟨⟨_, rfl⟩, hK _ ?_⟩; clear hK K)
            (refine hl_nil ?_; intro _ hw'; obtain ⟨nq, rfl⟩ := hw')
            go_wp2
            go_roundw
            case rel => exact ⟨k + 1, by omega, by go_num, Lib.hid (.inr ⟨b, by omega, best_less (c := fun i => canon .f32 (c i)) Hc.out Hn.out Hq.out, rfl⟩), bDrew hb _, Blk.drewN hC _⟩
            case measure => simp [intOf]; omega
    · obtain rfl : k = 16 := by omega
      rcases Hm.out with ⟨hn, rfl⟩ | ⟨b, hbk, hn, rfl⟩
      · have Hn := Lib.hid hn
        clear hn Hm
        go_wp2_with fail
        refine (nan_any _).mono ?_
        rintro e w1 ⟨rfl, n, rfl⟩
        go_wp2
        go_ret2
        exact ⟨_, by rw [Hn.out]; rfl, by rw [Hn.out]; exact nan_short _, (by repeat (first | assumption | exact Below.refl _ _ | refine bDrew ?_ _ | refine Below.alloc ?_ (by first | omega | (simp; done) | (simp; omega)) _ | refine Below.setCell ?_ (by first | omega | (simp; done) | (simp; omega)) _ | refine bRow ?_ (by first | omega | (simp; done) | (simp; omega)) _))⟩
      · have Hn := Lib.hid hn
        clear hn Hm
        have cb := (hC.cell b).trans (get_fA_lt c (by omega))
        have hb0 : decide ((b : Int) < 0) = false := by simp
        go_wp2
        go_ret2
        exact ⟨_, by rw [Hn.out]; rfl, by rw [Hn.out]; rfl, hb⟩
end Go.Proofs.Ytcmamfpcdhhboaa
