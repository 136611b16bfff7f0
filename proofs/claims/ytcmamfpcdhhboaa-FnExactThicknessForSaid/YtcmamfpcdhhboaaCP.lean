/- Contracts: the reference's test of a film. -/
import Derived.Test.YtcmamfpcdhhboaaCO
import Derived.Test.YtcmamfpcdhhboaaHeld
namespace Go.Proofs.Ytcmamfpcdhhboaa
open Go.RowKit
set_option maxRecDepth 100000

set_option maxRecDepth 100000 in
set_option maxHeartbeats 500000 in
theorem l02Film_any (g : Nat) (T : TypeId) (a : Nat → Nat) (w : World) (hA : Blk w g T (fA 48 a)) : Calls Try.prog 36 #[.pointer (some ⟨g, 0, none⟩)] w (RetB w (filmOk a)) := by
  have hb := Below.refl w.heap.size w
  go_enter Try.func36, Try.ntmps36
  go_wp2_with (refine wpList_load_part rfl 26 _ rfl 0 16 hA rfl (by decide) Try.underlying26 rfl (by kernel_rfl) ?_)
  refine (l02Share_any (rowAt a 0) w).mono ?_
  rintro e w1 ⟨rfl, hb1⟩
  have hA := hA.below hb1 hA.lt
  have hb := bCall hb hb1 hb.size
  clear hb1
  cases h0 : (allTo 16 fun i => share (canon .f32 (rowAt a 0 i))) with
  | false =>
    have H0 := Lib.hid h0
    clear h0
    go_wp2
    go_ret
    exact ⟨congrArg (fun x => Ending.returned (Value.bool x)) (by have h := H0.out; simp [filmOk, h]), hb⟩
  | true =>
    have H0 := Lib.hid h0
    clear h0
    go_wp2_with (refine wpList_load_partW rfl 26 _ rfl 16 16 hA rfl (by decide) Try.underlying26 rfl (by kernel_rfl) ?_)
    refine (l02Share_any (rowAt a 16) w1).mono ?_
    rintro e w2 ⟨rfl, hb1⟩
    have hA := hA.below hb1 hA.lt
    have hb := bCall hb hb1 hb.size
    clear hb1
    cases h1 : (allTo 16 fun i => share (canon .f32 (rowAt a 16 i))) with
    | false =>
      have H1 := Lib.hid h1
      clear h1
      go_wp2
      go_ret
      exact ⟨congrArg (fun x => Ending.returned (Value.bool x)) (by have h := H1.out; simp [filmOk, h]), hb⟩
    | true =>
      have H1 := Lib.hid h1
      clear h1
      go_wp2_with (refine wpList_load_partW rfl 26 _ rfl 32 16 hA rfl (by decide) Try.underlying26 rfl (by kernel_rfl) ?_)
      refine (l02Share_any (rowAt a 32) w2).mono ?_
      rintro e w3 ⟨rfl, hb1⟩
      have hA := hA.below hb1 hA.lt
      have hb := bCall hb hb1 hb.size
      clear hb1
      cases h2 : (allTo 16 fun i => share (canon .f32 (rowAt a 32 i))) with
      | false =>
        have H2 := Lib.hid h2
        clear h2
        go_wp2
        go_ret
        exact ⟨congrArg (fun x => Ending.returned (Value.bool x)) (by have h := H2.out; simp [filmOk, h]), hb⟩
      | true =>
        have H2 := Lib.hid h2
        clear h2
        go_wp2
        go_loopw [3] (fun i wr => ∃ (k : Nat), k ≤ 16 ∧ i = .int .i64 k ∧ Below w.heap.size w wr ∧ Blk wr g T (fA 48 a) ∧ (∀ j, j < k → least (canon .f32 (rowAt a 0 j)) (canon .f32 (rowAt a 32 j)) = true) ∧ ∀ j, j < k → least (canon .f32 (rowAt a 16 j)) (canon .f32 (rowAt a 32 j)) = true) (fun i _ => 16 - (intOf i).toNat)
        case atStart => exact ⟨0, by omega, rfl, hb, hA, fun j h => absurd h (by omega), fun j h => absurd h (by omega)⟩
        case round =>
          clear hA hb
          obtain ⟨k, hk, rfl, hb, hA, hc, hd⟩ := hrel
          have Hc := Lib.hid hc
          have Hd := Lib.hid hd
          clear hc hd
          by_cases hlt : k < 16
          · have c0 : wr.cell? ⟨g, k, none⟩ = some (.float .f32 (a k)) := (hA.cell k).trans (get_fA_lt a (by omega))
            have c1 : wr.cell? ⟨g, 16 + k, none⟩ = some (.float .f32 (a (16 + k))) := (hA.cell (16 + k)).trans (get_fA_lt a (by omega))
            have c2 : wr.cell? ⟨g, 32 + k, none⟩ = some (.float .f32 (a (32 + k))) := (hA.cell (32 + k)).trans (get_fA_lt a (by omega))
            have S0 : share (canon .f32 (a k)) = true := by have h := allTo_get H0.out hlt; simp only [rowAt, Nat.zero_add] at h; exact h
            have S1 : share (canon .f32 (a (16 + k))) = true := allTo_get H1.out hlt
            have S2 : share (canon .f32 (a (32 + k))) = true := allTo_get H2.out hlt
            have e0 : Hid (∀ w', (FloatKind.f32.format.order (fval .add .f32 (a k) (a (32 + k)) w') 1065361605 == some .gt) = !least (canon .f32 (a k)) (canon .f32 (a (32 + k)))) := Lib.hid fun w' => by rw [o_gt, c_add]; exact share_gt S0 S2
            have e1 : Hid (∀ w', (FloatKind.f32.format.order (fval .add .f32 (a (16 + k)) (a (32 + k)) w') 1065361605 == some .gt) = !least (canon .f32 (a (16 + k))) (canon .f32 (a (32 + k)))) := Lib.hid fun w' => by rw [o_gt, c_add]; exact share_gt S1 S2
            clear S0 S1 S2
            go_wp2_with fail
            refine wp_region_hl (fun w' => ∃ n, w' = wr.drewN n) (fun _ _ _ => False) (by kernel_rfl) (by kernel_rfl) ⟨1, rfl⟩ ?_
            iterate 15 (refine hl_plain rfl (fun K hK w1 hw1 => ?_); obtain ⟨n, rfl⟩ := hw1; go_simp; refine ⟨⟨_, rfl⟩, hK _ ?_⟩; clear hK K)
            rw [e0.out]
            cases hq : least (canon .f32 (a k)) (canon .f32 (a (32 + k))) with
            | false =>
              have Hq := Lib.hid hq
              clear hq
              iterate 14 (refine (hl_skipE (by kernel_rfl) (by go_simp; rfl) ?_))
              iterate 1 (refine hl_plain rfl (fun K hK w1 hw1 => ?_); obtain ⟨n, rfl⟩ := hw1; go_simp; refine ⟨⟨_, rfl⟩, hK _ ?_⟩; clear hK K)
              (refine hl_nil ?_; intro _ hw'; obtain ⟨nq, rfl⟩ := hw')
              go_wp2
              go_ret
              exact ⟨congrArg (fun x => Ending.returned (Value.bool x)) (by have h := allTo_false (p := fun i => least (canon .f32 (rowAt a 0 i)) (canon .f32 (rowAt a 32 i))) hlt (by simp only [rowAt, Nat.zero_add]; exact Hq.out); simp [filmOk, h]), bDrew hb _⟩
            | true =>
              have Hq := Lib.hid hq
              clear hq
              iterate 14 (refine (hl_want (by kernel_rfl) (fun K hK w1 hw1 => ?_)); obtain ⟨n, rfl⟩ := hw1; go_simp; refine ⟨⟨_, rfl⟩, hK _ ?_⟩; clear hK K)
              rw [e1.out]
              iterate 1 (refine hl_plain rfl (fun K hK w1 hw1 => ?_); obtain ⟨n, rfl⟩ := hw1; go_simp; refine ⟨⟨_, rfl⟩, hK _ ?_⟩; clear hK K)
              (refine hl_nil ?_; intro _ hw'; obtain ⟨nq, rfl⟩ := hw')
              cases hq2 : least (canon .f32 (a (16 + k))) (canon .f32 (a (32 + k))) with
              | false =>
                have Hq2 := Lib.hid hq2
                clear hq2
                go_wp2
                go_ret
                exact ⟨congrArg (fun x => Ending.returned (Value.bool x)) (by have h := allTo_false (p := fun i => least (canon .f32 (rowAt a 16 i)) (canon .f32 (rowAt a 32 i))) hlt Hq2.out; simp [filmOk, h]), bDrew hb _⟩
              | true =>
                have Hq2 := Lib.hid hq2
                clear hq2
                go_wp2
                go_roundw
                case rel =>
                  refine ⟨k + 1, by omega, by go_num, bDrew hb _, Blk.drewN hA _, ?_, ?_⟩
                  · intro j hj
                    by_cases e : j = k
                    · subst e; simp only [rowAt, Nat.zero_add]; exact Hq.out
                    · exact Hc.out j (by omega)
                  · intro j hj
                    by_cases e : j = k
                    · subst e; exact Hq2.out
                    · exact Hd.out j (by omega)
                case measure => simp [intOf]; omega
          · obtain rfl : k = 16 := by omega
            go_wp2
            go_ret
            exact ⟨congrArg (fun x => Ending.returned (Value.bool x)) (by have h0 := H0.out; have h1 := H1.out; have h2 := H2.out; simp only [filmOk, h0, h1, h2, allTo_true Hc.out, allTo_true Hd.out, Bool.true_and]), hb⟩
end Go.Proofs.Ytcmamfpcdhhboaa
