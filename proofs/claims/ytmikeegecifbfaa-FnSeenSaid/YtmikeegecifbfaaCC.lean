/- Contracts: sums; whether two rows are alike. -/
import Derived.Test.YtmikeegecifbfaaCB
namespace Go.Proofs.Ytmikeegecifbfaa
open Go.RowKit
set_option maxRecDepth 100000

/-- The sum of a row in one block. -/
theorem sum_any (g n : Nat) (T : TypeId) (b : Nat → Nat) (w : World) (hB : Blk w g T (fA n b)) (hn : n ≤ 1000) :
    Calls Try.prog 55 #[.slice (some ⟨g, 0, none⟩) n n] w (RetFq w (fsumTo (fun i => canon .f32 (b i)) n)) := by
  go_enter Try.func55, Try.ntmps55
  go_wp2
  go_loopw [3, 4, 5, 8] (fun s _ _ i wr => ∃ (k r : Nat), k ≤ n ∧ i = .int .i64 k ∧ s = .float .f32 r ∧ canon .f32 r = fsumTo (fun i => canon .f32 (b i)) k ∧ Drawn w wr) (fun _ _ _ i _ => n - (intOf i).toNat)
  case atStart => exact ⟨0, 0, by omega, rfl, rfl, rfl, 0, rfl⟩
  case round =>
    obtain ⟨k, r, hk, rfl, rfl, hr, m, rfl⟩ := hrel
    have Hr := Lib.hid hr
    clear hr
    by_cases hlt : k < n
    · have c1 := (hB.cell k).trans (get_fA_lt b hlt)
      by_cases h0 : k = 0
      · subst h0
        go_wp2
        go_roundw
        case rel => exact ⟨1, _, by omega, rfl, rfl, rfl, _, rfl⟩
        case measure => simp [intOf]; omega
      · have h1 : ((k : Int) == 0) = false := by simp; omega
        have Hk : Hid (k - 1 + 1 = k) := by unfold Hid; omega
        go_wp2
        go_roundw
        case rel =>
          refine ⟨k + 1, _, by omega, by go_num, rfl, ?_, _, rfl⟩
          rw [c_add, Hr.out]
          have := Hk.out
          generalize k - 1 = q at this
          subst this
          rfl
        case measure => simp [intOf]; omega
    · obtain rfl : k = n := by omega
      go_wp2
      go_ret
      exact ⟨_, rfl, Hr.out, _, rfl⟩

theorem equalFunc_any (g1 g2 n : Nat) (T1 T2 : TypeId) (a b : Nat → Nat) (w : World) (hA : Blk w g1 T1 (fA n a)) (hB : Blk w g2 T2 (fA n b)) (hn : n ≤ 1000) :
    Calls Try.prog 50 #[.slice (some ⟨g1, 0, none⟩) n n, .slice (some ⟨g2, 0, none⟩) n n, .func (.func 51) #[] #[]] w
      (RetBq w (allTo n fun i => canon .f32 (a i) == canon .f32 (b i))) := by
  have he := iSame_enters
  unfold Enters at he
  go_enter Try.func50, Try.ntmps50
  go_wp2
  go_loopw [7, 8, 9, 17] (fun _ _ _ i wr => ∃ (k : Nat), k ≤ n ∧ i = .int .i64 k ∧ (∀ j, j < k → (canon .f32 (a j) == canon .f32 (b j)) = true) ∧ Drawn w wr) (fun _ _ _ i _ => n - (intOf i).toNat)
  case atStart => exact ⟨0, by omega, rfl, fun j h => absurd h (by omega), 0, rfl⟩
  case round =>
    obtain ⟨k, hk, rfl, hc, m, rfl⟩ := hrel
    have Hc := Lib.hid hc
    clear hc
    by_cases hlt : k < n
    · have c1 := (hA.cell k).trans (get_fA_lt a hlt)
      have c2 := (hB.cell k).trans (get_fA_lt b hlt)
      go_wp2_with fail
      refine (iSame_any _ _ _).mono ?_
      rintro e w' ⟨rfl, n1, rfl⟩
      cases hq : (canon .f32 (a k) == canon .f32 (b k)) with
      | false =>
        have Hq := Lib.hid hq
        clear hq
        go_wp2
        go_ret
        exact ⟨congrArg (fun x => Ending.returned (Value.bool x)) (allTo_false hlt Hq.out).symm, _, rfl⟩
      | true =>
        have Hq := Lib.hid hq
        clear hq
        go_wp2
        go_roundw
        case rel =>
          refine ⟨k + 1, by omega, by go_num, ?_, _, rfl⟩
          intro j hj
          by_cases e : j = k
          · subst e; exact Hq.out
          · exact Hc.out j (by omega)
        case measure => simp [intOf]; omega
    · obtain rfl : k = n := by omega
      go_wp2
      go_ret
      exact ⟨congrArg (fun x => Ending.returned (Value.bool x)) (allTo_true Hc.out).symm, _, rfl⟩

end Go.Proofs.Ytmikeegecifbfaa
