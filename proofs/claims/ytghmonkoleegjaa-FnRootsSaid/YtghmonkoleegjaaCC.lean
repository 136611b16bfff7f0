/- Contracts: sums; whether two rows are alike. -/
import Derived.Test.YtghmonkoleegjaaCB
namespace Go.Proofs.Ytghmonkoleegjaa
open Go.RowKit
set_option maxRecDepth 100000

/-- The sum of a row in one block. -/
theorem sum_any (g n : Nat) (T : TypeId) (b : Nat → Nat) (w : World) (hB : Blk w g T (fA n b)) (hn : n ≤ 1000) :
    Calls Try.prog 56 #[.slice (some ⟨g, 0, none⟩) n n] w (RetFq w (fsumTo (fun i => canon .f32 (b i)) n)) := by
  go_enter Try.func56, Try.ntmps56
  go_wp2
  go_loopw [3, 4, 5, 8] (fun s _ _ i wr => ∃ (k r : Nat), k ≤ n ∧ i = .int .i64 k ∧ s = .float .f32 r ∧ canon .f32 r = fsumTo (fun i => canon .f32 (b i)) k ∧ Drawn w wr) (fun _ _ _ i _ => n - (intOf i).toNat)
  case atStart => exact ⟨0, 0, by omega, rfl, rfl, rfl, 0, rfl⟩
  case round =>
    obtain ⟨k, r, hk, rfl, rfl, hr, m, rfl⟩ := hrel
    have Hr := Lib.hid hr
    clear hr
    by_cases hlt : k < n
    · have c1 := (hB.cell k).trans (get_fA_lt b hlt)
      by_cases h0 : k = 0
      · subst h0
        go_wp2
        go_roundw
        case rel => exact ⟨1, _, by omega, rfl, rfl, rfl, _, rfl⟩
        case measure => simp [intOf]; omega
      · have h1 : ((k : Int) == 0) = false := by simp; omega
        have Hk : Hid (k - 1 + 1 = k) := by unfold Hid; omega
        go_wp2
        go_roundw
        case rel =>
          refine ⟨k + 1, _, by omega, by go_num, rfl, ?_, _, rfl⟩
          rw [c_add, Hr.out]
          have := Hk.out
          generalize k - 1 = q at this
          subst this
          rfl
        case measure => simp [intOf]; omega
    · obtain rfl : k = n := by omega
      go_wp2
      go_ret
      exact ⟨_, rfl, Hr.out, _, rfl⟩


end Go.Proofs.Ytghmonkoleegjaa
