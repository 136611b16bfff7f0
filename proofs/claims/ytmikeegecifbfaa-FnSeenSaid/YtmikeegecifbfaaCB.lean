/- Contracts: products, sameness of numbers, sums, what is made of the numbers of curves by a function value. -/
import Derived.Test.YtmikeegecifbfaaCA
namespace Go.Proofs.Ytmikeegecifbfaa
open Go.RowKit
set_option maxRecDepth 100000

theorem mul_any (a b : Nat) (w : World) : Calls Try.prog 43 #[.float .f32 a, .float .f32 b] w (RetFq w (fmul (canon .f32 a) (canon .f32 b))) := by
  go_enter Try.func43, Try.ntmps43
  go_wp2
  go_ret
  exact ⟨_, rfl, c_mul .., _, rfl⟩
theorem mul_enters : Enters Try.prog 43 := fun _ _ => by kernel_rfl

theorem bits32 (b : Nat) (w : World) : (callFunc 76 #[.float .f32 b]).run Try.prog w = .ok (.value (.int .u32 b)) w := by kernel_rfl

theorem iSame_any (a b : Nat) (w : World) : Calls Try.prog 51 #[.float .f32 a, .float .f32 b] w (RetBq w (canon .f32 a == canon .f32 b)) := by
  have hbits := bits32
  cases ha : canon .f32 a with
  | none =>
    have oa : FloatKind.f32.format.order a a = none := by rw [order_self, ha]; rfl
    cases hb : canon .f32 b with
    | none =>
      have ob : FloatKind.f32.format.order b b = none := by rw [order_self, hb]; rfl
      clear ha hb
      go_enter Try.func51, Try.ntmps51
      go_wp2
      go_ret
      exact ⟨rfl, 0, rfl⟩
    | some y =>
      have ob : FloatKind.f32.format.order b b = some .eq := by rw [order_self, hb]; rfl
      clear ha hb
      go_enter Try.func51, Try.ntmps51
      go_wp2
      go_ret
      exact ⟨rfl, 0, rfl⟩
  | some x =>
    have oa : FloatKind.f32.format.order a a = some .eq := by rw [order_self, ha]; rfl
    cases hb : canon .f32 b with
    | none =>
      have ob : FloatKind.f32.format.order b b = none := by rw [order_self, hb]; rfl
      clear ha hb
      go_enter Try.func51, Try.ntmps51
      go_wp2
      go_ret
      exact ⟨rfl, 0, rfl⟩
    | some y =>
      have ob : FloatKind.f32.format.order b b = some .eq := by rw [order_self, hb]; rfl
      obtain ⟨rfl, _⟩ := canon_eq_some ha
      obtain ⟨rfl, _⟩ := canon_eq_some hb
      clear ha hb
      go_enter Try.func51, Try.ntmps51
      go_wp2
      go_ret
      exact ⟨congrArg (fun x => Ending.returned (Value.bool x)) (by rw [Bool.eq_iff_iff]; simp; omega), 0, rfl⟩
theorem iSame_enters : Enters Try.prog 51 := fun _ _ => by kernel_rfl

theorem l01Same_any (a b : Nat) (w : World) : Calls Try.prog 52 #[.float .f32 a, .float .f32 b] w (RetBq w (canon .f32 a == canon .f32 b)) := by
  have hbits := bits32
  cases ha : canon .f32 a with
  | none =>
    have oa : FloatKind.f32.format.order a a = none := by rw [order_self, ha]; rfl
    cases hb : canon .f32 b with
    | none =>
      have ob : FloatKind.f32.format.order b b = none := by rw [order_self, hb]; rfl
      clear ha hb
      go_enter Try.func52, Try.ntmps52
      go_wp2
      go_ret
      exact ⟨rfl, 0, rfl⟩
    | some y =>
      have ob : FloatKind.f32.format.order b b = some .eq := by rw [order_self, hb]; rfl
      clear ha hb
      go_enter Try.func52, Try.ntmps52
      go_wp2
      go_ret
      exact ⟨rfl, 0, rfl⟩
  | some x =>
    have oa : FloatKind.f32.format.order a a = some .eq := by rw [order_self, ha]; rfl
    cases hb : canon .f32 b with
    | none =>
      have ob : FloatKind.f32.format.order b b = none := by rw [order_self, hb]; rfl
      clear ha hb
      go_enter Try.func52, Try.ntmps52
      go_wp2
      go_ret
      exact ⟨rfl, 0, rfl⟩
    | some y =>
      have ob : FloatKind.f32.format.order b b = some .eq := by rw [order_self, hb]; rfl
      obtain ⟨rfl, _⟩ := canon_eq_some ha
      obtain ⟨rfl, _⟩ := canon_eq_some hb
      clear ha hb
      go_enter Try.func52, Try.ntmps52
      go_wp2
      go_ret
      exact ⟨congrArg (fun x => Ending.returned (Value.bool x)) (by rw [Bool.eq_iff_iff]; simp; omega), 0, rfl⟩

end Go.Proofs.Ytmikeegecifbfaa
