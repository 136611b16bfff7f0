/- Contracts: third roots with a code. -/
import Derived.Test.YtmikeegecifbfaaDB
namespace Go.Proofs.Ytmikeegecifbfaa
open Go.RowKit
set_option maxRecDepth 100000

def cubeRes (x : Option Nat) : Option Nat × Int := if fin x then (cbrt x, 0) else (canon .f32 0, 2)
theorem RetFC.as {w : World} {p : Option Nat} {c : Int} {q : Option Nat × Int} {e : Ending} {w' : World} (h : q = (p, c)) (hr : RetFC w p c e w') : RetFC w q.1 q.2 e w' := by subst h; exact hr
theorem neg_top {W : Nat} (h1 : 9223372036854775808 ≤ W) (h2 : W < 18446744073709551616) : Op.negFloat .f64 W = W % 9223372036854775808 := by
  have h := xor_top 63 W
  have h3 : (W ^^^ 2 ^ 63) / 2 ^ 63 = W / 2 ^ 63 ^^^ 1 := by
    have := @Nat.xor_div_two_pow W (2 ^ 63) 63
    rw [Nat.div_self (Nat.two_pow_pos _)] at this
    exact this
  have h4 : W / 2 ^ 63 = 1 := by
    have e : (2 : Nat) ^ 63 = 9223372036854775808 := rfl
    rw [e]; omega
  rw [h4] at h3
  have h5 := Nat.div_add_mod (W ^^^ 2 ^ 63) (2 ^ 63)
  rw [h3, h.1] at h5
  have e : (2 : Nat) ^ 63 = 9223372036854775808 := rfl
  show W ^^^ 2 ^ 63 = _
  rw [← h5, e]
  simp
end Go.Proofs.Ytmikeegecifbfaa
