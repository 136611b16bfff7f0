/- Finite numbers: the reference's test (a - a == 0) and the program's (no NaN, no infinity as a float64) are one. No program is named here. -/
import Derived.Test.YtmikeegecifbfaaKit
namespace Go.Proofs.Ytmikeegecifbfaa

/-- A finite number. -/
def fin (x : Option Nat) : Bool := match x with | some b => decide (b % 2147483648 < 2139095040) | none => false

theorem dec32 (b : Nat) (h : (FloatKind.f32.decode b).isNaN = false) : (∃ s m e, FloatKind.f32.decode b = .number s m e ∧ b % 2147483648 < 2139095040) ∨ (∃ s, FloatKind.f32.decode b = .infinity s ∧ b % 2147483648 = 2139095040) := by
  cases hd : FloatKind.f32.decode b with
  | number s m e => exact .inl ⟨s, m, e, rfl, (num32 hd).2.2.2.1⟩
  | infinity s =>
    refine .inr ⟨s, rfl, ?_⟩
    have := isInf_read Ieee.single (by decide) b
    have h2 : (Ieee.single.read b).isInfinity = true := by
      show (FloatKind.f32.decode b).isInfinity = true
      rw [hd]; rfl
    rw [h2] at this
    have := of_decide_eq_true this.symm
    exact this
  | nan s t => rw [hd] at h; cases h

theorem fsub_self (x : Option Nat) : fsub x x = if fin x then some 0 else none := by
  cases x with
  | none => rfl
  | some b =>
    show floatBits .sub .f32 b b = _
    by_cases hn : (FloatKind.f32.decode b).isNaN = true
    · have h1 : floatBits .sub .f32 b b = none := by
        cases hf : floatBits .sub .f32 b b with
        | none => rfl
        | some r => have := (floatBits_notNaN hf).2.1; rw [hn] at this; cases this
      rw [h1, nanW32] at *
      have : ¬ b % 2147483648 < 2139095040 := by have := of_decide_eq_true hn; omega
      simp [fin, this]
    · rcases dec32 b (by simpa using hn) with ⟨s, m, e, hd, hlt⟩ | ⟨s, hd, heq⟩
      · have h1 : floatBits .sub .f32 b b = some 0 := by
          show Option.map FloatKind.f32.format.write ((FloatKind.f32.decode b).sum (FloatKind.f32.decode b).opposite) = some 0
          rw [hd]
          have : (Ieee.Datum.number s m e).sum (Ieee.Datum.number s m e).opposite = some (.number false 0 e) := by
            simp only [Ieee.Datum.opposite, Ieee.Datum.sum, Int.min_self, Int.sub_self, Int.toNat_zero]
            have ht : Ieee.signed s m 0 + Ieee.signed (!s) m 0 = 0 := by
              cases s <;> simp [Ieee.signed] <;> omega
            rw [ht]
            simp
          rw [this]
          rfl
        rw [h1]
        simp [fin, hlt]
      · have h1 : floatBits .sub .f32 b b = none := by
          show Option.map FloatKind.f32.format.write ((FloatKind.f32.decode b).sum (FloatKind.f32.decode b).opposite) = none
          rw [hd]
          cases s <;> rfl
        have : ¬ b % 2147483648 < 2139095040 := by omega
        rw [h1]
        simp [fin, this]

/-- The reference's test. -/
theorem fin_sub (x : Option Nat) : feq (fsub x x) (canon .f32 0) = fin x := by
  rw [fsub_self]
  cases h : fin x with
  | true => decide
  | false => rfl

/-! ### float64: the absolute value and the greatest number -/
theorem abs_bits (x : Nat) : (bits .andNot .u64 (x : Int) 9223372036854775808).toNat = x % 9223372036854775808 := by
  have h : (BitVec.ofInt 64 (x : Int) &&& ~~~ BitVec.ofInt 64 9223372036854775808).toNat = x % 9223372036854775808 := by
    rw [BitVec.toNat_and, show (~~~ BitVec.ofInt 64 9223372036854775808).toNat = 2 ^ 63 - 1 by decide, Nat.and_two_pow_sub_one_eq_mod, BitVec.toNat_ofInt]
    omega
  show (IntKind.u64.wrap ((BitVec.ofInt 64 (x : Int) &&& ~~~ BitVec.ofInt 64 9223372036854775808).toNat : Int)).toNat = _
  rw [h]
  have key : ∀ y : Nat, y < 9223372036854775808 → (IntKind.u64.wrap (y : Int)).toNat = y := by
    intro y hy
    simp [IntKind.wrap, IntKind.signed, IntKind.bits]
    omega
  exact key _ (Nat.mod_lt _ (by omega))

/-- The greatest float64 is exceeded by an infinity alone. -/
theorem abs_gt (x : Nat) : (FloatKind.f64.format.order (x % 9223372036854775808) 9218868437227405311 == some .gt) = decide (x % 9223372036854775808 = 9218868437227405312) := by
  have hx : x % 9223372036854775808 % 9223372036854775808 = x % 9223372036854775808 := Nat.mod_mod _ _
  generalize hy : x % 9223372036854775808 = y at *
  have hM : FloatKind.f64.decode 9218868437227405311 = .number false 9007199254740991 971 := by decide
  show ((FloatKind.f64.decode y).order (FloatKind.f64.decode 9218868437227405311) == some .gt) = _
  rw [hM]
  cases hd : FloatKind.f64.decode y with
  | number s m e =>
    obtain ⟨h1, h2, h3, h4, h5⟩ := num64 hd
    have hs : s = false := by rw [h5]; simp; omega
    subst hs
    have hne : ¬ y = 9218868437227405312 := by omega
    simp only [Ieee.Datum.order, hne, decide_false, beq_eq_false_iff_ne, ne_eq, Option.some.injEq]
    rw [Int.min_eq_left h3, Int.sub_self]
    simp only [Ieee.signed, Bool.false_eq_true, if_false, Int.toNat_zero, Nat.shiftLeft_zero]
    rw [Nat.shiftLeft_eq]
    have h6 : 1 ≤ 2 ^ (971 - e).toNat := Nat.one_le_two_pow
    have h7 : m ≤ 9007199254740991 * 2 ^ (971 - e).toNat := by
      have : 9007199254740991 * 1 ≤ 9007199254740991 * 2 ^ (971 - e).toNat := Nat.mul_le_mul_left _ h6
      omega
    intro hgt
    have := Int.compare_eq_gt.1 hgt
    omega
  | infinity s =>
    have hi := isInf_read Ieee.double (by decide) y
    have h2 : (Ieee.double.read y).isInfinity = true := by
      show (FloatKind.f64.decode y).isInfinity = true
      rw [hd]; rfl
    rw [h2] at hi
    have h3 : y % 9223372036854775808 = 9218868437227405312 := of_decide_eq_true hi.symm
    have h4 : y = 9218868437227405312 := by omega
    subst h4
    have : s = false := by
      have : FloatKind.f64.decode 9218868437227405312 = .infinity false := by decide
      rw [this] at hd
      injection hd with hd
      exact hd.symm
    subst this
    rfl
  | nan s t =>
    have hi := nanW64 y
    rw [hd] at hi
    have : 9218868437227405312 < y % 9223372036854775808 := of_decide_eq_true hi.symm
    have hne : ¬ y = 9218868437227405312 := by omega
    simp only [hne, decide_false]
    rfl

/-- A float32 as a float64: it is a NaN, an infinity or finite as it was. -/
theorem wide_kind (b : Nat) (w : World) : (FloatKind.f64.format.order (cval .f32 .f64 b w) (cval .f32 .f64 b w) != some .eq || decide (cval .f32 .f64 b w % 9223372036854775808 = 9218868437227405312)) = !fin (canon .f32 b) := by
  by_cases hn : (FloatKind.f32.decode b).isNaN = true
  · have h1 : canon .f64 (cval .f32 .f64 b w) = none := by rw [canon_cval (by decide) b w (fits_wide b), canon_none hn]; rfl
    rw [order_self, h1, canon_none hn]
    rfl
  · have hn' : (FloatKind.f32.decode b).isNaN = false := by simpa using hn
    obtain ⟨r, hr⟩ := Option.isSome_iff_exists.1 (fits_wide b hn')
    have hc : cval .f32 .f64 b w = r := by simp [cval, hr]
    obtain ⟨h1, _⟩ := floatToFloat_notNaN (by decide) hr
    rw [hc, order_self, canon_some h1, canon_some hn']
    simp only [Option.isSome_some, if_true, bne_self_eq_false, Bool.false_or, fin]
    rcases dec32 b hn' with ⟨s, m, e, hd, hlt⟩ | ⟨s, hd, heq⟩
    · have hr' := hr
      unfold floatToFloatBits at hr'
      rw [if_neg (by decide), hd] at hr'
      simp only at hr'
      split at hr'
      · cases hr'
      · rename_i hni
        injection hr' with hr'
        have hi := isInf_read Ieee.double (by decide) r
        have h2 : (Ieee.double.read r).isInfinity = false := by rw [← hr']; exact Bool.not_eq_true _ ▸ hni
        rw [h2] at hi
        have h3 : ¬ r % 9223372036854775808 = 9218868437227405312 := of_decide_eq_false hi.symm
        simp [h3, hlt]
    · have hr' := hr
      unfold floatToFloatBits at hr'
      rw [if_neg (by decide), hd] at hr'
      simp only at hr'
      injection hr' with hr'
      have h3 : r % 9223372036854775808 = 9218868437227405312 := by
        rw [← hr']
        cases s <;> decide
      have h4 : ¬ b % 2147483648 < 2139095040 := by omega
      simp [h3, h4]

end Go.Proofs.Ytmikeegecifbfaa
