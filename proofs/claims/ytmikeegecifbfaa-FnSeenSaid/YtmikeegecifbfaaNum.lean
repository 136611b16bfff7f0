/- Plain facts on the formats: bounds of what a word stands for; a float32 always fits a float64. No program is named here. -/
import Derived.Test.YtmikeegecifbfaaFlt
namespace Go.Proofs.Ytmikeegecifbfaa

theorem isInf_read (f : Ieee.Format) (h : f.binade ≤ f.infRung) (x : Nat) : (f.read x).isInfinity = decide (x % f.signWeight = f.infRung) := by
  unfold Ieee.Format.read
  dsimp only
  split
  · simp only [Ieee.Datum.isInfinity]; symm; simp; omega
  · split
    · simp only [Ieee.Datum.isInfinity]; symm; simp; omega
    · split
      · simp only [Ieee.Datum.isInfinity]; symm; simp; omega
      · simp only [Ieee.Datum.isInfinity]; symm; simp; omega

theorem num32 {x : Nat} {s : Bool} {m : Nat} {e : Int} (h : FloatKind.f32.decode x = .number s m e) :
    m < 16777216 ∧ -149 ≤ e ∧ e ≤ 104 ∧ x % 2147483648 < 2139095040 ∧ s = (x / 2147483648 % 2 == 1) := by
  have hb : 0 < Ieee.single.binade := Nat.two_pow_pos _
  unfold FloatKind.decode FloatKind.format Ieee.Format.read at h
  dsimp only at h
  have e1 : Ieee.single.binade = 8388608 := by decide
  have e2 : Ieee.single.infRung = 2139095040 := by decide
  have e3 : Ieee.single.signWeight = 2147483648 := by decide
  have e4 : Ieee.single.leastPlace = -149 := by decide
  rw [e1, e2, e3, e4] at h
  split at h
  · injection h with h2 h3 h4
    subst h2; subst h3; subst h4
    exact ⟨by omega, by omega, by omega, by omega, rfl⟩
  · split at h
    · injection h with h2 h3 h4
      subst h2; subst h3; subst h4
      exact ⟨by omega, by omega, by omega, by omega, rfl⟩
    · split at h <;> cases h

theorem num64 {x : Nat} {s : Bool} {m : Nat} {e : Int} (h : FloatKind.f64.decode x = .number s m e) :
    m < 9007199254740992 ∧ -1074 ≤ e ∧ e ≤ 971 ∧ x % 9223372036854775808 < 9218868437227405312 ∧ s = (x / 9223372036854775808 % 2 == 1) := by
  unfold FloatKind.decode FloatKind.format Ieee.Format.read at h
  dsimp only at h
  have e1 : Ieee.double.binade = 4503599627370496 := by decide
  have e2 : Ieee.double.infRung = 9218868437227405312 := by decide
  have e3 : Ieee.double.signWeight = 9223372036854775808 := by decide
  have e4 : Ieee.double.leastPlace = -1074 := by decide
  rw [e1, e2, e3, e4] at h
  split at h
  · injection h with h2 h3 h4
    subst h2; subst h3; subst h4
    exact ⟨by omega, by omega, by omega, by omega, rfl⟩
  · split at h
    · injection h with h2 h3 h4
      subst h2; subst h3; subst h4
      exact ⟨by omega, by omega, by omega, by omega, rfl⟩
    · split at h <;> cases h

theorem cut_none (neg : Bool) (n : Nat) : Ieee.Toward.even.cut neg n 0 = n := by
  unfold Ieee.Toward.cut
  simp [Nat.mod_one]

/-- A short number has its own word: nothing is rounded. -/
theorem nearest_short {s : Bool} {m : Nat} {e : Int} (hm : m ≠ 0) (hL : m.log2 ≤ 52) (h1 : -1074 ≤ e + m.log2 - 52) :
    Ieee.double.nearest s m e = Ieee.double.word s (min ((e + m.log2 - 52 + 1074).toNat * 4503599627370496 + m * 2 ^ (52 - m.log2)) 9218868437227405312) := by
  have e1 : Ieee.double.binade = 4503599627370496 := by decide
  have e2 : Ieee.double.infRung = 9218868437227405312 := by decide
  have e4 : Ieee.double.leastPlace = -1074 := by decide
  have e5 : (Ieee.double.fractionBits : Int) = 52 := by decide
  unfold Ieee.Format.nearest
  rw [if_neg hm]
  dsimp only
  rw [e1, e2, e4, e5]
  have hl : max (e + ↑m.log2 - 52) (-1074) = e + ↑m.log2 - 52 := by omega
  rw [hl]
  have h3 : (e - (e + ↑m.log2 - 52)).toNat = 52 - m.log2 := by omega
  have h4 : (e + ↑m.log2 - 52 - e).toNat = 0 := by omega
  rw [h3, h4, cut_none, Nat.shiftLeft_eq]
  congr 4

theorem fits_wide (b : Nat) : Fits .f32 .f64 b := by
  intro hn
  unfold floatToFloatBits
  rw [if_neg (by decide)]
  cases hd : FloatKind.f32.decode b with
  | nan s t => rw [hd] at hn; simp [Ieee.Datum.isNaN] at hn
  | infinity s => rfl
  | number s m e =>
    obtain ⟨h1, h2, h3, _, _⟩ := num32 hd
    have key : (FloatKind.f64.decode (FloatKind.f64.encode (.number s m e))).isInfinity = false := by
      show (Ieee.double.read (Ieee.double.nearest s m e)).isInfinity = false
      rw [isInf_read _ (by decide)]
      have e2 : Ieee.double.infRung = 9218868437227405312 := by decide
      have e3 : Ieee.double.signWeight = 9223372036854775808 := by decide
      simp only [decide_eq_false_iff_not]
      by_cases hm : m = 0
      · subst hm
        unfold Ieee.Format.nearest
        rw [if_pos rfl, read_word _ _ _ (by rw [e3]; omega), e2]
        omega
      · have hL : m.log2 ≤ 23 := by
          have := (Nat.log2_lt hm (k := 24)).2 (by omega)
          omega
        have hpow : m * 2 ^ (52 - m.log2) < 9007199254740992 := by
          have h5 : m < 2 ^ (m.log2 + 1) := Nat.lt_log2_self
          calc m * 2 ^ (52 - m.log2) < 2 ^ (m.log2 + 1) * 2 ^ (52 - m.log2) := Nat.mul_lt_mul_of_pos_right h5 (Nat.two_pow_pos _)
            _ = 2 ^ 53 := by rw [← Nat.pow_add]; congr 1; omega
            _ = 9007199254740992 := by decide
        rw [nearest_short hm (by omega) (by omega), read_word _ _ _ (by rw [e3]; omega), e2]
        omega
    simp only [key]
    rfl

end Go.Proofs.Ytmikeegecifbfaa
