/- The numbers that words stand for, as rationals; to round is to find the rung next to a number. No program is named here. The operations of floats, on the numbers that words stand for: each gives a number next to the exact one. No program is named here. Finite numbers: the reference's test (a - a == 0) and the program's (no NaN, no infinity as a float64) are one. No program is named here. Comparisons, square roots and conversions of floats, on the numbers that words stand for. No program is named here. Approximations: each operation of float32, with a bound on its error, a step of the format at the most. No program is named here. Sums, differences and products are rounded to a number that is nearest: half a step at the most. No program is named here. -/
import Derived.Test.YtfpjiclkhjdihaaKit
namespace Go.Proofs.Ytfpjiclkhjdihaa

def p2 (e : Int) : Rat := (2 : Rat) ^ e
theorem p2_pos (e : Int) : 0 < p2 e := Rat.zpow_pos (by decide)
theorem p2_add (a b : Int) : p2 (a + b) = p2 a * p2 b := Rat.zpow_add (by decide) a b
theorem p2_nat (n : Nat) : p2 n = ((2 ^ n : Nat) : Rat) := by
  unfold p2
  rw [Rat.zpow_natCast, Rat.natCast_pow]
  rfl
theorem p2_one : p2 1 = 2 := by
  have := p2_nat 1
  simpa using this
theorem p2_zero : p2 0 = 1 := Rat.zpow_zero _
theorem p2_succ (a : Int) : p2 (a + 1) = 2 * p2 a := by rw [p2_add, p2_one]; grind
theorem p2_mono {a b : Int} (h : a ≤ b) : p2 a ≤ p2 b := by
  obtain ⟨n, rfl⟩ := Int.le.dest h
  rw [p2_add, p2_nat]
  have h1 : (1 : Rat) ≤ ((2 ^ n : Nat) : Rat) := by
    have : (1 : Nat) ≤ 2 ^ n := Nat.one_le_two_pow
    exact_mod_cast Rat.natCast_le_natCast.2 this
  have := Rat.mul_le_mul_of_nonneg_left h1 (Rat.le_of_lt (p2_pos a))
  grind
theorem cast_le {a b : Nat} (h : a ≤ b) : (a : Rat) ≤ (b : Rat) := Rat.natCast_le_natCast.2 h
theorem cast_lt {a b : Nat} (h : a < b) : (a : Rat) < (b : Rat) := Rat.natCast_lt_natCast.2 h
theorem mul_le_r {a b c : Rat} (h : a ≤ b) (hc : 0 ≤ c) : a * c ≤ b * c := Rat.mul_le_mul_of_nonneg_right h hc
theorem mul_lt_r {a b c : Rat} (h : a < b) (hc : 0 < c) : a * c < b * c := Rat.mul_lt_mul_of_pos_right h hc

section
variable (f : Ieee.Format)
theorem binade_pos : 0 < f.binade := Nat.two_pow_pos _

/-- The number of a rung, as if there were no greatest one. -/
def rungV (r : Nat) : Rat :=
  if r < f.binade then (r : Rat) * p2 f.leastPlace else ((f.binade + r % f.binade : Nat) : Rat) * p2 (f.leastPlace + ((r / f.binade - 1 : Nat) : Int))

theorem rungV_form (j kept : Nat) (h1 : j = 0 ∨ f.binade ≤ kept) (h2 : kept ≤ 2 * f.binade) : rungV f (j * f.binade + kept) = (kept : Rat) * p2 (f.leastPlace + (j : Int)) := by
  have hb := binade_pos f
  unfold rungV
  generalize f.binade = B at *
  by_cases h3 : j * B + kept < B
  · rw [if_pos h3]
    have hj : j = 0 := by
      rcases h1 with h | h
      · exact h
      · omega
    subst hj
    simp
  · rw [if_neg h3]
    by_cases h4 : kept = 2 * B
    · have e1 : (j * B + kept) % B = 0 := by
        rw [show j * B + kept = B * (j + 2) by rw [h4, Nat.mul_add, Nat.mul_comm j B, Nat.mul_comm 2 B]]
        exact Nat.mul_mod_right _ _
      have e2 : (j * B + kept) / B = j + 2 := by
        rw [show j * B + kept = B * (j + 2) by rw [h4, Nat.mul_add, Nat.mul_comm j B, Nat.mul_comm 2 B]]
        exact Nat.mul_div_cancel_left _ hb
      rw [e1, e2, h4, show ((j + 2 - 1 : Nat) : Int) = (j : Int) + 1 by omega, ← Int.add_assoc, p2_succ, Nat.add_zero, Rat.natCast_mul]
      grind
    · have h5 : B ≤ kept := by
        rcases h1 with h | h
        · subst h; omega
        · exact h
      obtain ⟨c, rfl⟩ : ∃ c, kept = B + c := ⟨kept - B, by omega⟩
      have hc : c < B := by omega
      have e0 : j * B + (B + c) = B * (j + 1) + c := by rw [Nat.mul_add, Nat.mul_comm j B]; omega
      have e1 : (j * B + (B + c)) % B = c := by rw [e0, Nat.mul_add_mod, Nat.mod_eq_of_lt hc]
      have e2 : (j * B + (B + c)) / B = j + 1 := by rw [e0, Nat.mul_add_div hb, Nat.div_eq_of_lt hc, Nat.add_zero]
      rw [e1, e2]
      simp

theorem rung_split (r : Nat) : ∃ j kept, r = j * f.binade + kept ∧ (j = 0 ∨ f.binade ≤ kept) ∧ kept < 2 * f.binade := by
  have hb := binade_pos f
  generalize f.binade = B at *
  by_cases h : r < B
  · exact ⟨0, r, by omega, .inl rfl, by omega⟩
  · have h1 := Nat.div_add_mod r B
    have h2 := Nat.mod_lt r hb
    have h3 : 0 < r / B := Nat.div_pos (by omega) hb
    refine ⟨r / B - 1, B + r % B, ?_, .inr (by omega), by omega⟩
    obtain ⟨q, hq⟩ : ∃ q, r / B = q + 1 := ⟨r / B - 1, by omega⟩
    rw [hq] at h1 ⊢
    rw [Nat.mul_add, Nat.mul_comm B q] at h1
    simp only [Nat.add_sub_cancel]
    omega

theorem rungV_succ (r : Nat) : rungV f r < rungV f (r + 1) := by
  obtain ⟨j, kept, rfl, h1, h2⟩ := rung_split f r
  rw [Nat.add_assoc, rungV_form f j kept h1 (by omega), rungV_form f j (kept + 1) (by omega) (by omega)]
  exact mul_lt_r (cast_lt (by omega)) (p2_pos _)
theorem rungV_lt {r s : Nat} (h : r < s) : rungV f r < rungV f s := by
  induction s with
  | zero => omega
  | succ s ih =>
    by_cases e : r = s
    · subst e; exact rungV_succ f r
    · have := ih (by omega)
      have := rungV_succ f s
      grind
theorem rungV_le {r s : Nat} (h : r ≤ s) : rungV f r ≤ rungV f s := by
  by_cases e : r = s
  · subst e; exact Rat.le_refl
  · exact Rat.le_of_lt (rungV_lt f (by omega))
theorem rungV_zero : rungV f 0 = 0 := by
  unfold rungV
  rw [if_pos (binade_pos f)]
  simp
theorem rungV_nonneg (r : Nat) : 0 ≤ rungV f r := by rw [← rungV_zero f]; exact rungV_le f (Nat.zero_le _)

/-- What is kept is next to what there was. -/
theorem cut_near (neg : Bool) (n drop : Nat) : 2 * (Ieee.Toward.even.cut neg n drop * 2 ^ drop) ≤ 2 * n + 2 ^ drop ∧ 2 * n ≤ 2 * (Ieee.Toward.even.cut neg n drop * 2 ^ drop) + 2 ^ drop := by
  unfold Ieee.Toward.cut
  simp only
  by_cases hd : drop ≤ n.log2 + 2
  · rw [Nat.min_eq_left hd, Nat.one_shiftLeft]
    have hG : 0 < 2 ^ drop := Nat.two_pow_pos _
    generalize 2 ^ drop = G at *
    have h1 := Nat.div_add_mod n G
    have h2 := Nat.mod_lt n hG
    generalize n / G = q at *
    generalize n % G = t at *
    have h3 : q * G = G * q := Nat.mul_comm _ _
    have hM : ∀ M : Bool, M = (decide (G < 2 * t) || G == 2 * t && q % 2 == 1) → (M = true → G ≤ 2 * t) ∧ (M = false → 2 * t ≤ G) := by
      rintro M rfl
      simp
      constructor
      · rintro (h | h) <;> omega
      · intro h _; exact h
    have hM := hM _ rfl
    generalize (decide (G < 2 * t) || G == 2 * t && q % 2 == 1) = M at *
    cases M with
    | true => have := hM.1 rfl; simp [Nat.add_mul]; omega
    | false => have := hM.2 rfl; simp; omega
  · rw [Nat.min_eq_right (by omega), Nat.one_shiftLeft]
    have hlt : n < 2 ^ (n.log2 + 1) := Nat.lt_log2_self
    have hp : 2 ^ (n.log2 + 2) = 2 * 2 ^ (n.log2 + 1) := by rw [Nat.pow_succ]; omega
    have hq : 2 ^ (n.log2 + 2) ≤ 2 ^ drop := Nat.pow_le_pow_right (by omega) (by omega)
    have e1 : n / 2 ^ (n.log2 + 2) = 0 := Nat.div_eq_of_lt (by omega)
    have e2 : n % 2 ^ (n.log2 + 2) = n := Nat.mod_eq_of_lt (by omega)
    rw [e1, e2]
    have c1 : decide (2 ^ (n.log2 + 2) < 2 * n) = false := by simp; omega
    have c2 : (2 ^ (n.log2 + 2) == 2 * n) = false := by simp; omega
    rw [c1, c2]
    simp
    omega

theorem nearest_spec (s : Bool) (m : Nat) (p : Int) (hm : m ≠ 0) : ∃ r, f.nearest s m p = f.word s (min r f.infRung) ∧
    (∀ R, (m : Rat) * p2 p ≤ rungV f R → r ≤ R) ∧ (∀ R, rungV f R ≤ (m : Rat) * p2 p → R ≤ r) ∧
    ∃ last : Int, 2 * rungV f r ≤ 2 * ((m : Rat) * p2 p) + p2 last ∧ 2 * ((m : Rat) * p2 p) ≤ 2 * rungV f r + p2 last ∧ (last = f.leastPlace ∨ p2 (last + f.fractionBits) ≤ (m : Rat) * p2 p) := by
  unfold Ieee.Format.nearest
  rw [if_neg hm]
  dsimp only
  obtain ⟨last, hlast⟩ : ∃ last, last = max (p + (m.log2 : Int) - f.fractionBits) f.leastPlace := ⟨_, rfl⟩
  rw [← hlast]
  obtain ⟨j, hj⟩ : ∃ j : Nat, last = f.leastPlace + j := ⟨(last - f.leastPlace).toNat, by omega⟩
  have ej : (last - f.leastPlace).toNat = j := by omega
  obtain ⟨n, hn⟩ : ∃ n, n = m <<< (p - last).toNat := ⟨_, rfl⟩
  obtain ⟨drop, hdrop⟩ : ∃ drop, drop = (last - p).toNat := ⟨_, rfl⟩
  rw [← hn, ← hdrop, ej]
  have hc := cut_near s n drop
  obtain ⟨kept, hk⟩ : ∃ kept, kept = Ieee.Toward.even.cut s n drop := ⟨_, rfl⟩
  rw [← hk] at hc ⊢
  have hB : f.binade = 2 ^ f.fractionBits := rfl
  have hlo : 2 ^ m.log2 ≤ m := Nat.log2_self_le hm
  have hhi : m < 2 ^ (m.log2 + 1) := Nat.lt_log2_self
  -- 'n' in its own terms
  have hv : (m : Rat) * p2 p = (n : Rat) * p2 (last - drop) := by
    by_cases h : last ≤ p
    · obtain ⟨d, hd⟩ : ∃ d : Nat, p = last + d := ⟨(p - last).toNat, by omega⟩
      have e1 : (p - last).toNat = d := by omega
      have e2 : drop = 0 := by omega
      rw [hn, e1, e2, Nat.shiftLeft_eq, Rat.natCast_mul, hd, p2_add, ← p2_nat]
      simp
      grind
    · have e1 : (p - last).toNat = 0 := by omega
      rw [hn, e1, show last - (drop : Int) = p by omega]
      rfl
  have hup : n < 2 ^ (drop + f.fractionBits + 1) := by
    by_cases h : last ≤ p
    · have e1 : n = m * 2 ^ (p - last).toNat := by rw [hn, Nat.shiftLeft_eq]
      calc n < 2 ^ (m.log2 + 1) * 2 ^ (p - last).toNat := by rw [e1]; exact Nat.mul_lt_mul_of_pos_right hhi (Nat.two_pow_pos _)
        _ = 2 ^ (m.log2 + 1 + (p - last).toNat) := by rw [← Nat.pow_add]
        _ ≤ 2 ^ (drop + f.fractionBits + 1) := Nat.pow_le_pow_right (by omega) (by omega)
    · have e1 : n = m := by rw [hn, show (p - last).toNat = 0 by omega]; rfl
      calc n < 2 ^ (m.log2 + 1) := by rw [e1]; exact hhi
        _ ≤ 2 ^ (drop + f.fractionBits + 1) := Nat.pow_le_pow_right (by omega) (by omega)
  have hdn : f.leastPlace < last → 2 ^ (drop + f.fractionBits) ≤ n := by
    intro hl
    by_cases h : last ≤ p
    · have e1 : n = m * 2 ^ (p - last).toNat := by rw [hn, Nat.shiftLeft_eq]
      calc 2 ^ (drop + f.fractionBits) ≤ 2 ^ (m.log2 + (p - last).toNat) := Nat.pow_le_pow_right (by omega) (by omega)
        _ = 2 ^ m.log2 * 2 ^ (p - last).toNat := by rw [← Nat.pow_add]
        _ ≤ n := by rw [e1]; exact Nat.mul_le_mul_right _ hlo
    · have e1 : n = m := by rw [hn, show (p - last).toNat = 0 by omega]; rfl
      calc 2 ^ (drop + f.fractionBits) ≤ 2 ^ m.log2 := Nat.pow_le_pow_right (by omega) (by omega)
        _ ≤ n := by rw [e1]; exact hlo
  have hD : 0 < 2 ^ drop := Nat.two_pow_pos _
  have e3 : 2 ^ (drop + f.fractionBits) = f.binade * 2 ^ drop := by rw [Nat.pow_add, hB, Nat.mul_comm]
  have e4 : 2 ^ (drop + f.fractionBits + 1) = 2 * f.binade * 2 ^ drop := by rw [Nat.pow_succ, e3, Nat.mul_comm, Nat.mul_assoc]
  rw [e4] at hup
  rw [e3] at hdn
  have hk2 : kept ≤ 2 * f.binade := by
    apply Nat.le_of_not_lt
    intro h
    have h1 : (2 * f.binade + 1) * 2 ^ drop ≤ kept * 2 ^ drop := Nat.mul_le_mul_right _ h
    rw [Nat.add_mul] at h1
    omega
  have hk1 : f.leastPlace < last → f.binade ≤ kept := by
    intro hl
    have := hdn hl
    apply Nat.le_of_not_lt
    intro h
    have h1 : (kept + 1) * 2 ^ drop ≤ f.binade * 2 ^ drop := Nat.mul_le_mul_right _ h
    rw [Nat.add_mul] at h1
    omega
  have hform : j = 0 ∨ f.binade ≤ kept := by
    by_cases h : j = 0
    · exact .inl h
    · exact .inr (hk1 (by omega))
  have hval := rungV_form f j kept hform hk2
  have hC : 0 < p2 (last - drop) := p2_pos _
  have hpl : p2 last = ((2 ^ drop : Nat) : Rat) * p2 (last - drop) := by
    rw [← p2_nat, ← p2_add]
    congr 1
    omega
  -- the number in the places of 'last - drop'
  have key : ∀ x y : Nat, (x * 2 ^ drop ≤ 2 * n ∧ y = x → (x : Rat) * p2 last ≤ 2 * ((m : Rat) * p2 p)) ∧ (2 * n ≤ x * 2 ^ drop → 2 * ((m : Rat) * p2 p) ≤ (x : Rat) * p2 last) ∧ (x * 2 ^ drop < 2 * n → (x : Rat) * p2 last < 2 * ((m : Rat) * p2 p)) ∧ (2 * n < x * 2 ^ drop → 2 * ((m : Rat) * p2 p) < (x : Rat) * p2 last) := by
    intro x y
    rw [hv, hpl]
    have ex : (x : Rat) * (((2 ^ drop : Nat) : Rat) * p2 (last - drop)) = ((x * 2 ^ drop : Nat) : Rat) * p2 (last - drop) := by rw [Rat.natCast_mul]; grind
    have en : 2 * ((n : Rat) * p2 (last - drop)) = ((2 * n : Nat) : Rat) * p2 (last - drop) := by rw [Rat.natCast_mul]; grind
    rw [ex, en]
    exact ⟨fun h => mul_le_r (cast_le h.1) (Rat.le_of_lt hC), fun h => mul_le_r (cast_le h) (Rat.le_of_lt hC), fun h => mul_lt_r (cast_lt h) hC, fun h => mul_lt_r (cast_lt h) hC⟩
  refine ⟨j * f.binade + kept, rfl, ?_, ?_, ?_⟩
  · intro R hR
    apply Nat.le_of_not_lt
    intro hlt
    have hpos : kept ≠ 0 ∨ j ≠ 0 := by
      by_cases h : j = 0
      · subst h; left; omega
      · exact .inr h
    by_cases h5 : j ≠ 0 ∧ kept = f.binade
    · have h6 : f.leastPlace < last := by omega
      have h7 := hdn h6
      have h8 := (key (2 * kept) (2 * kept)).1 ⟨by rw [Nat.mul_assoc, h5.2]; omega, rfl⟩
      have h9 := rungV_lt f hlt
      rw [hval, ← hj] at h9
      rw [Rat.natCast_mul] at h8
      grind
    · have h6 : j = 0 ∨ f.binade ≤ kept - 1 := by
        rcases hform with h | h
        · exact .inl h
        · by_cases hj0 : j = 0
          · exact .inl hj0
          · right; omega
      have hk0 : kept ≠ 0 := by
        rcases hpos with h | h
        · exact h
        · have := binade_pos f; rcases h6 with h' | h' <;> omega
      obtain ⟨k', rfl⟩ : ∃ k', kept = k' + 1 := ⟨kept - 1, by omega⟩
      have hform' := rungV_form f j k' (by simpa using h6) (by omega)
      have h9 := rungV_le f (show R ≤ j * f.binade + k' by omega)
      rw [hform', ← hj] at h9
      have h10 := (key (2 * k') (2 * k')).2.2.1 (by rw [Nat.add_mul] at hc; rw [Nat.mul_assoc]; omega)
      rw [Rat.natCast_mul] at h10
      grind
  · intro R hR
    apply Nat.le_of_not_lt
    intro hlt
    have h9 := rungV_le f (show j * f.binade + kept + 1 ≤ R by omega)
    have h10 := (key (2 * (kept + 1)) 0).2.2.2 (by rw [Nat.mul_assoc, Nat.add_mul]; omega)
    rw [Rat.natCast_mul] at h10
    by_cases h5 : kept = 2 * f.binade
    · have e5 : j * f.binade + kept + 1 = (j + 1) * f.binade + (f.binade + 1) := by rw [Nat.add_mul]; omega
      have hb := binade_pos f
      have h11 := rungV_form f (j + 1) (f.binade + 1) (.inr (by omega)) (by omega)
      rw [e5, h11, show ((j + 1 : Nat) : Int) = (j : Int) + 1 by omega, ← Int.add_assoc, p2_succ, ← hj] at h9
      have h12 : ((kept + 1 : Nat) : Rat) * p2 last ≤ ((f.binade + 1 : Nat) : Rat) * (2 * p2 last) := by
        have : ((kept + 1 : Nat) : Rat) ≤ ((2 * (f.binade + 1) : Nat) : Rat) := cast_le (by omega)
        have := mul_le_r this (Rat.le_of_lt (p2_pos last))
        rw [Rat.natCast_mul] at this
        grind
      grind
    · have h11 := rungV_form f j (kept + 1) (by omega) (by omega)
      rw [Nat.add_assoc, h11, ← hj] at h9
      grind
  · refine ⟨last, ?_, ?_, ?_⟩
    · rw [hval, ← hj]
      by_cases h5 : kept = 0
      · subst h5
        have h6 : (0 : Rat) ≤ (m : Rat) * p2 p := Rat.mul_nonneg (by exact_mod_cast Nat.zero_le m) (Rat.le_of_lt (p2_pos _))
        have := p2_pos last
        simp
        grind
      · obtain ⟨k', rfl⟩ : ∃ k', kept = k' + 1 := ⟨kept - 1, by omega⟩
        have h10 := (key (2 * k' + 1) (2 * k' + 1)).1 ⟨by rw [Nat.add_mul] at hc; rw [Nat.add_mul, Nat.mul_assoc]; omega, rfl⟩
        rw [Rat.natCast_add, Rat.natCast_mul] at h10
        rw [Rat.natCast_add]
        grind
    · rw [hval, ← hj]
      have h10 := (key (2 * kept + 1) 0).2.1 (by rw [Nat.add_mul, Nat.mul_assoc]; omega)
      rw [Rat.natCast_add, Rat.natCast_mul] at h10
      grind
    · by_cases h : last = f.leastPlace
      · exact .inl h
      · right
        have h7 := hdn (by omega)
        have h10 := (key (2 * f.binade) (2 * f.binade)).1 ⟨by rw [Nat.mul_assoc]; omega, rfl⟩
        rw [p2_add, p2_nat, ← hB]
        rw [Rat.natCast_mul] at h10
        grind
end
end Go.Proofs.Ytfpjiclkhjdihaa

namespace Go.Proofs.Ytfpjiclkhjdihaa

/-- What a datum stands for. -/
def sg (s : Bool) (x : Rat) : Rat := if s then -x else x
def dq : Ieee.Datum → Rat
  | .number s m e => sg s ((m : Rat) * p2 e)
  | _ => 0

theorem word_parts (f : Ieee.Format) (s : Bool) {r : Nat} (h : r < f.signWeight) : f.word s r % f.signWeight = r ∧ (f.word s r / f.signWeight % 2 == 1) = s := by
  unfold Ieee.Format.word
  cases s
  · simp [Nat.mod_eq_of_lt h, Nat.div_eq_of_lt h]
  · simp [Nat.add_mod_left, Nat.mod_eq_of_lt h, Nat.add_div_left _ (Nat.zero_lt_of_lt h), Nat.div_eq_of_lt h]

theorem read_fin (f : Ieee.Format) (x : Nat) (h : x % f.signWeight < f.infRung) :
    ∃ m e, f.read x = .number (x / f.signWeight % 2 == 1) m e ∧ (m : Rat) * p2 e = rungV f (x % f.signWeight) := by
  unfold Ieee.Format.read rungV
  dsimp only
  generalize x % f.signWeight = r at *
  by_cases h1 : r < f.binade
  · rw [if_pos h1, if_pos h1]; exact ⟨_, _, rfl, rfl⟩
  · rw [if_neg h1, if_neg h1, if_pos h]; exact ⟨_, _, rfl, rfl⟩
theorem fin_read (f : Ieee.Format) (hb : f.binade ≤ f.infRung) {x : Nat} {s : Bool} {m : Nat} {e : Int} (h : f.read x = .number s m e) :
    x % f.signWeight < f.infRung ∧ (m : Rat) * p2 e = rungV f (x % f.signWeight) := by
  have hlt : x % f.signWeight < f.infRung := by
    have h1 := isNaN_read f hb x
    have h2 := isInf_read f hb x
    rw [h] at h1 h2
    have h3 := of_decide_eq_false h1.symm
    have h4 := of_decide_eq_false h2.symm
    omega
  obtain ⟨m', e', h1, h2⟩ := read_fin f x hlt
  rw [h] at h1
  injection h1 with h3 h4 h5
  subst h4; subst h5
  exact ⟨hlt, h2⟩

/-- A number of the format. -/
def Rep (f : Ieee.Format) (c : Rat) : Prop := ∃ r, r < f.infRung ∧ (c = rungV f r ∨ c = -rungV f r)
/-- 'w' is what 'v' is rounded to. -/
structure Rnd (f : Ieee.Format) (v w : Rat) : Prop where
  rep : Rep f w
  up : ∀ c, Rep f c → v ≤ c → w ≤ c
  dn : ∀ c, Rep f c → c ≤ v → c ≤ w
/-- No greater than the greatest number of the format. -/
def Fit (f : Ieee.Format) (v : Rat) : Prop := ∃ r, r < f.infRung ∧ v ≤ rungV f r ∧ -v ≤ rungV f r

theorem Rep.neg {f : Ieee.Format} {c : Rat} (h : Rep f c) : Rep f (-c) := by
  obtain ⟨r, h1, h2⟩ := h
  exact ⟨r, h1, by grind⟩
theorem Rep.fit {f : Ieee.Format} {c : Rat} (h : Rep f c) : Fit f c := by
  obtain ⟨r, h1, h2⟩ := h
  have := rungV_nonneg f r
  exact ⟨r, h1, by grind, by grind⟩
theorem Rnd.of_rep {f : Ieee.Format} {v w : Rat} (h : Rnd f v w) (hv : Rep f v) : w = v := Rat.le_antisymm (h.up v hv Rat.le_refl) (h.dn v hv Rat.le_refl)
theorem Rnd.neg {f : Ieee.Format} {v w : Rat} (h : Rnd f v w) : Rnd f (-v) (-w) := by
  refine ⟨h.rep.neg, fun c hc hv => ?_, fun c hc hv => ?_⟩
  · have := h.dn (-c) hc.neg (by grind); grind
  · have := h.up (-c) hc.neg (by grind); grind
theorem Rnd.sg {f : Ieee.Format} {v w : Rat} (h : Rnd f v w) (s : Bool) : Rnd f (sg s v) (sg s w) := by
  cases s
  · exact h
  · exact h.neg
theorem Fit.sg {f : Ieee.Format} {v : Rat} {s : Bool} (h : Fit f (sg s v)) : Fit f v := by
  obtain ⟨r, h1, h2, h3⟩ := h
  cases s
  · exact ⟨r, h1, h2, h3⟩
  · unfold Go.Proofs.Ytfpjiclkhjdihaa.sg at h2 h3; simp at h2 h3; exact ⟨r, h1, by grind, by grind⟩
theorem rungV_gap (f : Ieee.Format) (r : Nat) : rungV f (r + 1) ≤ rungV f r + rungV f r * p2 (-f.fractionBits) + p2 f.leastPlace := by
  obtain ⟨j, kept, rfl, h1, h2⟩ := rung_split f r
  rw [Nat.add_assoc, rungV_form f j kept h1 (by omega), rungV_form f j (kept + 1) (by omega) (by omega)]
  have h0 := p2_pos f.leastPlace
  have h3 : (0 : Rat) ≤ (kept : Rat) * p2 (f.leastPlace + j) * p2 (-f.fractionBits) := Rat.mul_nonneg (Rat.mul_nonneg Rat.natCast_nonneg (Rat.le_of_lt (p2_pos _))) (Rat.le_of_lt (p2_pos _))
  by_cases hj : j = 0
  · subst hj
    rw [Rat.natCast_add]
    simp
    grind
  · have h4 : f.binade ≤ kept := by omega
    have h5 : (1 : Rat) ≤ (kept : Rat) * p2 (-f.fractionBits) := by
      have h6 := mul_le_r (cast_le h4) (Rat.le_of_lt (p2_pos (-f.fractionBits)))
      have h7 : ((f.binade : Nat) : Rat) * p2 (-f.fractionBits) = 1 := by
        unfold Ieee.Format.binade
        rw [← p2_nat, ← p2_add, show (f.fractionBits : Int) + -f.fractionBits = 0 by omega, p2_zero]
      grind
    have h8 := mul_le_r h5 (Rat.le_of_lt (p2_pos (f.leastPlace + j)))
    rw [Rat.natCast_add]
    grind

/-- A number lies between two rungs. -/
theorem between (f : Ieee.Format) {V : Rat} (hV : 0 ≤ V) : ∀ R, V ≤ rungV f R → V = rungV f R ∨ ∃ r, r < R ∧ rungV f r ≤ V ∧ V ≤ rungV f (r + 1)
  | 0, h => by rw [rungV_zero] at h ⊢; left; grind
  | R + 1, h => by
    by_cases h1 : V ≤ rungV f R
    · rcases between f hV R h1 with h2 | ⟨r, h2, h3⟩
      · exact .inr ⟨R, by omega, by grind, h⟩
      · exact .inr ⟨r, by omega, h3⟩
    · exact .inr ⟨R, by omega, by grind, h⟩

/-- The error of a rounding. -/
theorem Rnd.near0 {f : Ieee.Format} {v w : Rat} (h : Rnd f v w) (hf : Fit f v) (hv : 0 ≤ v) :
    w ≤ v + v * p2 (-f.fractionBits) + p2 f.leastPlace ∧ v ≤ w + v * p2 (-f.fractionBits) + p2 f.leastPlace := by
  have h0 := p2_pos f.leastPlace
  have h1 := Rat.mul_nonneg hv (Rat.le_of_lt (p2_pos (-f.fractionBits)))
  obtain ⟨R, hR, h2, _⟩ := hf
  rcases between f hv R h2 with h3 | ⟨r, h3, h4, h5⟩
  · have := h.of_rep ⟨R, hR, .inl h3⟩
    grind
  · have h6 := h.dn _ ⟨r, by omega, .inl rfl⟩ h4
    have h7 := h.up _ ⟨r + 1, by omega, .inl rfl⟩ h5
    have h8 := rungV_gap f r
    have h9 := mul_le_r h4 (Rat.le_of_lt (p2_pos (-f.fractionBits)))
    grind
theorem Rnd.near {f : Ieee.Format} {v w : Rat} (h : Rnd f v w) (hf : Fit f v) {b : Rat} (h1 : v ≤ b) (h2 : -v ≤ b) :
    w ≤ v + b * p2 (-f.fractionBits) + p2 f.leastPlace ∧ v ≤ w + b * p2 (-f.fractionBits) + p2 f.leastPlace := by
  by_cases hv : 0 ≤ v
  · have := h.near0 hf hv
    have := mul_le_r h1 (Rat.le_of_lt (p2_pos (-f.fractionBits)))
    grind
  · have := h.neg.near0 (Fit.sg (s := true) (show Fit f (Go.Proofs.Ytfpjiclkhjdihaa.sg true (-v)) by unfold Go.Proofs.Ytfpjiclkhjdihaa.sg; simpa using hf)) (by grind)
    have := mul_le_r h2 (Rat.le_of_lt (p2_pos (-f.fractionBits)))
    grind

/-- Rounding, for what lies near a datum: all that is asked is that the numbers of the format lie on the same side of both. -/
theorem write_core (f : Ieee.Format) (s : Bool) (m : Nat) (p : Int) (A B : Nat → Prop) (hup : ∀ R, A R → (m : Rat) * p2 p ≤ rungV f R) (hdn : ∀ R, B R → rungV f R ≤ (m : Rat) * p2 p) {R0 : Nat} (hR0 : R0 < f.infRung) (hfit : A R0) :
    ∃ r, r < f.infRung ∧ f.nearest s m p = f.word s r ∧ (∀ R, A R → r ≤ R) ∧ (∀ R, B R → R ≤ r) := by
  by_cases hm : m = 0
  · subst hm
    have hz : ((0 : Nat) : Rat) * p2 p = 0 := by simp
    rw [hz] at hup hdn
    refine ⟨0, by omega, ?_, fun R _ => Nat.zero_le _, ?_⟩
    · unfold Ieee.Format.nearest; rw [if_pos rfl]
    · intro R hR
      apply Nat.le_of_not_lt
      intro hlt
      have h1 := hdn R hR
      have h2 := rungV_lt f hlt
      rw [rungV_zero] at h2
      grind
  · obtain ⟨r, h1, h2, h3, _⟩ := nearest_spec f s m p hm
    have hr : r ≤ R0 := h2 R0 (hup R0 hfit)
    exact ⟨r, by omega, by rw [h1, Nat.min_eq_left (by omega)], fun R hR => h2 R (hup R hR), fun R hR => h3 R (hdn R hR)⟩
theorem rungV_eq_zero {f : Ieee.Format} {R : Nat} (h : rungV f R ≤ 0) : R = 0 := by
  apply Nat.eq_zero_of_not_pos
  intro h2
  have := rungV_lt f h2
  rw [rungV_zero] at this
  grind
theorem write_near (f : Ieee.Format) (s : Bool) (m : Nat) (p : Int) (V : Rat) (hV : 0 ≤ V)
    (hup : ∀ R, V ≤ rungV f R → (m : Rat) * p2 p ≤ rungV f R) (hdn : ∀ R, rungV f R ≤ V → rungV f R ≤ (m : Rat) * p2 p) (hf : Fit f V) :
    ∃ r, r < f.infRung ∧ f.nearest s m p = f.word s r ∧ Rnd f (sg s V) (sg s (rungV f r)) := by
  obtain ⟨R0, hR0, hfit, _⟩ := hf
  obtain ⟨r, h1, h2, h3, h4⟩ := write_core f s m p (fun R => V ≤ rungV f R) (fun R => rungV f R ≤ V) hup hdn hR0 hfit
  refine ⟨r, h1, h2, Rnd.sg ⟨⟨r, h1, .inl rfl⟩, ?_, ?_⟩ s⟩
  · rintro c ⟨R, hR, rfl | rfl⟩ hc
    · exact rungV_le f (h3 R hc)
    · have h5 := rungV_nonneg f R
      have h6 : R = 0 := rungV_eq_zero (f := f) (by grind)
      subst h6
      rw [rungV_zero] at hc ⊢
      have := rungV_le f (h3 0 (by rw [rungV_zero]; grind))
      rw [rungV_zero] at this
      grind
  · rintro c ⟨R, hR, rfl | rfl⟩ hc
    · exact rungV_le f (h4 R hc)
    · have := rungV_nonneg f R
      have := rungV_nonneg f r
      grind
/-- An exact datum is written. -/
theorem write_rnd (f : Ieee.Format) (s : Bool) (m : Nat) (p : Int) (hf : Fit f (sg s ((m : Rat) * p2 p))) :
    ∃ r, r < f.infRung ∧ f.nearest s m p = f.word s r ∧ Rnd f (sg s ((m : Rat) * p2 p)) (sg s (rungV f r)) :=
  write_near f s m p _ (Rat.mul_nonneg Rat.natCast_nonneg (Rat.le_of_lt (p2_pos _))) (fun _ h => h) (fun _ h => h) (Fit.sg hf)

/-- A word that stands for a finite number. -/
def Is (k : FloatKind) (x : Option Nat) (v : Rat) : Prop := ∃ b s m e, x = some b ∧ k.decode b = .number s m e ∧ sg s ((m : Rat) * p2 e) = v

theorem Is.of_word {k : FloatKind} (s : Bool) {r : Nat} (h : r < k.format.infRung) : Is k (some (k.format.word s r)) (sg s (rungV k.format r)) := by
  have hi := k.format.infRung_lt
  obtain ⟨h1, h2⟩ := word_parts k.format s (show r < k.format.signWeight by omega)
  obtain ⟨m, e, h3, h4⟩ := read_fin k.format (k.format.word s r) (by rw [h1]; exact h)
  rw [h1] at h4
  rw [h2] at h3
  exact ⟨_, s, m, e, rfl, h3, by rw [h4]⟩
theorem Is.rep {k : FloatKind} {x : Option Nat} {v : Rat} (h : Is k x v) : Rep k.format v := by
  obtain ⟨b, s, m, e, rfl, hd, rfl⟩ := h
  obtain ⟨h1, h2⟩ := fin_read k.format (binade_le k) hd
  refine ⟨_, h1, ?_⟩
  rw [h2]
  cases s
  · exact .inl rfl
  · exact .inr rfl

theorem signed_dq (s : Bool) (m : Nat) (e base : Int) (h : base ≤ e) : ((Ieee.signed s m (e - base).toNat : Int) : Rat) * p2 base = sg s ((m : Rat) * p2 e) := by
  obtain ⟨d, rfl⟩ := Int.le.dest h
  have e1 : (base + (d : Int) - base).toNat = d := by omega
  rw [e1, p2_add, p2_nat]
  unfold Ieee.signed sg
  cases s
  · simp only [Bool.false_eq_true, if_false]
    rw [Nat.shiftLeft_eq, Rat.intCast_natCast, Rat.natCast_mul]
    grind
  · simp only [if_true]
    rw [Nat.shiftLeft_eq, Rat.intCast_neg, Rat.intCast_natCast, Rat.natCast_mul]
    grind

theorem is_add {k : FloatKind} {x y : Option Nat} {u v : Rat} (hx : Is k x u) (hy : Is k y v) (hf : Fit k.format (u + v)) : ∃ w, Is k (cop .add k x y) w ∧ Rnd k.format (u + v) w := by
  obtain ⟨a, s, m, i, rfl, hd, rfl⟩ := hx
  obtain ⟨b, t, n, j, rfl, hd', rfl⟩ := hy
  have h1 : cop .add k (some a) (some b) = Option.map k.format.write ((k.decode a).sum (k.decode b)) := rfl
  rw [h1, hd, hd']
  simp only [Ieee.Datum.sum]
  generalize hT : Ieee.signed s m (i - min i j).toNat + Ieee.signed t n (j - min i j).toNat = T
  have hv : (T : Rat) * p2 (min i j) = sg s ((m : Rat) * p2 i) + sg t ((n : Rat) * p2 j) := by
    rw [← hT, Rat.intCast_add, Rat.add_mul, signed_dq s m i _ (by omega), signed_dq t n j _ (by omega)]
  generalize hS : (if T = 0 then s && t else decide (T < 0)) = S
  have hw : sg S ((T.natAbs : Rat) * p2 (min i j)) = sg s ((m : Rat) * p2 i) + sg t ((n : Rat) * p2 j) := by
    rw [← hv, ← hS]
    by_cases h0 : T = 0
    · subst h0
      unfold sg
      simp
    · rw [if_neg h0]
      by_cases h2 : T < 0
      · obtain ⟨q, hq⟩ : ∃ q : Nat, T = -(q : Int) := ⟨T.natAbs, by omega⟩
        subst hq
        unfold sg
        simp only [h2, decide_true, if_true, Int.natAbs_neg, Int.natAbs_natCast, Rat.intCast_neg, Rat.intCast_natCast]
        grind
      · obtain ⟨q, hq⟩ : ∃ q : Nat, T = (q : Int) := ⟨T.natAbs, by omega⟩
        subst hq
        unfold sg
        simp only [h2, decide_false, Bool.false_eq_true, if_false, Int.natAbs_natCast, Rat.intCast_natCast]
  rw [← hw] at hf ⊢
  obtain ⟨r, h2, h3, h4⟩ := write_rnd k.format S T.natAbs (min i j) hf
  refine ⟨_, ?_, h4⟩
  show Is k (some (k.format.nearest S T.natAbs (min i j))) _
  rw [h3]
  exact Is.of_word S h2
theorem sg_not (s : Bool) (x : Rat) : sg (!s) x = -sg s x := by cases s <;> simp [sg]
theorem is_sub {k : FloatKind} {x y : Option Nat} {u v : Rat} (hx : Is k x u) (hy : Is k y v) (hf : Fit k.format (u - v)) : ∃ w, Is k (cop .sub k x y) w ∧ Rnd k.format (u - v) w := by
  obtain ⟨a, s, m, i, rfl, hd, rfl⟩ := hx
  obtain ⟨b, t, n, j, rfl, hd', rfl⟩ := hy
  have h1 : cop .sub k (some a) (some b) = Option.map k.format.write ((k.decode a).sum (k.decode b).opposite) := rfl
  rw [h1, hd, hd']
  simp only [Ieee.Datum.opposite, Ieee.Datum.sum]
  generalize hT : Ieee.signed s m (i - min i j).toNat + Ieee.signed (!t) n (j - min i j).toNat = T
  have hv : (T : Rat) * p2 (min i j) = sg s ((m : Rat) * p2 i) - sg t ((n : Rat) * p2 j) := by
    rw [← hT, Rat.intCast_add, Rat.add_mul, signed_dq s m i _ (by omega), signed_dq (!t) n j _ (by omega), sg_not]
    grind
  generalize hS : (if T = 0 then s && !t else decide (T < 0)) = S
  have hw : sg S ((T.natAbs : Rat) * p2 (min i j)) = sg s ((m : Rat) * p2 i) - sg t ((n : Rat) * p2 j) := by
    rw [← hv, ← hS]
    by_cases h0 : T = 0
    · subst h0
      unfold sg
      simp
    · rw [if_neg h0]
      by_cases h2 : T < 0
      · obtain ⟨q, hq⟩ : ∃ q : Nat, T = -(q : Int) := ⟨T.natAbs, by omega⟩
        subst hq
        unfold sg
        simp only [h2, decide_true, if_true, Int.natAbs_neg, Int.natAbs_natCast, Rat.intCast_neg, Rat.intCast_natCast]
        grind
      · obtain ⟨q, hq⟩ : ∃ q : Nat, T = (q : Int) := ⟨T.natAbs, by omega⟩
        subst hq
        unfold sg
        simp only [h2, decide_false, Bool.false_eq_true, if_false, Int.natAbs_natCast, Rat.intCast_natCast]
  rw [← hw] at hf ⊢
  obtain ⟨r, h2, h3, h4⟩ := write_rnd k.format S T.natAbs (min i j) hf
  refine ⟨_, ?_, h4⟩
  show Is k (some (k.format.nearest S T.natAbs (min i j))) _
  rw [h3]
  exact Is.of_word S h2
theorem sg_mul (s t : Bool) (x y : Rat) : sg (s ^^ t) (x * y) = sg s x * sg t y := by cases s <;> cases t <;> simp [sg] <;> grind
theorem is_mul {k : FloatKind} {x y : Option Nat} {u v : Rat} (hx : Is k x u) (hy : Is k y v) (hf : Fit k.format (u * v)) : ∃ w, Is k (cop .mul k x y) w ∧ Rnd k.format (u * v) w := by
  obtain ⟨a, s, m, i, rfl, hd, rfl⟩ := hx
  obtain ⟨b, t, n, j, rfl, hd', rfl⟩ := hy
  have h1 : cop .mul k (some a) (some b) = Option.map k.format.write ((k.decode a).product (k.decode b)) := rfl
  rw [h1, hd, hd']
  simp only [Ieee.Datum.product]
  have hw : sg (s ^^ t) (((m * n : Nat) : Rat) * p2 (i + j)) = sg s ((m : Rat) * p2 i) * sg t ((n : Rat) * p2 j) := by
    rw [← sg_mul, Rat.natCast_mul, p2_add]
    congr 1
    grind
  rw [← hw] at hf ⊢
  obtain ⟨r, h2, h3, h4⟩ := write_rnd k.format (s ^^ t) (m * n) (i + j) hf
  refine ⟨_, ?_, h4⟩
  show Is k (some (k.format.nearest (s ^^ t) (m * n) (i + j))) _
  rw [h3]
  exact Is.of_word _ h2

/-! ### Quotients -/
theorem sg_div (s t : Bool) (x y : Rat) : sg (s ^^ t) (x / y) = sg s x / sg t y := by cases s <;> cases t <;> simp [sg, Rat.div_def] <;> grind
/-- A number of the format is an even number of very small units, or small. -/
theorem rung_units (f : Ieee.Format) (R : Nat) (place : Int) : (∃ K : Nat, rungV f R = ((2 * K : Nat) : Rat) * p2 place) ∨ rungV f R < ((2 ^ (f.fractionBits + 1) : Nat) : Rat) * p2 place := by
  obtain ⟨j, kept, rfl, h1, h2⟩ := rung_split f R
  rw [rungV_form f j kept h1 (by omega)]
  by_cases h : place < f.leastPlace + j
  · left
    obtain ⟨d, hd⟩ := Int.le.dest (show place + 1 ≤ f.leastPlace + j by omega)
    refine ⟨kept * 2 ^ d, ?_⟩
    rw [← hd, p2_add, p2_succ, p2_nat, Rat.natCast_mul, Rat.natCast_mul]
    have : ((2 : Nat) : Rat) = 2 := rfl
    rw [this]
    grind
  · right
    have h3 : ((kept : Nat) : Rat) < ((2 ^ (f.fractionBits + 1) : Nat) : Rat) := cast_lt (by rw [Nat.pow_succ]; unfold Ieee.Format.binade at h2; omega)
    have h4 := mul_lt_r h3 (p2_pos (f.leastPlace + j))
    have h5 := Rat.mul_le_mul_of_nonneg_left (p2_mono (show f.leastPlace + j ≤ place by omega)) (show (0 : Rat) ≤ ((2 ^ (f.fractionBits + 1) : Nat) : Rat) from Rat.natCast_nonneg)
    grind
theorem is_div {k : FloatKind} {x y : Option Nat} {u v : Rat} (hx : Is k x u) (hy : Is k y v) (hv0 : v ≠ 0) (hf : Fit k.format (u / v)) : ∃ w, Is k (cop .quo k x y) w ∧ Rnd k.format (u / v) w := by
  obtain ⟨a, s, m, i, rfl, hd, rfl⟩ := hx
  obtain ⟨b, t, n, j, rfl, hd', rfl⟩ := hy
  have h1 : cop .quo k (some a) (some b) = Option.map k.format.write ((k.decode a).quotient (k.format.fractionBits + 2) (k.decode b)) := rfl
  have hn : n ≠ 0 := by
    intro h
    subst h
    apply hv0
    cases t <;> simp [sg]
  rw [h1, hd, hd']
  simp only [Ieee.Datum.quotient, hn, if_false]
  obtain ⟨more, hmore⟩ : ∃ more, more = k.format.fractionBits + 2 + n.log2 - m.log2 := ⟨_, rfl⟩
  rw [← hmore]
  generalize hq : (m <<< more) / n = q
  generalize ht : (m <<< more) % n = c
  have e0 : m * 2 ^ more = n * q + c := by rw [← hq, ← ht, ← Nat.shiftLeft_eq, Nat.div_add_mod]
  have hc : c < n := by rw [← ht]; exact Nat.mod_lt _ (Nat.pos_of_ne_zero hn)
  -- the exact quotient in units
  obtain ⟨place, hplace⟩ : ∃ place, place = i - j - (more : Int) - 1 := ⟨_, rfl⟩
  rw [← hplace]
  have hnq : (n : Rat) ≠ 0 := by
    intro h
    exact hn (Rat.natCast_eq_zero_iff.1 h)
  have hn0 : (0 : Rat) < (n : Rat) := by have := cast_lt (Nat.pos_of_ne_zero hn); exact this
  have hP := p2_pos place
  obtain ⟨V, hV⟩ : ∃ V : Rat, V = ((m : Rat) * p2 i) / ((n : Rat) * p2 j) := ⟨_, rfl⟩
  have eV : V * (n : Rat) = 2 * ((m : Rat) * ((2 ^ more : Nat) : Rat)) * p2 place := by
    have hpj := p2_pos j
    have e1 : p2 i = p2 place * (2 * ((2 ^ more : Nat) : Rat)) * p2 j := by
      rw [← p2_nat, ← p2_one, ← p2_add, ← p2_add, ← p2_add]
      congr 1
      omega
    have e2 : V * ((n : Rat) * p2 j) = (m : Rat) * p2 i := by
      rw [hV, Rat.div_mul_cancel]
      intro h
      rcases Rat.mul_eq_zero.1 h with h | h <;> grind
    rw [e1] at e2
    have e3 : (V * (n : Rat)) * p2 j = (2 * ((m : Rat) * ((2 ^ more : Nat) : Rat)) * p2 place) * p2 j := by grind
    have e4 : p2 j ≠ 0 := by grind
    have e5 : (V * (n : Rat) - 2 * ((m : Rat) * ((2 ^ more : Nat) : Rat)) * p2 place) * p2 j = 0 := by grind
    rcases Rat.mul_eq_zero.1 e5 with h | h <;> grind
  have eN : ((m : Rat) * ((2 ^ more : Nat) : Rat)) = (n : Rat) * (q : Rat) + (c : Rat) := by
    rw [← Rat.natCast_mul, e0, Rat.natCast_add, Rat.natCast_mul]
  rw [eN] at eV
  have hu : V = (((m : Rat) * p2 i) / ((n : Rat) * p2 j)) := hV
  rw [← sg_div, ← hu] at hf ⊢
  have hV0 : 0 ≤ V := by
    apply Rat.le_of_mul_le_mul_right (c := (n : Rat)) _ hn0
    rw [eV]
    have : (0 : Rat) ≤ (n : Rat) * (q : Rat) := Rat.mul_nonneg Rat.natCast_nonneg Rat.natCast_nonneg
    have : (0 : Rat) ≤ (c : Rat) := Rat.natCast_nonneg
    have := Rat.mul_nonneg (show (0 : Rat) ≤ 2 * ((n : Rat) * (q : Rat) + (c : Rat)) by grind) (Rat.le_of_lt hP)
    grind
  have hlo : ((2 * q : Nat) : Rat) * p2 place ≤ V := by
    apply Rat.le_of_mul_le_mul_right (c := (n : Rat)) _ hn0
    rw [eV, Rat.natCast_mul]
    have : (0 : Rat) ≤ (c : Rat) * p2 place := Rat.mul_nonneg Rat.natCast_nonneg (Rat.le_of_lt hP)
    have e2 : ((2 : Nat) : Rat) = 2 := rfl
    rw [e2]
    grind
  have hhi : V < ((2 * q + 2 : Nat) : Rat) * p2 place := by
    apply Rat.lt_of_mul_lt_mul_right (c := (n : Rat)) _ (Rat.le_of_lt hn0)
    rw [eV, Rat.natCast_add, Rat.natCast_mul]
    have := mul_lt_r (cast_lt hc) hP
    have e2 : ((2 : Nat) : Rat) = 2 := rfl
    rw [e2]
    grind
  obtain ⟨D, hD⟩ : ∃ D, D = 2 * q + (c != 0).toNat := ⟨_, rfl⟩
  rw [← hD]
  have hD1 : 2 * q ≤ D ∧ D < 2 * q + 2 := by rw [hD]; cases hc0 : (c != 0) <;> simp
  have hD2 : ∀ K : Nat, V ≤ ((2 * K : Nat) : Rat) * p2 place → D ≤ 2 * K := by
    intro K hK
    by_cases hc0 : c = 0
    · have : D = 2 * q := by rw [hD, hc0]; simp
      rw [this]
      apply Nat.le_of_not_lt
      intro h
      have := mul_lt_r (cast_lt h) hP
      grind
    · have hlt : ((2 * q : Nat) : Rat) * p2 place < V := by
        apply Rat.lt_of_mul_lt_mul_right (c := (n : Rat)) _ (Rat.le_of_lt hn0)
        rw [eV, Rat.natCast_mul]
        have := mul_lt_r (cast_lt (Nat.pos_of_ne_zero hc0)) hP
        have e2 : ((2 : Nat) : Rat) = 2 := rfl
        have e3 : ((0 : Nat) : Rat) = 0 := rfl
        rw [e3] at this
        rw [e2]
        grind
      have : 2 * q < 2 * K := by
        apply Nat.lt_of_not_le
        intro h
        have := mul_le_r (cast_le h) (Rat.le_of_lt hP)
        grind
      omega
  have hbig : m ≠ 0 → 2 ^ (k.format.fractionBits + 1) ≤ 2 * q := by
    intro hm
    have h2 : 2 ^ m.log2 ≤ m := Nat.log2_self_le hm
    have h3 : n < 2 ^ (n.log2 + 1) := Nat.lt_log2_self
    have h4 : 2 ^ (k.format.fractionBits + 2 + n.log2) ≤ m * 2 ^ more := by
      calc 2 ^ (k.format.fractionBits + 2 + n.log2) ≤ 2 ^ (m.log2 + more) := Nat.pow_le_pow_right (by omega) (by omega)
        _ = 2 ^ m.log2 * 2 ^ more := Nat.pow_add ..
        _ ≤ m * 2 ^ more := Nat.mul_le_mul_right _ h2
    have h5 : 2 ^ (k.format.fractionBits + 2 + n.log2) = 2 ^ (n.log2 + 1) * 2 ^ (k.format.fractionBits + 1) := by rw [← Nat.pow_add]; congr 1; omega
    have h6 : n * 2 ^ (k.format.fractionBits + 1) ≤ 2 ^ (n.log2 + 1) * 2 ^ (k.format.fractionBits + 1) := Nat.mul_le_mul_right _ (by omega)
    have h7 : n * 2 ^ (k.format.fractionBits + 1) < n * (q + 1) := by rw [Nat.mul_add]; omega
    have h8 := Nat.lt_of_mul_lt_mul_left h7
    omega
  obtain ⟨r, h2, h3, h4⟩ := write_near k.format (s ^^ t) D place V hV0 (by
    intro R hR
    rcases rung_units k.format R place with ⟨K, hK⟩ | hlt
    · rw [hK] at hR ⊢
      exact mul_le_r (cast_le (hD2 K hR)) (Rat.le_of_lt hP)
    · by_cases hm : m = 0
      · subst hm
        have e1 : c = 0 ∧ q = 0 := by
          have : n * q + c = 0 := by rw [← e0]; simp
          have h9 : n * q = 0 := by omega
          rcases Nat.mul_eq_zero.1 h9 with h | h
          · exact absurd h hn
          · exact ⟨by omega, h⟩
        have : D = 0 := by rw [hD, e1.1, e1.2]; rfl
        rw [this]
        have := rungV_nonneg k.format R
        simpa using this
      · have := mul_le_r (cast_le (hbig hm)) (Rat.le_of_lt hP)
        grind) (by
    intro R hR
    rcases rung_units k.format R place with ⟨K, hK⟩ | hlt
    · rw [hK] at hR ⊢
      have : 2 * K < 2 * q + 2 := by
        apply Nat.lt_of_not_le
        intro h
        have := mul_le_r (cast_le h) (Rat.le_of_lt hP)
        grind
      exact mul_le_r (cast_le (by omega)) (Rat.le_of_lt hP)
    · by_cases hm : m = 0
      · subst hm
        have e1 : c = 0 ∧ q = 0 := by
          have : n * q + c = 0 := by rw [← e0]; simp
          have h9 : n * q = 0 := by omega
          rcases Nat.mul_eq_zero.1 h9 with h | h
          · exact absurd h hn
          · exact ⟨by omega, h⟩
        have hVz : V ≤ 0 := by rw [hu]; simp [Rat.div_def]
        have : (0 : Rat) ≤ (D : Rat) * p2 place := Rat.mul_nonneg Rat.natCast_nonneg (Rat.le_of_lt hP)
        grind
      · have := mul_le_r (cast_le (hbig hm)) (Rat.le_of_lt hP)
        have := mul_le_r (cast_le hD1.1) (Rat.le_of_lt hP)
        grind) (Fit.sg hf)
  refine ⟨_, ?_, h4⟩
  show Is k (some (k.format.nearest (s ^^ t) D place)) _
  rw [h3]
  exact Is.of_word _ h2
end Go.Proofs.Ytfpjiclkhjdihaa

namespace Go.Proofs.Ytfpjiclkhjdihaa

/-- A finite number. -/
def fin (x : Option Nat) : Bool := match x with | some b => decide (b % 2147483648 < 2139095040) | none => false

theorem dec32 (b : Nat) (h : (FloatKind.f32.decode b).isNaN = false) : (∃ s m e, FloatKind.f32.decode b = .number s m e ∧ b % 2147483648 < 2139095040) ∨ (∃ s, FloatKind.f32.decode b = .infinity s ∧ b % 2147483648 = 2139095040) := by
  cases hd : FloatKind.f32.decode b with
  | number s m e => exact .inl ⟨s, m, e, rfl, (num32 hd).2.2.2.1⟩
  | infinity s =>
    refine .inr ⟨s, rfl, ?_⟩
    have := isInf_read Ieee.single (by decide) b
    have h2 : (Ieee.single.read b).isInfinity = true := by
      show (FloatKind.f32.decode b).isInfinity = true
      rw [hd]; rfl
    rw [h2] at this
    have := of_decide_eq_true this.symm
    exact this
  | nan s t => rw [hd] at h; cases h

theorem fsub_self (x : Option Nat) : fsub x x = if fin x then some 0 else none := by
  cases x with
  | none => rfl
  | some b =>
    show floatBits .sub .f32 b b = _
    by_cases hn : (FloatKind.f32.decode b).isNaN = true
    · have h1 : floatBits .sub .f32 b b = none := by
        cases hf : floatBits .sub .f32 b b with
        | none => rfl
        | some r => have := (floatBits_notNaN hf).2.1; rw [hn] at this; cases this
      rw [h1, nanW32] at *
      have : ¬ b % 2147483648 < 2139095040 := by have := of_decide_eq_true hn; omega
      simp [fin, this]
    · rcases dec32 b (by simpa using hn) with ⟨s, m, e, hd, hlt⟩ | ⟨s, hd, heq⟩
      · have h1 : floatBits .sub .f32 b b = some 0 := by
          show Option.map FloatKind.f32.format.write ((FloatKind.f32.decode b).sum (FloatKind.f32.decode b).opposite) = some 0
          rw [hd]
          have : (Ieee.Datum.number s m e).sum (Ieee.Datum.number s m e).opposite = some (.number false 0 e) := by
            simp only [Ieee.Datum.opposite, Ieee.Datum.sum, Int.min_self, Int.sub_self, Int.toNat_zero]
            have ht : Ieee.signed s m 0 + Ieee.signed (!s) m 0 = 0 := by
              cases s <;> simp [Ieee.signed] <;> omega
            rw [ht]
            simp
          rw [this]
          rfl
        rw [h1]
        simp [fin, hlt]
      · have h1 : floatBits .sub .f32 b b = none := by
          show Option.map FloatKind.f32.format.write ((FloatKind.f32.decode b).sum (FloatKind.f32.decode b).opposite) = none
          rw [hd]
          cases s <;> rfl
        have : ¬ b % 2147483648 < 2139095040 := by omega
        rw [h1]
        simp [fin, this]

/-- The reference's test. -/
theorem fin_sub (x : Option Nat) : feq (fsub x x) (canon .f32 0) = fin x := by
  rw [fsub_self]
  cases h : fin x with
  | true => decide
  | false => rfl

/-! ### float64: the absolute value and the greatest number -/
theorem abs_bits (x : Nat) : (bits .andNot .u64 (x : Int) 9223372036854775808).toNat = x % 9223372036854775808 := by
  have h : (BitVec.ofInt 64 (x : Int) &&& ~~~ BitVec.ofInt 64 9223372036854775808).toNat = x % 9223372036854775808 := by
    rw [BitVec.toNat_and, show (~~~ BitVec.ofInt 64 9223372036854775808).toNat = 2 ^ 63 - 1 by decide, Nat.and_two_pow_sub_one_eq_mod, BitVec.toNat_ofInt]
    omega
  show (IntKind.u64.wrap ((BitVec.ofInt 64 (x : Int) &&& ~~~ BitVec.ofInt 64 9223372036854775808).toNat : Int)).toNat = _
  rw [h]
  have key : ∀ y : Nat, y < 9223372036854775808 → (IntKind.u64.wrap (y : Int)).toNat = y := by
    intro y hy
    simp [IntKind.wrap, IntKind.signed, IntKind.bits]
    omega
  exact key _ (Nat.mod_lt _ (by omega))

/-- The greatest float64 is exceeded by an infinity alone. -/
theorem abs_gt (x : Nat) : (FloatKind.f64.format.order (x % 9223372036854775808) 9218868437227405311 == some .gt) = decide (x % 9223372036854775808 = 9218868437227405312) := by
  have hx : x % 9223372036854775808 % 9223372036854775808 = x % 9223372036854775808 := Nat.mod_mod _ _
  generalize hy : x % 9223372036854775808 = y at *
  have hM : FloatKind.f64.decode 9218868437227405311 = .number false 9007199254740991 971 := by decide
  show ((FloatKind.f64.decode y).order (FloatKind.f64.decode 9218868437227405311) == some .gt) = _
  rw [hM]
  cases hd : FloatKind.f64.decode y with
  | number s m e =>
    obtain ⟨h1, h2, h3, h4, h5⟩ := num64 hd
    have hs : s = false := by rw [h5]; simp; omega
    subst hs
    have hne : ¬ y = 9218868437227405312 := by omega
    simp only [Ieee.Datum.order, hne, decide_false, beq_eq_false_iff_ne, ne_eq, Option.some.injEq]
    rw [Int.min_eq_left h3, Int.sub_self]
    simp only [Ieee.signed, Bool.false_eq_true, if_false, Int.toNat_zero, Nat.shiftLeft_zero]
    rw [Nat.shiftLeft_eq]
    have h6 : 1 ≤ 2 ^ (971 - e).toNat := Nat.one_le_two_pow
    have h7 : m ≤ 9007199254740991 * 2 ^ (971 - e).toNat := by
      have : 9007199254740991 * 1 ≤ 9007199254740991 * 2 ^ (971 - e).toNat := Nat.mul_le_mul_left _ h6
      omega
    intro hgt
    have := Int.compare_eq_gt.1 hgt
    omega
  | infinity s =>
    have hi := isInf_read Ieee.double (by decide) y
    have h2 : (Ieee.double.read y).isInfinity = true := by
      show (FloatKind.f64.decode y).isInfinity = true
      rw [hd]; rfl
    rw [h2] at hi
    have h3 : y % 9223372036854775808 = 9218868437227405312 := of_decide_eq_true hi.symm
    have h4 : y = 9218868437227405312 := by omega
    subst h4
    have : s = false := by
      have : FloatKind.f64.decode 9218868437227405312 = .infinity false := by decide
      rw [this] at hd
      injection hd with hd
      exact hd.symm
    subst this
    rfl
  | nan s t =>
    have hi := nanW64 y
    rw [hd] at hi
    have : 9218868437227405312 < y % 9223372036854775808 := of_decide_eq_true hi.symm
    have hne : ¬ y = 9218868437227405312 := by omega
    simp only [hne, decide_false]
    rfl

/-- A float32 as a float64: it is a NaN, an infinity or finite as it was. -/
theorem wide_kind (b : Nat) (w : World) : (FloatKind.f64.format.order (cval .f32 .f64 b w) (cval .f32 .f64 b w) != some .eq || decide (cval .f32 .f64 b w % 9223372036854775808 = 9218868437227405312)) = !fin (canon .f32 b) := by
  by_cases hn : (FloatKind.f32.decode b).isNaN = true
  · have h1 : canon .f64 (cval .f32 .f64 b w) = none := by rw [canon_cval (by decide) b w (fits_wide b), canon_none hn]; rfl
    rw [order_self, h1, canon_none hn]
    rfl
  · have hn' : (FloatKind.f32.decode b).isNaN = false := by simpa using hn
    obtain ⟨r, hr⟩ := Option.isSome_iff_exists.1 (fits_wide b hn')
    have hc : cval .f32 .f64 b w = r := by simp [cval, hr]
    obtain ⟨h1, _⟩ := floatToFloat_notNaN (by decide) hr
    rw [hc, order_self, canon_some h1, canon_some hn']
    simp only [Option.isSome_some, if_true, bne_self_eq_false, Bool.false_or, fin]
    rcases dec32 b hn' with ⟨s, m, e, hd, hlt⟩ | ⟨s, hd, heq⟩
    · have hr' := hr
      unfold floatToFloatBits at hr'
      rw [if_neg (by decide), hd] at hr'
      simp only at hr'
      split at hr'
      · cases hr'
      · rename_i hni
        injection hr' with hr'
        have hi := isInf_read Ieee.double (by decide) r
        have h2 : (Ieee.double.read r).isInfinity = false := by rw [← hr']; exact Bool.not_eq_true _ ▸ hni
        rw [h2] at hi
        have h3 : ¬ r % 9223372036854775808 = 9218868437227405312 := of_decide_eq_false hi.symm
        simp [h3, hlt]
    · have hr' := hr
      unfold floatToFloatBits at hr'
      rw [if_neg (by decide), hd] at hr'
      simp only at hr'
      injection hr' with hr'
      have h3 : r % 9223372036854775808 = 9218868437227405312 := by
        rw [← hr']
        cases s <;> decide
      have h4 : ¬ b % 2147483648 < 2139095040 := by omega
      simp [h3, h4]

end Go.Proofs.Ytfpjiclkhjdihaa

namespace Go.Proofs.Ytfpjiclkhjdihaa

/-! ### Comparisons -/
theorem is_order {k : FloatKind} {x y : Option Nat} {u v : Rat} (hx : Is k x u) (hy : Is k y v) : ∃ o, cord k x y = some o ∧ (o = .lt ↔ u < v) ∧ (o = .eq ↔ u = v) ∧ (o = .gt ↔ v < u) := by
  obtain ⟨a, s, m, i, rfl, hd, rfl⟩ := hx
  obtain ⟨b, t, n, j, rfl, hd', rfl⟩ := hy
  have h1 : cord k (some a) (some b) = (k.decode a).order (k.decode b) := rfl
  rw [h1, hd, hd']
  refine ⟨_, rfl, ?_⟩
  have e1 := signed_dq s m i (min i j) (by omega)
  have e2 := signed_dq t n j (min i j) (by omega)
  rw [← e1, ← e2]
  generalize Ieee.signed s m (i - min i j).toNat = A
  generalize Ieee.signed t n (j - min i j).toNat = B
  have hP := p2_pos (min i j)
  generalize p2 (min i j) = P at *
  have hl : ∀ A B : Int, (A : Rat) * P < (B : Rat) * P ↔ A < B := by
    intro A B
    rw [← Rat.intCast_lt_intCast]
    constructor
    · intro h; exact Rat.lt_of_mul_lt_mul_right h (Rat.le_of_lt hP)
    · intro h; exact mul_lt_r h hP
  rw [hl, hl]
  have he : (A : Rat) * P = (B : Rat) * P ↔ A = B := by
    constructor
    · intro h
      have h1 := hl A B
      have h2 := hl B A
      rw [h] at h1 h2
      have : ¬ (B : Rat) * P < (B : Rat) * P := by grind
      have h3 : ¬ A < B := fun h => this (h1.2 h)
      have h4 : ¬ B < A := fun h => this (h2.2 h)
      omega
    · rintro rfl; rfl
  rw [he]
  exact ⟨Int.compare_eq_lt, Int.compare_eq_eq, Int.compare_eq_gt⟩
section
variable {k : FloatKind} {x y : Option Nat} {u v : Rat} (hx : Is k x u) (hy : Is k y v)
include hx hy
theorem is_lt : (cord k x y == some .lt) = decide (u < v) := by obtain ⟨o, h, h1, h2, h3⟩ := is_order hx hy; rw [h, Bool.eq_iff_iff]; simp [h1]
theorem is_gt : (cord k x y == some .gt) = decide (v < u) := by obtain ⟨o, h, h1, h2, h3⟩ := is_order hx hy; rw [h, Bool.eq_iff_iff]; simp [h3]
theorem is_eq : (cord k x y == some .eq) = decide (u = v) := by obtain ⟨o, h, h1, h2, h3⟩ := is_order hx hy; rw [h, Bool.eq_iff_iff]; simp [h2]
theorem is_le : (cord k x y == some .lt || cord k x y == some .eq) = decide (u ≤ v) := by rw [is_lt hx hy, is_eq hx hy, Bool.eq_iff_iff]; simp; grind
theorem is_ge : (cord k x y == some .gt || cord k x y == some .eq) = decide (v ≤ u) := by rw [is_gt hx hy, is_eq hx hy, Bool.eq_iff_iff]; simp; grind
end
theorem flt_is {x y : Option Nat} {u v : Rat} (hx : Is .f32 x u) (hy : Is .f32 y v) : flt x y = decide (u < v) := is_lt hx hy
theorem fgt_is {x y : Option Nat} {u v : Rat} (hx : Is .f32 x u) (hy : Is .f32 y v) : fgt x y = decide (v < u) := is_gt hx hy
theorem feq_is {x y : Option Nat} {u v : Rat} (hx : Is .f32 x u) (hy : Is .f32 y v) : feq x y = decide (u = v) := is_eq hx hy
theorem fle_is {x y : Option Nat} {u v : Rat} (hx : Is .f32 x u) (hy : Is .f32 y v) : fle x y = decide (u ≤ v) := is_le hx hy
theorem fge_is {x y : Option Nat} {u v : Rat} (hx : Is .f32 x u) (hy : Is .f32 y v) : fge x y = decide (v ≤ u) := is_ge hx hy
theorem Is.uniq {k : FloatKind} {x : Option Nat} {u v : Rat} (hx : Is k x u) (hy : Is k x v) : u = v := by
  obtain ⟨a, s, m, i, rfl, hd, rfl⟩ := hx
  obtain ⟨b, t, n, j, h, hd', rfl⟩ := hy
  injection h with h
  subst h
  rw [hd] at hd'
  injection hd' with h1 h2 h3
  subst h1; subst h2; subst h3
  rfl

theorem fin_is {x : Option Nat} : fin x = true ↔ ∃ v, Is .f32 x v := by
  constructor
  · intro h
    cases x with
    | none => cases h
    | some b =>
      have h1 : b % 2147483648 < 2139095040 := of_decide_eq_true h
      obtain ⟨m, e, h2, h3⟩ := read_fin Ieee.single b (by rw [show Ieee.single.signWeight = 2147483648 by decide, show Ieee.single.infRung = 2139095040 by decide]; exact h1)
      exact ⟨_, b, _, m, e, rfl, h2, rfl⟩
  · rintro ⟨v, b, s, m, e, rfl, hd, _⟩
    have := (num32 hd).2.2.2.1
    simp [fin, this]

/-! ### Numbers that a format has -/
theorem rung_dyadic (f : Ieee.Format) (M : Nat) : ∀ j : Nat, M ≤ 2 * f.binade → ∃ r, rungV f r = (M : Rat) * p2 (f.leastPlace + j) := by
  intro j
  induction j generalizing M with
  | zero => exact fun h => ⟨0 * f.binade + M, rungV_form f 0 M (.inl rfl) h⟩
  | succ j ih =>
    intro h
    by_cases hM : f.binade ≤ M
    · exact ⟨_, rungV_form f (j + 1) M (.inr hM) h⟩
    · obtain ⟨r, hr⟩ := ih (2 * M) (by omega)
      refine ⟨r, ?_⟩
      rw [hr, show f.leastPlace + ((j + 1 : Nat) : Int) = f.leastPlace + (j : Int) + 1 by omega, p2_succ, Rat.natCast_mul]
      have : ((2 : Nat) : Rat) = 2 := rfl
      grind
theorem Rep.of_rung {f : Ieee.Format} {r : Nat} (hf : Fit f (rungV f r)) : Rep f (rungV f r) := by
  obtain ⟨R, hR, h1, _⟩ := hf
  refine ⟨r, ?_, .inl rfl⟩
  rcases Nat.lt_or_ge R r with h | h
  · have := rungV_lt f h
    grind
  · omega
theorem rep_dyadic (f : Ieee.Format) (M : Nat) (E : Int) (hM : M ≤ 2 * f.binade) (hE : f.leastPlace ≤ E) (hf : Fit f ((M : Rat) * p2 E)) : Rep f ((M : Rat) * p2 E) := by
  obtain ⟨j, rfl⟩ := Int.le.dest hE
  obtain ⟨r, hr⟩ := rung_dyadic f M j hM
  rw [← hr] at hf ⊢
  exact Rep.of_rung hf
theorem Fit.le {f : Ieee.Format} {u v : Rat} (h : Fit f v) (h1 : u ≤ v) (h2 : -u ≤ v) : Fit f u := by
  obtain ⟨r, hr, h3, h4⟩ := h
  exact ⟨r, hr, by grind, by grind⟩

theorem e32 : Ieee.single.binade = 8388608 ∧ Ieee.single.infRung = 2139095040 ∧ Ieee.single.signWeight = 2147483648 ∧ Ieee.single.leastPlace = -149 ∧ Ieee.single.fractionBits = 23 := by decide
theorem e64 : Ieee.double.binade = 4503599627370496 ∧ Ieee.double.infRung = 9218868437227405312 ∧ Ieee.double.signWeight = 9223372036854775808 ∧ Ieee.double.leastPlace = -1074 ∧ Ieee.double.fractionBits = 52 := by decide

theorem fit32 {v : Rat} (h1 : v ≤ p2 127) (h2 : -v ≤ p2 127) : Fit Ieee.single v := by
  obtain ⟨b1, b2, b3, b4, b5⟩ := e32
  have := rungV_form Ieee.single 253 8388608 (.inr (by omega)) (by omega)
  rw [b1, b4] at this
  have e : ((8388608 : Nat) : Rat) * p2 (-149 + ((253 : Nat) : Int)) = p2 127 := by
    rw [show (8388608 : Nat) = 2 ^ 23 from rfl, ← p2_nat, ← p2_add]
    rfl
  rw [e] at this
  exact ⟨253 * 8388608 + 8388608, by omega, by rw [this]; exact h1, by rw [this]; exact h2⟩
theorem fit64 {v : Rat} (h1 : v ≤ p2 1023) (h2 : -v ≤ p2 1023) : Fit Ieee.double v := by
  obtain ⟨b1, b2, b3, b4, b5⟩ := e64
  have := rungV_form Ieee.double 2045 4503599627370496 (.inr (by omega)) (by omega)
  rw [b1, b4] at this
  have e : ((4503599627370496 : Nat) : Rat) * p2 (-1074 + ((2045 : Nat) : Int)) = p2 1023 := by
    rw [show (4503599627370496 : Nat) = 2 ^ 52 from rfl, ← p2_nat, ← p2_add]
    rfl
  rw [e] at this
  exact ⟨2045 * 4503599627370496 + 4503599627370496, by omega, by rw [this]; exact h1, by rw [this]; exact h2⟩
theorem rep32_p2 (e : Int) (h1 : -149 ≤ e) (h2 : e ≤ 127) : Rep Ieee.single (p2 e) := by
  obtain ⟨b1, b2, b3, b4, b5⟩ := e32
  have h := rep_dyadic Ieee.single 1 e (by omega) (by omega)
  have e1 : ((1 : Nat) : Rat) * p2 e = p2 e := by simp
  rw [e1] at h
  have := p2_pos e
  exact h (fit32 (p2_mono h2) (by have := p2_pos 127; grind))
theorem rep64_p2 (e : Int) (h1 : -1074 ≤ e) (h2 : e ≤ 1023) : Rep Ieee.double (p2 e) := by
  obtain ⟨b1, b2, b3, b4, b5⟩ := e64
  have h := rep_dyadic Ieee.double 1 e (by omega) (by omega)
  have e1 : ((1 : Nat) : Rat) * p2 e = p2 e := by simp
  rw [e1] at h
  have := p2_pos e
  exact h (fit64 (p2_mono h2) (by have := p2_pos 1023; grind))
/-- What a float32 may be. -/
theorem rep32_le {v : Rat} (h : Rep Ieee.single v) : v ≤ p2 128 ∧ -v ≤ p2 128 := by
  obtain ⟨r, hr, hv⟩ := h
  obtain ⟨b1, b2, b3, b4, b5⟩ := e32
  have h1 := rungV_le Ieee.single (show r ≤ 254 * 8388608 + 8388608 by omega)
  have h2 := rungV_form Ieee.single 254 8388608 (.inr (by omega)) (by omega)
  rw [b1, b4] at h2
  rw [h2] at h1
  have e : ((8388608 : Nat) : Rat) * p2 (-149 + ((254 : Nat) : Int)) = p2 128 := by
    rw [show (8388608 : Nat) = 2 ^ 23 from rfl, ← p2_nat, ← p2_add]
    rfl
  rw [e] at h1
  have := rungV_nonneg Ieee.single r
  have := p2_pos 128
  rcases hv with rfl | rfl <;> grind

/-! ### Conversions -/
theorem number_notInf (f : Ieee.Format) (s : Bool) {r : Nat} (hr : r < f.infRung) : (f.read (f.word s r)).isInfinity = false := by
  have hi := f.infRung_lt
  obtain ⟨h1, _⟩ := word_parts f s (show r < f.signWeight by omega)
  obtain ⟨m, e, h3, _⟩ := read_fin f (f.word s r) (by rw [h1]; exact hr)
  rw [h3]; rfl
theorem is_conv {s d : FloatKind} (hne : s ≠ d) {x : Option Nat} {v : Rat} (hx : Is s x v) (hf : Fit d.format v) : ∃ w, Is d (ccv s d x) w ∧ Rnd d.format v w := by
  obtain ⟨a, g, m, i, rfl, hd, rfl⟩ := hx
  obtain ⟨r, h1, h2, h3⟩ := write_rnd d.format g m i hf
  have e : ccv s d (some a) = some (d.format.word g r) := by
    show floatToFloatBits s a d = _
    unfold floatToFloatBits
    rw [if_neg hne, hd]
    simp only
    have e1 : d.encode (.number g m i) = d.format.word g r := h2
    rw [e1]
    have e2 : (d.decode (d.format.word g r)).isInfinity = false := number_notInf d.format g h1
    rw [e2]
    rfl
  exact ⟨_, by rw [e]; exact Is.of_word g h1, h3⟩
theorem Is.fits {s d : FloatKind} {b : Nat} {v : Rat} (hx : Is s (some b) v) (hf : Fit d.format v) : Fits s d b := by
  intro _
  by_cases hne : s = d
  · subst hne; simp [floatToFloat_same]
  · obtain ⟨w, h, _⟩ := is_conv hne hx hf
    obtain ⟨r, _, _, _, h1, _⟩ := h
    exact Option.isSome_iff_exists.2 ⟨r, h1⟩
theorem rep_wide {v : Rat} (h : Rep Ieee.single v) : Rep Ieee.double v := by
  have hb := rep32_le h
  obtain ⟨r, hr, hv⟩ := h
  obtain ⟨b1, b2, b3, b4, b5⟩ := e32
  obtain ⟨c1, c2, c3, c4, c5⟩ := e64
  obtain ⟨j, kept, rfl, h1, h2⟩ := rung_split Ieee.single r
  rw [rungV_form Ieee.single j kept h1 (by omega), b4] at hv
  have hp := p2_mono (show (128 : Int) ≤ 1023 by decide)
  rcases hv with rfl | rfl
  · exact rep_dyadic Ieee.double kept _ (by omega) (by omega) (fit64 (by grind) (by grind))
  · exact (rep_dyadic Ieee.double kept _ (by omega) (by omega) (fit64 (by grind) (by grind))).neg
theorem is_widen {x : Option Nat} {v : Rat} (hx : Is .f32 x v) : Is .f64 (ccv .f32 .f64 x) v := by
  have h := rep_wide hx.rep
  obtain ⟨w, h1, h2⟩ := is_conv (d := .f64) (by decide) hx h.fit
  rw [← h2.of_rep h]
  exact h1

/-! ### Square roots -/
def croot : Option Nat → Option Nat
  | some x => FloatKind.f64.format.sqrt x
  | none => none
theorem rootFrom_spec (n : Nat) : ∀ (todo root : Nat), root * root ≤ n → n < (root + 2 ^ todo) * (root + 2 ^ todo) → Ieee.Datum.rootFrom n todo root * Ieee.Datum.rootFrom n todo root ≤ n ∧ n < (Ieee.Datum.rootFrom n todo root + 1) * (Ieee.Datum.rootFrom n todo root + 1)
  | 0, root, h1, h2 => by simpa [Ieee.Datum.rootFrom] using ⟨h1, h2⟩
  | todo + 1, root, h1, h2 => by
    unfold Ieee.Datum.rootFrom
    dsimp only
    rw [Nat.one_shiftLeft]
    have e : 2 ^ (todo + 1) = 2 ^ todo + 2 ^ todo := by rw [Nat.pow_succ]; omega
    split
    · rename_i h
      exact rootFrom_spec n todo _ h (by rw [Nat.add_assoc, ← e]; exact h2)
    · rename_i h
      exact rootFrom_spec n todo _ h1 (by omega)
/-- 'w' is the root of 'v', rounded. -/
structure Rt (f : Ieee.Format) (v w : Rat) : Prop where
  pos : 0 ≤ w
  rep : Rep f w
  up : ∀ c, Rep f c → 0 ≤ c → v ≤ c * c → w ≤ c
  dn : ∀ c, Rep f c → 0 ≤ c → c * c ≤ v → c ≤ w
theorem sq_le_iff {a b : Nat} : a * a ≤ b * b ↔ a ≤ b := by
  constructor
  · intro h; exact Nat.mul_self_le_mul_self_iff.1 h
  · intro h; exact Nat.mul_self_le_mul_self h
theorem is_root {x : Option Nat} {v : Rat} (hx : Is .f64 x v) (hv : 0 ≤ v) : ∃ w, Is .f64 (croot x) w ∧ Rt Ieee.double v w := by
  obtain ⟨a, s, m, i, rfl, hd, rfl⟩ := hx
  have hrep : Rep Ieee.double (sg s ((m : Rat) * p2 i)) := Is.rep ⟨a, s, m, i, rfl, hd, rfl⟩
  have hmp : 0 ≤ (m : Rat) * p2 i := Rat.mul_nonneg Rat.natCast_nonneg (Rat.le_of_lt (p2_pos _))
  have h1 : croot (some a) = Option.map FloatKind.f64.format.write ((FloatKind.f64.decode a).root (FloatKind.f64.format.fractionBits + 2)) := rfl
  rw [h1, hd]
  obtain ⟨c1, c2, c3, c4, c5⟩ := e64
  have hrung0 : rungV Ieee.double 0 = 0 := rungV_zero _
  simp only [Ieee.Datum.root]
  by_cases hm : m = 0
  · subst hm
    rw [if_pos rfl]
    have hz : sg s (((0 : Nat) : Rat) * p2 i) = 0 := by cases s <;> simp [sg]
    refine ⟨sg s (rungV Ieee.double 0), ?_, ?_⟩
    · have e : FloatKind.f64.format.nearest s 0 i = FloatKind.f64.format.word s 0 := by unfold Ieee.Format.nearest; rw [if_pos rfl]
      show Is .f64 (some (FloatKind.f64.format.nearest s 0 i)) _
      rw [e]
      exact Is.of_word s (by show 0 < Ieee.double.infRung; omega)
    · have e0 : sg s (rungV Ieee.double 0) = 0 := by rw [hrung0]; cases s <;> simp [sg]
      rw [hz, e0]
      refine ⟨Rat.le_refl, ⟨0, by omega, .inl hrung0.symm⟩, fun c _ h _ => h, fun c _ h h' => ?_⟩
      rcases Rat.le_iff_lt_or_eq.1 h with h2 | h2
      · have := Rat.mul_pos h2 h2
        grind
      · rw [← h2]; exact Rat.le_refl
  · have hs : s = false := by
      cases s
      · rfl
      · exfalso
        have h2 : 0 < (m : Rat) * p2 i := Rat.mul_pos (by have := cast_lt (Nat.pos_of_ne_zero hm); exact this) (p2_pos _)
        unfold sg at hv
        simp only [if_true] at hv
        grind
    subst hs
    rw [if_neg hm]
    simp only [Bool.false_eq_true, if_false]
    have hfb : FloatKind.f64.format.fractionBits = 52 := c5
    rw [hfb]
    generalize hmore0 : (2 * (52 + 2) - m.log2 : Nat) = more0
    obtain ⟨more, hmore⟩ : ∃ more, more = more0 + ((i - (more0 : Int)) % 2).toNat := ⟨_, rfl⟩
    rw [← hmore]
    have heven : (i - (more : Int)) % 2 = 0 := by omega
    obtain ⟨n, hn⟩ : ∃ n, n = m <<< more := ⟨_, rfl⟩
    rw [← hn]
    obtain ⟨q, hq⟩ : ∃ q, q = Ieee.Datum.rootFrom n (n.log2 / 2 + 1) 0 := ⟨_, rfl⟩
    rw [← hq]
    have hn' : n = m * 2 ^ more := by rw [hn, Nat.shiftLeft_eq]
    have hsp := rootFrom_spec n (n.log2 / 2 + 1) 0 (by omega) (by
      rw [Nat.zero_add, ← Nat.pow_add]
      calc n < 2 ^ (n.log2 + 1) := Nat.lt_log2_self
        _ ≤ _ := Nat.pow_le_pow_right (by omega) (by omega))
    rw [← hq] at hsp
    obtain ⟨place, hplace⟩ : ∃ place : Int, place = (i - (more : Int)) / 2 - 1 := ⟨_, rfl⟩
    rw [← hplace]
    have hi2 : i = place + place + 2 + more := by omega
    have hP := p2_pos place
    have hval : sg false ((m : Rat) * p2 i) = ((4 * n : Nat) : Rat) * (p2 place * p2 place) := by
      unfold sg
      simp only [Bool.false_eq_true, if_false]
      rw [hi2, p2_add, p2_add, p2_add, p2_nat, hn', Rat.natCast_mul, Rat.natCast_mul]
      have e : p2 2 = ((4 : Nat) : Rat) := by have := p2_nat 2; simpa using this
      rw [e]
      grind
    have hPP := Rat.mul_pos hP hP
    obtain ⟨D, hD⟩ : ∃ D, D = 2 * q + (q * q != n).toNat := ⟨_, rfl⟩
    rw [← hD]
    have hD1 : 2 * q ≤ D ∧ D < 2 * q + 2 := by rw [hD]; cases (q * q != n) <;> simp
    -- the numbers of the format, in units
    have hsq : ∀ K : Nat, (((2 * K : Nat) : Rat) * p2 place) * (((2 * K : Nat) : Rat) * p2 place) = ((4 * (K * K) : Nat) : Rat) * (p2 place * p2 place) := by
      intro K
      rw [Rat.natCast_mul, Rat.natCast_mul, Rat.natCast_mul]
      have e2 : ((2 : Nat) : Rat) = 2 := rfl
      have e4 : ((4 : Nat) : Rat) = 4 := rfl
      rw [e2, e4]
      grind
    have hU : ∀ K : Nat, ((4 * n : Nat) : Rat) * (p2 place * p2 place) ≤ ((4 * (K * K) : Nat) : Rat) * (p2 place * p2 place) → D ≤ 2 * K := by
      intro K hK
      have h2 : n ≤ K * K := by
        apply Nat.le_of_not_lt
        intro h
        have := mul_lt_r (cast_lt (show 4 * (K * K) < 4 * n by omega)) hPP
        grind
      have h3 : q ≤ K := sq_le_iff.1 (by omega)
      by_cases h4 : q * q = n
      · rw [hD, h4]; simp; omega
      · have h5 : q < K := by
          apply Nat.lt_of_le_of_ne h3
          intro h
          subst h
          omega
        omega
    have hL : ∀ K : Nat, ((4 * (K * K) : Nat) : Rat) * (p2 place * p2 place) ≤ ((4 * n : Nat) : Rat) * (p2 place * p2 place) → 2 * K ≤ D := by
      intro K hK
      have h2 : K * K ≤ n := by
        apply Nat.le_of_not_lt
        intro h
        have := mul_lt_r (cast_lt (show 4 * n < 4 * (K * K) by omega)) hPP
        grind
      have h3 : K < q + 1 := by
        apply Nat.lt_of_not_le
        intro h
        have := sq_le_iff.2 h
        omega
      omega
    have hbig : 2 ^ 53 ≤ 2 * q := by
      have h2 : 2 ^ m.log2 ≤ m := Nat.log2_self_le hm
      have h3 : 2 ^ 108 ≤ n := by
        rw [hn']
        calc 2 ^ 108 ≤ 2 ^ (m.log2 + more) := Nat.pow_le_pow_right (by omega) (by omega)
          _ = 2 ^ m.log2 * 2 ^ more := Nat.pow_add ..
          _ ≤ m * 2 ^ more := Nat.mul_le_mul_right _ h2
      have h4 : 2 ^ 54 < q + 1 := by
        apply Nat.lt_of_not_le
        intro h
        have h5 := sq_le_iff.2 h
        have h6 : (2 : Nat) ^ 54 * 2 ^ 54 = 2 ^ 108 := by decide
        omega
      omega
    have hsmall : ∀ R, rungV Ieee.double R < ((2 ^ (Ieee.double.fractionBits + 1) : Nat) : Rat) * p2 place → rungV Ieee.double R < ((2 * q : Nat) : Rat) * p2 place := by
      intro R h
      rw [c5] at h
      have := mul_le_r (cast_le hbig) (Rat.le_of_lt hP)
      grind
    have hA : ∀ R, sg false ((m : Rat) * p2 i) ≤ rungV Ieee.double R * rungV Ieee.double R → (D : Rat) * p2 place ≤ rungV Ieee.double R := by
      intro R hR
      rw [hval] at hR
      rcases rung_units Ieee.double R place with ⟨K, hK⟩ | hlt
      · rw [hK, hsq] at hR
        rw [hK]
        exact mul_le_r (cast_le (hU K hR)) (Rat.le_of_lt hP)
      · exfalso
        have h2 := hsmall R hlt
        have h3 := rungV_nonneg Ieee.double R
        have h4 : rungV Ieee.double R * rungV Ieee.double R < (((2 * q : Nat) : Rat) * p2 place) * (((2 * q : Nat) : Rat) * p2 place) := by
          have e1 := Rat.mul_le_mul_of_nonneg_left (Rat.le_of_lt h2) h3
          have e2 := mul_lt_r h2 (show 0 < ((2 * q : Nat) : Rat) * p2 place by grind)
          grind
        rw [hsq] at h4
        have := mul_le_r (cast_le (show 4 * (q * q) ≤ 4 * n by omega)) (Rat.le_of_lt hPP)
        grind
    have hB : ∀ R, rungV Ieee.double R * rungV Ieee.double R ≤ sg false ((m : Rat) * p2 i) → rungV Ieee.double R ≤ (D : Rat) * p2 place := by
      intro R hR
      rw [hval] at hR
      rcases rung_units Ieee.double R place with ⟨K, hK⟩ | hlt
      · rw [hK, hsq] at hR
        rw [hK]
        exact mul_le_r (cast_le (hL K hR)) (Rat.le_of_lt hP)
      · have h2 := hsmall R hlt
        have := mul_le_r (cast_le hD1.1) (Rat.le_of_lt hP)
        grind
    -- some number of the format is above the root
    have hfit : sg false ((m : Rat) * p2 i) ≤ rungV Ieee.double (2045 * 4503599627370496 + 4503599627370496) * rungV Ieee.double (2045 * 4503599627370496 + 4503599627370496) := by
      have e := rungV_form Ieee.double 2045 4503599627370496 (.inr (by omega)) (by omega)
      rw [c1, c4] at e
      have e' : ((4503599627370496 : Nat) : Rat) * p2 (-1074 + ((2045 : Nat) : Int)) = p2 1023 := by
        rw [show (4503599627370496 : Nat) = 2 ^ 52 from rfl, ← p2_nat, ← p2_add]
        rfl
      rw [e, e', ← p2_add]
      obtain ⟨r, hr, hv'⟩ := hrep
      have h2 := rungV_le Ieee.double (show r ≤ 2046 * 4503599627370496 + 4503599627370496 by omega)
      have h3 := rungV_form Ieee.double 2046 4503599627370496 (.inr (by omega)) (by omega)
      rw [c1, c4] at h3
      have e'' : ((4503599627370496 : Nat) : Rat) * p2 (-1074 + ((2046 : Nat) : Int)) = p2 1024 := by
        rw [show (4503599627370496 : Nat) = 2 ^ 52 from rfl, ← p2_nat, ← p2_add]
        rfl
      rw [h3, e''] at h2
      have h4 := p2_mono (show (1024 : Int) ≤ 1023 + 1023 by decide)
      have h5 := rungV_nonneg Ieee.double r
      rcases hv' with h | h
      · rw [h]; grind
      · rw [h]; have := p2_pos (1023 + 1023); grind
    obtain ⟨r, h2, h3, h4, h5⟩ := write_core Ieee.double false D place (fun R => sg false ((m : Rat) * p2 i) ≤ rungV Ieee.double R * rungV Ieee.double R) (fun R => rungV Ieee.double R * rungV Ieee.double R ≤ sg false ((m : Rat) * p2 i)) hA hB (R0 := 2045 * 4503599627370496 + 4503599627370496) (by omega) hfit
    refine ⟨sg false (rungV Ieee.double r), ?_, ?_⟩
    · show Is .f64 (some (Ieee.double.nearest false D place)) _
      rw [h3]
      exact Is.of_word (k := .f64) false h2
    · refine ⟨rungV_nonneg _ r, ⟨r, h2, .inl rfl⟩, ?_, ?_⟩
      · rintro c ⟨R, hR, hc⟩ hc0 hcv
        have hcR : c = rungV Ieee.double R := by
          rcases hc with h | h
          · exact h
          · have h6 := rungV_nonneg Ieee.double R
            have h7 := rungV_eq_zero (f := Ieee.double) (R := R) (by grind)
            subst h7
            grind
        subst hcR
        exact rungV_le _ (h4 R hcv)
      · rintro c ⟨R, hR, hc⟩ hc0 hcv
        have hcR : c = rungV Ieee.double R := by
          rcases hc with h | h
          · exact h
          · have h6 := rungV_nonneg Ieee.double R
            have h7 := rungV_eq_zero (f := Ieee.double) (R := R) (by grind)
            subst h7
            grind
        subst hcR
        exact rungV_le _ (h5 R hcv)
end Go.Proofs.Ytfpjiclkhjdihaa

namespace Go.Proofs.Ytfpjiclkhjdihaa

theorem rungV_next (f : Ieee.Format) (r : Nat) : ∃ j kept : Nat, rungV f (r + 1) = rungV f r + p2 (f.leastPlace + j) ∧ rungV f r = (kept : Rat) * p2 (f.leastPlace + j) ∧ (j = 0 ∨ f.binade ≤ kept) := by
  obtain ⟨j, kept, rfl, h1, h2⟩ := rung_split f r
  refine ⟨j, kept, ?_, rungV_form f j kept h1 (by omega), h1⟩
  rw [Nat.add_assoc, rungV_form f j kept h1 (by omega), rungV_form f j (kept + 1) (by omega) (by omega), Rat.natCast_add]
  simp
  grind
/-- The error of a rounding is at most a step of the format. -/
theorem Rnd.gap0 {v w : Rat} (h : Rnd Ieee.single v w) (k : Int) (hk : -125 ≤ k) (hk2 : k ≤ 127) (h0 : 0 ≤ v) (h1 : v ≤ p2 k) : w ≤ v + p2 (k - 24) ∧ v ≤ w + p2 (k - 24) := by
  obtain ⟨b1, b2, b3, b4, b5⟩ := e32
  have hp := p2_pos (k - 24)
  have hf : Fit Ieee.single v := fit32 (by have := p2_mono hk2; grind) (by have := p2_pos 127; grind)
  obtain ⟨R, hR, h2, _⟩ := hf
  obtain ⟨Rk, hRk, hk3⟩ := rep32_p2 k (by omega) hk2
  have hk4 : p2 k = rungV Ieee.single Rk := by
    rcases hk3 with hk3 | hk3
    · exact hk3
    · have := rungV_nonneg Ieee.single Rk
      have := p2_pos k
      grind
  rcases between Ieee.single h0 R h2 with h3 | ⟨r, h3, h4, h5⟩
  · have := h.of_rep ⟨R, hR, .inl h3⟩
    grind
  · have h6 := h.dn _ ⟨r, by omega, .inl rfl⟩ h4
    have h7 := h.up _ ⟨r + 1, by omega, .inl rfl⟩ h5
    by_cases he : v = p2 k
    · have := h.of_rep (by rw [he]; exact rep32_p2 k (by omega) hk2)
      grind
    · have h8 : r < Rk := by
        apply Nat.lt_of_not_le
        intro hle
        have := rungV_le Ieee.single hle
        grind
      have h9 := rungV_le Ieee.single (show r + 1 ≤ Rk by omega)
      obtain ⟨j, kept, g1, g2, g3⟩ := rungV_next Ieee.single r
      have g4 : p2 (Ieee.single.leastPlace + j) ≤ p2 (k - 24) := by
        rcases g3 with g3 | g3
        · subst g3; exact p2_mono (by omega)
        · refine Rat.not_lt.1 ?_
          intro hlt
          have g5 : k - 24 < Ieee.single.leastPlace + j := by
            apply Int.lt_of_not_ge
            intro hge
            have := p2_mono hge
            grind
          have g6 : k ≤ 23 + (Ieee.single.leastPlace + j) := by omega
          have g7 := p2_mono g6
          rw [p2_add] at g7
          have g8 : p2 23 = ((8388608 : Nat) : Rat) := by
            have := p2_nat 23
            exact this
          rw [g8] at g7
          rw [b1] at g3
          have g9 := mul_le_r (cast_le g3) (Rat.le_of_lt (p2_pos (Ieee.single.leastPlace + j)))
          have g10 := p2_pos (Ieee.single.leastPlace + j)
          grind
      grind
theorem Rnd.gap {v w : Rat} (h : Rnd Ieee.single v w) (k : Int) (hk : -125 ≤ k) (hk2 : k ≤ 127) (h1 : v ≤ p2 k) (h2 : -v ≤ p2 k) : w ≤ v + p2 (k - 24) ∧ v ≤ w + p2 (k - 24) := by
  by_cases h0 : 0 ≤ v
  · exact h.gap0 k hk hk2 h0 h1
  · have := h.neg.gap0 k hk hk2 (by grind) h2
    grind
/-- The relative error. -/
theorem Rnd.rel {v w : Rat} (h : Rnd Ieee.single v w) (h0 : 0 ≤ v) (h1 : v ≤ p2 127) : w ≤ v + v * (1 / 8388608) + p2 (-149) ∧ v ≤ w + v * (1 / 8388608) + p2 (-149) := by
  obtain ⟨b1, b2, b3, b4, b5⟩ := e32
  have hf : Fit Ieee.single v := fit32 h1 (by have := p2_pos 127; grind)
  have := h.near0 hf h0
  rw [b4, b5] at this
  have e : p2 (-((23 : Nat) : Int)) = 1 / 8388608 := by decide +kernel
  rw [e] at this
  exact this

/-- 'w' is 'v', rounded, with an error of 'E' at the most; it lies between -B and B as 'v' does. -/
structure Nr (v w B E : Rat) : Prop where
  rnd : Rnd Ieee.single v w
  hi : w ≤ v + E
  lo : v ≤ w + E
  top : w ≤ B
  bot : -B ≤ w
theorem Rnd.nr {v w : Rat} (h : Rnd Ieee.single v w) (k : Int) {B E : Rat} (hB : p2 k = B) (hE : p2 (k - 24) = E) (hk : -125 ≤ k) (hk2 : k ≤ 127) (h1 : v ≤ B) (h2 : -B ≤ v) : Nr v w B E := by
  subst hB; subst hE
  have := h.gap k hk hk2 h1 (by grind)
  have hr := rep32_p2 k (by omega) hk2
  exact ⟨h, this.1, this.2, h.up _ hr h1, h.dn _ hr.neg h2⟩
theorem fit_k (k : Int) {B v : Rat} (hB : p2 k = B) (hk2 : k ≤ 127) (h1 : v ≤ B) (h2 : -B ≤ v) : Fit Ieee.single v := by
  subst hB
  have := p2_mono hk2
  exact fit32 (by grind) (by grind)
section
variable {x y : Option Nat} {u v : Rat} (k : Int) {B E : Rat} (hB : p2 k = B) (hE : p2 (k - 24) = E) (hk : -125 ≤ k) (hk2 : k ≤ 127) (hx : Is .f32 x u) (hy : Is .f32 y v)
include hB hE hk hk2 hx hy
theorem nr_add (h1 : u + v ≤ B) (h2 : -B ≤ u + v) : ∃ w, Is .f32 (fadd x y) w ∧ Nr (u + v) w B E := by
  obtain ⟨w, i, r⟩ := is_add hx hy (fit_k k hB hk2 h1 h2)
  exact ⟨w, i, Rnd.nr r k hB hE hk hk2 h1 h2⟩
theorem nr_sub (h1 : u - v ≤ B) (h2 : -B ≤ u - v) : ∃ w, Is .f32 (fsub x y) w ∧ Nr (u - v) w B E := by
  obtain ⟨w, i, r⟩ := is_sub hx hy (fit_k k hB hk2 h1 h2)
  exact ⟨w, i, Rnd.nr r k hB hE hk hk2 h1 h2⟩
theorem nr_mul (h1 : u * v ≤ B) (h2 : -B ≤ u * v) : ∃ w, Is .f32 (fmul x y) w ∧ Nr (u * v) w B E := by
  obtain ⟨w, i, r⟩ := is_mul hx hy (fit_k k hB hk2 h1 h2)
  exact ⟨w, i, Rnd.nr r k hB hE hk hk2 h1 h2⟩
theorem nr_div {q : Rat} (hv : v ≠ 0) (hq : q * v = u) (h1 : q ≤ B) (h2 : -B ≤ q) : ∃ w, Is .f32 (fdiv x y) w ∧ Nr q w B E := by
  have e : u / v = q := by rw [← hq, Rat.mul_div_cancel hv]
  obtain ⟨w, i, r⟩ := is_div hx hy hv (by rw [e]; exact fit_k k hB hk2 h1 h2)
  rw [e] at r
  exact ⟨w, i, Rnd.nr r k hB hE hk hk2 h1 h2⟩
end
theorem k_m4 : p2 (-4) = 1 / 16 ∧ p2 (-4 - 24) = 1 / 268435456 := by decide +kernel
theorem k_0 : p2 0 = 1 ∧ p2 (0 - 24) = 1 / 16777216 := by decide +kernel
theorem k_1 : p2 1 = 2 ∧ p2 (1 - 24) = 1 / 8388608 := by decide +kernel
theorem k_2 : p2 2 = 4 ∧ p2 (2 - 24) = 1 / 4194304 := by decide +kernel
theorem k_3 : p2 3 = 8 ∧ p2 (3 - 24) = 1 / 2097152 := by decide +kernel
theorem k_4 : p2 4 = 16 ∧ p2 (4 - 24) = 1 / 1048576 := by decide +kernel
theorem k_5 : p2 5 = 32 ∧ p2 (5 - 24) = 1 / 524288 := by decide +kernel
theorem k_6 : p2 6 = 64 ∧ p2 (6 - 24) = 1 / 262144 := by decide +kernel
theorem k_7 : p2 7 = 128 ∧ p2 (7 - 24) = 1 / 131072 := by decide +kernel
theorem k_8 : p2 8 = 256 ∧ p2 (8 - 24) = 1 / 65536 := by decide +kernel
theorem k_9 : p2 9 = 512 ∧ p2 (9 - 24) = 1 / 32768 := by decide +kernel
theorem k_10 : p2 10 = 1024 ∧ p2 (10 - 24) = 1 / 16384 := by decide +kernel
/-- A quotient, as a number with its product. -/
theorem quot_mk (u : Rat) {v : Rat} (hv : v ≠ 0) : ∃ q : Rat, q * v = u := ⟨u / v, Rat.div_mul_cancel hv⟩
theorem quot_le {q u v B : Rat} (h : q * v = u) (hv : 0 < v) (h1 : u ≤ B * v) : q ≤ B := Rat.le_of_mul_le_mul_right (by rw [h]; exact h1) hv
theorem quot_ge {q u v B : Rat} (h : q * v = u) (hv : 0 < v) (h1 : B * v ≤ u) : B ≤ q := Rat.le_of_mul_le_mul_right (by rw [h]; exact h1) hv
end Go.Proofs.Ytfpjiclkhjdihaa

namespace Go.Proofs.Ytfpjiclkhjdihaa

/-- 'w' is at most half a step from 'v'. -/
def Half (f : Ieee.Format) (v w : Rat) : Prop := ∃ last : Int, 2 * w ≤ 2 * v + p2 last ∧ 2 * v ≤ 2 * w + p2 last ∧ (last = f.leastPlace ∨ p2 (last + f.fractionBits) ≤ v ∨ p2 (last + f.fractionBits) ≤ -v)
theorem write_half (f : Ieee.Format) (s : Bool) (m : Nat) (p : Int) (hf : Fit f (sg s ((m : Rat) * p2 p))) :
    ∃ r, r < f.infRung ∧ f.nearest s m p = f.word s r ∧ Half f (sg s ((m : Rat) * p2 p)) (sg s (rungV f r)) := by
  obtain ⟨r, h1, h2, h3⟩ := write_rnd f s m p hf
  refine ⟨r, h1, h2, ?_⟩
  by_cases hm : m = 0
  · subst hm
    have hz : sg s (((0 : Nat) : Rat) * p2 p) = 0 := by cases s <;> simp [sg]
    have e := h3.of_rep (by rw [hz]; exact ⟨0, by omega, .inl (rungV_zero _).symm⟩)
    rw [e]
    have := p2_pos f.leastPlace
    exact ⟨f.leastPlace, by grind, by grind, .inl rfl⟩
  · obtain ⟨r', g1, _, _, last, g4, g5, g6⟩ := nearest_spec f s m p hm
    have hi := f.infRung_lt
    have hrr : min r' f.infRung = r := by
      rw [h2] at g1
      have q1 := (word_parts f s (show r < f.signWeight by omega)).1
      rw [g1, (word_parts f s (show min r' f.infRung < f.signWeight by omega)).1] at q1
      exact q1
    have : r' = r := by omega
    subst this
    refine ⟨last, ?_, ?_, ?_⟩
    · cases s <;> simp [sg] <;> grind
    · cases s <;> simp [sg] <;> grind
    · rcases g6 with g6 | g6
      · exact .inl g6
      · cases s
        · exact .inr (.inl g6)
        · right; right; simp [sg]; grind
theorem half_add {k : FloatKind} {x y : Option Nat} {u v : Rat} (hx : Is k x u) (hy : Is k y v) (hf : Fit k.format (u + v)) : ∃ w, Is k (cop .add k x y) w ∧ Half k.format (u + v) w := by
  obtain ⟨a, s, m, i, rfl, hd, rfl⟩ := hx
  obtain ⟨b, t, n, j, rfl, hd', rfl⟩ := hy
  have h1 : cop .add k (some a) (some b) = Option.map k.format.write ((k.decode a).sum (k.decode b)) := rfl
  rw [h1, hd, hd']
  simp only [Ieee.Datum.sum]
  generalize hT : Ieee.signed s m (i - min i j).toNat + Ieee.signed t n (j - min i j).toNat = T
  have hv : (T : Rat) * p2 (min i j) = sg s ((m : Rat) * p2 i) + sg t ((n : Rat) * p2 j) := by
    rw [← hT, Rat.intCast_add, Rat.add_mul, signed_dq s m i _ (by omega), signed_dq t n j _ (by omega)]
  generalize hS : (if T = 0 then s && t else decide (T < 0)) = S
  have hw : sg S ((T.natAbs : Rat) * p2 (min i j)) = sg s ((m : Rat) * p2 i) + sg t ((n : Rat) * p2 j) := by
    rw [← hv, ← hS]
    by_cases h0 : T = 0
    · subst h0
      unfold sg
      simp
    · rw [if_neg h0]
      by_cases h2 : T < 0
      · obtain ⟨q, hq⟩ : ∃ q : Nat, T = -(q : Int) := ⟨T.natAbs, by omega⟩
        subst hq
        unfold sg
        simp only [h2, decide_true, if_true, Int.natAbs_neg, Int.natAbs_natCast, Rat.intCast_neg, Rat.intCast_natCast]
        grind
      · obtain ⟨q, hq⟩ : ∃ q : Nat, T = (q : Int) := ⟨T.natAbs, by omega⟩
        subst hq
        unfold sg
        simp only [h2, decide_false, Bool.false_eq_true, if_false, Int.natAbs_natCast, Rat.intCast_natCast]
  rw [← hw] at hf ⊢
  obtain ⟨r, h2, h3, h4⟩ := write_half k.format S T.natAbs (min i j) hf
  refine ⟨_, ?_, h4⟩
  show Is k (some (k.format.nearest S T.natAbs (min i j))) _
  rw [h3]
  exact Is.of_word S h2
theorem half_sub {k : FloatKind} {x y : Option Nat} {u v : Rat} (hx : Is k x u) (hy : Is k y v) (hf : Fit k.format (u - v)) : ∃ w, Is k (cop .sub k x y) w ∧ Half k.format (u - v) w := by
  obtain ⟨a, s, m, i, rfl, hd, rfl⟩ := hx
  obtain ⟨b, t, n, j, rfl, hd', rfl⟩ := hy
  have h1 : cop .sub k (some a) (some b) = Option.map k.format.write ((k.decode a).sum (k.decode b).opposite) := rfl
  rw [h1, hd, hd']
  simp only [Ieee.Datum.opposite, Ieee.Datum.sum]
  generalize hT : Ieee.signed s m (i - min i j).toNat + Ieee.signed (!t) n (j - min i j).toNat = T
  have hv : (T : Rat) * p2 (min i j) = sg s ((m : Rat) * p2 i) - sg t ((n : Rat) * p2 j) := by
    rw [← hT, Rat.intCast_add, Rat.add_mul, signed_dq s m i _ (by omega), signed_dq (!t) n j _ (by omega), sg_not]
    grind
  generalize hS : (if T = 0 then s && !t else decide (T < 0)) = S
  have hw : sg S ((T.natAbs : Rat) * p2 (min i j)) = sg s ((m : Rat) * p2 i) - sg t ((n : Rat) * p2 j) := by
    rw [← hv, ← hS]
    by_cases h0 : T = 0
    · subst h0
      unfold sg
      simp
    · rw [if_neg h0]
      by_cases h2 : T < 0
      · obtain ⟨q, hq⟩ : ∃ q : Nat, T = -(q : Int) := ⟨T.natAbs, by omega⟩
        subst hq
        unfold sg
        simp only [h2, decide_true, if_true, Int.natAbs_neg, Int.natAbs_natCast, Rat.intCast_neg, Rat.intCast_natCast]
        grind
      · obtain ⟨q, hq⟩ : ∃ q : Nat, T = (q : Int) := ⟨T.natAbs, by omega⟩
        subst hq
        unfold sg
        simp only [h2, decide_false, Bool.false_eq_true, if_false, Int.natAbs_natCast, Rat.intCast_natCast]
  rw [← hw] at hf ⊢
  obtain ⟨r, h2, h3, h4⟩ := write_half k.format S T.natAbs (min i j) hf
  refine ⟨_, ?_, h4⟩
  show Is k (some (k.format.nearest S T.natAbs (min i j))) _
  rw [h3]
  exact Is.of_word S h2
theorem half_mul {k : FloatKind} {x y : Option Nat} {u v : Rat} (hx : Is k x u) (hy : Is k y v) (hf : Fit k.format (u * v)) : ∃ w, Is k (cop .mul k x y) w ∧ Half k.format (u * v) w := by
  obtain ⟨a, s, m, i, rfl, hd, rfl⟩ := hx
  obtain ⟨b, t, n, j, rfl, hd', rfl⟩ := hy
  have h1 : cop .mul k (some a) (some b) = Option.map k.format.write ((k.decode a).product (k.decode b)) := rfl
  rw [h1, hd, hd']
  simp only [Ieee.Datum.product]
  have hw : sg (s ^^ t) (((m * n : Nat) : Rat) * p2 (i + j)) = sg s ((m : Rat) * p2 i) * sg t ((n : Rat) * p2 j) := by
    rw [← sg_mul, Rat.natCast_mul, p2_add]
    congr 1
    grind
  rw [← hw] at hf ⊢
  obtain ⟨r, h2, h3, h4⟩ := write_half k.format (s ^^ t) (m * n) (i + j) hf
  refine ⟨_, ?_, h4⟩
  show Is k (some (k.format.nearest (s ^^ t) (m * n) (i + j))) _
  rw [h3]
  exact Is.of_word _ h2

theorem Half.gap {v w : Rat} (h : Half Ieee.single v w) (k : Int) (hk : -120 ≤ k) (h1 : v < p2 k) (h2 : -v < p2 k) : w ≤ v + p2 (k - 25) ∧ v ≤ w + p2 (k - 25) := by
  obtain ⟨b1, b2, b3, b4, b5⟩ := e32
  obtain ⟨last, g1, g2, g3⟩ := h
  rw [b4, b5] at g3
  have hl : last ≤ k - 24 := by
    apply Int.not_lt.1
    intro hlt
    rcases g3 with g3 | g3 | g3
    · omega
    · have := p2_mono (show k ≤ last + 23 by omega)
      grind
    · have := p2_mono (show k ≤ last + 23 by omega)
      grind
  have hm := p2_mono hl
  have e := p2_succ (k - 25)
  rw [show k - 25 + 1 = k - 24 by omega] at e
  grind
/-- A difference that is nearly 1 is 1. -/
theorem Half.one {v w : Rat} (h : Half Ieee.single v w) (hr : Rnd Ieee.single v w) (h1 : v ≤ 1) (h2 : 1 - 1 / 33554432 < v) : w = 1 := by
  have r1 : Rep Ieee.single 1 := by have := rep32_p2 0 (by decide) (by decide); rw [p2_zero] at this; exact this
  by_cases hv : v = 1
  · rw [hv] at hr
    exact hr.of_rep r1
  · obtain ⟨b1, b2, b3, b4, b5⟩ := e32
    have e0 : p2 0 = 1 := p2_zero
    have e25 : p2 (0 - 25) = 1 / 33554432 := by decide +kernel
    have g := h.gap 0 (by decide) (by rw [e0]; grind) (by rw [e0]; grind)
    rw [e25] at g
    have w1 := hr.up 1 r1 h1
    obtain ⟨r, hr1, hr2⟩ := hr.rep
    have hr0 := rungV_nonneg Ieee.single r
    have hwr : w = rungV Ieee.single r := by rcases hr2 with h | h; exact h; grind
    have f0 := rungV_form Ieee.single 126 8388608 (.inr (by omega)) (by omega)
    have f2 := rungV_form Ieee.single 125 16777215 (.inr (by omega)) (by omega)
    rw [b1, b4] at f0 f2
    have x0 : rungV Ieee.single 1065353216 = 1 := by
      have : 126 * 8388608 + 8388608 = 1065353216 := rfl
      rw [this] at f0; rw [f0]; decide +kernel
    have x2 : rungV Ieee.single 1065353215 = 1 - 1 / 16777216 := by
      have : 125 * 8388608 + 16777215 = 1065353215 := rfl
      rw [this] at f2; rw [f2]; decide +kernel
    have hb2 : 1065353216 ≤ r := by
      apply Nat.le_of_not_lt
      intro hlt
      have := rungV_le Ieee.single (show r ≤ 1065353215 by omega)
      grind
    have := rungV_le Ieee.single hb2
    grind
/-! ### For float32, with both bounds -/
structure Nh (v w B E : Rat) : Prop where
  rnd : Rnd Ieee.single v w
  half : Half Ieee.single v w
  hi : w ≤ v + E
  lo : v ≤ w + E
  top : w ≤ B
  bot : -B ≤ w
theorem Rnd.nh {v w : Rat} (h : Rnd Ieee.single v w) (hh : Half Ieee.single v w) (k : Int) {B E : Rat} (hB : p2 k = B) (hE : p2 (k - 25) = E) (hk : -120 ≤ k) (hk2 : k ≤ 127) (h1 : v ≤ B) (h2 : -B ≤ v) : Nh v w B E := by
  subst hB; subst hE
  have hr := rep32_p2 k (by omega) hk2
  have t1 := h.up _ hr h1
  have t2 := h.dn _ hr.neg h2
  have hp := p2_pos (k - 25)
  by_cases e1 : v = p2 k
  · have := h.of_rep (by rw [e1]; exact hr)
    exact ⟨h, hh, by grind, by grind, t1, t2⟩
  · by_cases e2 : v = -p2 k
    · have := h.of_rep (by rw [e2]; exact hr.neg)
      exact ⟨h, hh, by grind, by grind, t1, t2⟩
    · have := hh.gap k hk (by grind) (by grind)
      exact ⟨h, hh, this.1, this.2, t1, t2⟩
section
variable {x y : Option Nat} {u v : Rat} (k : Int) {B E : Rat} (hB : p2 k = B) (hE : p2 (k - 25) = E) (hk : -120 ≤ k) (hk2 : k ≤ 127) (hx : Is .f32 x u) (hy : Is .f32 y v)
include hB hE hk hk2 hx hy
theorem nh_add (h1 : u + v ≤ B) (h2 : -B ≤ u + v) : ∃ w, Is .f32 (fadd x y) w ∧ Nh (u + v) w B E := by
  have hf := fit_k k hB hk2 h1 h2
  obtain ⟨w, i, r⟩ := is_add hx hy hf
  obtain ⟨w', i', r'⟩ := half_add hx hy hf
  have := i.uniq i'
  subst this
  exact ⟨w, i, Rnd.nh r r' k hB hE hk hk2 h1 h2⟩
theorem nh_sub (h1 : u - v ≤ B) (h2 : -B ≤ u - v) : ∃ w, Is .f32 (fsub x y) w ∧ Nh (u - v) w B E := by
  have hf := fit_k k hB hk2 h1 h2
  obtain ⟨w, i, r⟩ := is_sub hx hy hf
  obtain ⟨w', i', r'⟩ := half_sub hx hy hf
  have := i.uniq i'
  subst this
  exact ⟨w, i, Rnd.nh r r' k hB hE hk hk2 h1 h2⟩
theorem nh_mul (h1 : u * v ≤ B) (h2 : -B ≤ u * v) : ∃ w, Is .f32 (fmul x y) w ∧ Nh (u * v) w B E := by
  have hf := fit_k k hB hk2 h1 h2
  obtain ⟨w, i, r⟩ := is_mul hx hy hf
  obtain ⟨w', i', r'⟩ := half_mul hx hy hf
  have := i.uniq i'
  subst this
  exact ⟨w, i, Rnd.nh r r' k hB hE hk hk2 h1 h2⟩
end
theorem h_0 : p2 0 = 1 ∧ p2 (0 - 25) = 1 / 33554432 := by decide +kernel
theorem h_1 : p2 1 = 2 ∧ p2 (1 - 25) = 1 / 16777216 := by decide +kernel
theorem h_m4 : p2 (-4) = 1 / 16 ∧ p2 (-4 - 25) = 1 / 536870912 := by decide +kernel
end Go.Proofs.Ytfpjiclkhjdihaa
