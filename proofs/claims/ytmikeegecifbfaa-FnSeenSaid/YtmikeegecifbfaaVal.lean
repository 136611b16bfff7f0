/- The numbers that words stand for, as rationals; to round is to find the rung next to a number. No program is named here. -/
import Derived.Test.YtmikeegecifbfaaNum
namespace Go.Proofs.Ytmikeegecifbfaa

def p2 (e : Int) : Rat := (2 : Rat) ^ e
theorem p2_pos (e : Int) : 0 < p2 e := Rat.zpow_pos (by decide)
theorem p2_add (a b : Int) : p2 (a + b) = p2 a * p2 b := Rat.zpow_add (by decide) a b
theorem p2_nat (n : Nat) : p2 n = ((2 ^ n : Nat) : Rat) := by
  unfold p2
  rw [Rat.zpow_natCast, Rat.natCast_pow]
  rfl
theorem p2_one : p2 1 = 2 := by
  have := p2_nat 1
  simpa using this
theorem p2_zero : p2 0 = 1 := Rat.zpow_zero _
theorem p2_succ (a : Int) : p2 (a + 1) = 2 * p2 a := by rw [p2_add, p2_one]; grind
theorem p2_mono {a b : Int} (h : a ≤ b) : p2 a ≤ p2 b := by
  obtain ⟨n, rfl⟩ := Int.le.dest h
  rw [p2_add, p2_nat]
  have h1 : (1 : Rat) ≤ ((2 ^ n : Nat) : Rat) := by
    have : (1 : Nat) ≤ 2 ^ n := Nat.one_le_two_pow
    exact_mod_cast Rat.natCast_le_natCast.2 this
  have := Rat.mul_le_mul_of_nonneg_left h1 (Rat.le_of_lt (p2_pos a))
  grind
theorem cast_le {a b : Nat} (h : a ≤ b) : (a : Rat) ≤ (b : Rat) := Rat.natCast_le_natCast.2 h
theorem cast_lt {a b : Nat} (h : a < b) : (a : Rat) < (b : Rat) := Rat.natCast_lt_natCast.2 h
theorem mul_le_r {a b c : Rat} (h : a ≤ b) (hc : 0 ≤ c) : a * c ≤ b * c := Rat.mul_le_mul_of_nonneg_right h hc
theorem mul_lt_r {a b c : Rat} (h : a < b) (hc : 0 < c) : a * c < b * c := Rat.mul_lt_mul_of_pos_right h hc

section
variable (f : Ieee.Format)
theorem binade_pos : 0 < f.binade := Nat.two_pow_pos _

/-- The number of a rung, as if there were no greatest one. -/
def rungV (r : Nat) : Rat :=
  if r < f.binade then (r : Rat) * p2 f.leastPlace else ((f.binade + r % f.binade : Nat) : Rat) * p2 (f.leastPlace + ((r / f.binade - 1 : Nat) : Int))

theorem rungV_form (j kept : Nat) (h1 : j = 0 ∨ f.binade ≤ kept) (h2 : kept ≤ 2 * f.binade) : rungV f (j * f.binade + kept) = (kept : Rat) * p2 (f.leastPlace + (j : Int)) := by
  have hb := binade_pos f
  unfold rungV
  generalize f.binade = B at *
  by_cases h3 : j * B + kept < B
  · rw [if_pos h3]
    have hj : j = 0 := by
      rcases h1 with h | h
      · exact h
      · omega
    subst hj
    simp
  · rw [if_neg h3]
    by_cases h4 : kept = 2 * B
    · have e1 : (j * B + kept) % B = 0 := by
        rw [show j * B + kept = B * (j + 2) by rw [h4, Nat.mul_add, Nat.mul_comm j B, Nat.mul_comm 2 B]]
        exact Nat.mul_mod_right _ _
      have e2 : (j * B + kept) / B = j + 2 := by
        rw [show j * B + kept = B * (j + 2) by rw [h4, Nat.mul_add, Nat.mul_comm j B, Nat.mul_comm 2 B]]
        exact Nat.mul_div_cancel_left _ hb
      rw [e1, e2, h4, show ((j + 2 - 1 : Nat) : Int) = (j : Int) + 1 by omega, ← Int.add_assoc, p2_succ, Nat.add_zero, Rat.natCast_mul]
      grind
    · have h5 : B ≤ kept := by
        rcases h1 with h | h
        · subst h; omega
        · exact h
      obtain ⟨c, rfl⟩ : ∃ c, kept = B + c := ⟨kept - B, by omega⟩
      have hc : c < B := by omega
      have e0 : j * B + (B + c) = B * (j + 1) + c := by rw [Nat.mul_add, Nat.mul_comm j B]; omega
      have e1 : (j * B + (B + c)) % B = c := by rw [e0, Nat.mul_add_mod, Nat.mod_eq_of_lt hc]
      have e2 : (j * B + (B + c)) / B = j + 1 := by rw [e0, Nat.mul_add_div hb, Nat.div_eq_of_lt hc, Nat.add_zero]
      rw [e1, e2]
      simp

theorem rung_split (r : Nat) : ∃ j kept, r = j * f.binade + kept ∧ (j = 0 ∨ f.binade ≤ kept) ∧ kept < 2 * f.binade := by
  have hb := binade_pos f
  generalize f.binade = B at *
  by_cases h : r < B
  · exact ⟨0, r, by omega, .inl rfl, by omega⟩
  · have h1 := Nat.div_add_mod r B
    have h2 := Nat.mod_lt r hb
    have h3 : 0 < r / B := Nat.div_pos (by omega) hb
    refine ⟨r / B - 1, B + r % B, ?_, .inr (by omega), by omega⟩
    obtain ⟨q, hq⟩ : ∃ q, r / B = q + 1 := ⟨r / B - 1, by omega⟩
    rw [hq] at h1 ⊢
    rw [Nat.mul_add, Nat.mul_comm B q] at h1
    simp only [Nat.add_sub_cancel]
    omega

theorem rungV_succ (r : Nat) : rungV f r < rungV f (r + 1) := by
  obtain ⟨j, kept, rfl, h1, h2⟩ := rung_split f r
  rw [Nat.add_assoc, rungV_form f j kept h1 (by omega), rungV_form f j (kept + 1) (by omega) (by omega)]
  exact mul_lt_r (cast_lt (by omega)) (p2_pos _)
theorem rungV_lt {r s : Nat} (h : r < s) : rungV f r < rungV f s := by
  induction s with
  | zero => omega
  | succ s ih =>
    by_cases e : r = s
    · subst e; exact rungV_succ f r
    · have := ih (by omega)
      have := rungV_succ f s
      grind
theorem rungV_le {r s : Nat} (h : r ≤ s) : rungV f r ≤ rungV f s := by
  by_cases e : r = s
  · subst e; exact Rat.le_refl
  · exact Rat.le_of_lt (rungV_lt f (by omega))
theorem rungV_zero : rungV f 0 = 0 := by
  unfold rungV
  rw [if_pos (binade_pos f)]
  simp
theorem rungV_nonneg (r : Nat) : 0 ≤ rungV f r := by rw [← rungV_zero f]; exact rungV_le f (Nat.zero_le _)

/-- What is kept is next to what there was. -/
theorem cut_near (neg : Bool) (n drop : Nat) : 2 * (Ieee.Toward.even.cut neg n drop * 2 ^ drop) ≤ 2 * n + 2 ^ drop ∧ 2 * n ≤ 2 * (Ieee.Toward.even.cut neg n drop * 2 ^ drop) + 2 ^ drop := by
  unfold Ieee.Toward.cut
  simp only
  by_cases hd : drop ≤ n.log2 + 2
  · rw [Nat.min_eq_left hd, Nat.one_shiftLeft]
    have hG : 0 < 2 ^ drop := Nat.two_pow_pos _
    generalize 2 ^ drop = G at *
    have h1 := Nat.div_add_mod n G
    have h2 := Nat.mod_lt n hG
    generalize n / G = q at *
    generalize n % G = t at *
    have h3 : q * G = G * q := Nat.mul_comm _ _
    have hM : ∀ M : Bool, M = (decide (G < 2 * t) || G == 2 * t && q % 2 == 1) → (M = true → G ≤ 2 * t) ∧ (M = false → 2 * t ≤ G) := by
      rintro M rfl
      simp
      constructor
      · rintro (h | h) <;> omega
      · intro h _; exact h
    have hM := hM _ rfl
    generalize (decide (G < 2 * t) || G == 2 * t && q % 2 == 1) = M at *
    cases M with
    | true => have := hM.1 rfl; simp [Nat.add_mul]; omega
    | false => have := hM.2 rfl; simp; omega
  · rw [Nat.min_eq_right (by omega), Nat.one_shiftLeft]
    have hlt : n < 2 ^ (n.log2 + 1) := Nat.lt_log2_self
    have hp : 2 ^ (n.log2 + 2) = 2 * 2 ^ (n.log2 + 1) := by rw [Nat.pow_succ]; omega
    have hq : 2 ^ (n.log2 + 2) ≤ 2 ^ drop := Nat.pow_le_pow_right (by omega) (by omega)
    have e1 : n / 2 ^ (n.log2 + 2) = 0 := Nat.div_eq_of_lt (by omega)
    have e2 : n % 2 ^ (n.log2 + 2) = n := Nat.mod_eq_of_lt (by omega)
    rw [e1, e2]
    have c1 : decide (2 ^ (n.log2 + 2) < 2 * n) = false := by simp; omega
    have c2 : (2 ^ (n.log2 + 2) == 2 * n) = false := by simp; omega
    rw [c1, c2]
    simp
    omega

theorem nearest_spec (s : Bool) (m : Nat) (p : Int) (hm : m ≠ 0) : ∃ r, f.nearest s m p = f.word s (min r f.infRung) ∧
    (∀ R, (m : Rat) * p2 p ≤ rungV f R → r ≤ R) ∧ (∀ R, rungV f R ≤ (m : Rat) * p2 p → R ≤ r) ∧
    ∃ last : Int, 2 * rungV f r ≤ 2 * ((m : Rat) * p2 p) + p2 last ∧ 2 * ((m : Rat) * p2 p) ≤ 2 * rungV f r + p2 last ∧ (last = f.leastPlace ∨ p2 (last + f.fractionBits) ≤ (m : Rat) * p2 p) := by
  unfold Ieee.Format.nearest
  rw [if_neg hm]
  dsimp only
  obtain ⟨last, hlast⟩ : ∃ last, last = max (p + (m.log2 : Int) - f.fractionBits) f.leastPlace := ⟨_, rfl⟩
  rw [← hlast]
  obtain ⟨j, hj⟩ : ∃ j : Nat, last = f.leastPlace + j := ⟨(last - f.leastPlace).toNat, by omega⟩
  have ej : (last - f.leastPlace).toNat = j := by omega
  obtain ⟨n, hn⟩ : ∃ n, n = m <<< (p - last).toNat := ⟨_, rfl⟩
  obtain ⟨drop, hdrop⟩ : ∃ drop, drop = (last - p).toNat := ⟨_, rfl⟩
  rw [← hn, ← hdrop, ej]
  have hc := cut_near s n drop
  obtain ⟨kept, hk⟩ : ∃ kept, kept = Ieee.Toward.even.cut s n drop := ⟨_, rfl⟩
  rw [← hk] at hc ⊢
  have hB : f.binade = 2 ^ f.fractionBits := rfl
  have hlo : 2 ^ m.log2 ≤ m := Nat.log2_self_le hm
  have hhi : m < 2 ^ (m.log2 + 1) := Nat.lt_log2_self
  -- 'n' in its own terms
  have hv : (m : Rat) * p2 p = (n : Rat) * p2 (last - drop) := by
    by_cases h : last ≤ p
    · obtain ⟨d, hd⟩ : ∃ d : Nat, p = last + d := ⟨(p - last).toNat, by omega⟩
      have e1 : (p - last).toNat = d := by omega
      have e2 : drop = 0 := by omega
      rw [hn, e1, e2, Nat.shiftLeft_eq, Rat.natCast_mul, hd, p2_add, ← p2_nat]
      simp
      grind
    · have e1 : (p - last).toNat = 0 := by omega
      rw [hn, e1, show last - (drop : Int) = p by omega]
      rfl
  have hup : n < 2 ^ (drop + f.fractionBits + 1) := by
    by_cases h : last ≤ p
    · have e1 : n = m * 2 ^ (p - last).toNat := by rw [hn, Nat.shiftLeft_eq]
      calc n < 2 ^ (m.log2 + 1) * 2 ^ (p - last).toNat := by rw [e1]; exact Nat.mul_lt_mul_of_pos_right hhi (Nat.two_pow_pos _)
        _ = 2 ^ (m.log2 + 1 + (p - last).toNat) := by rw [← Nat.pow_add]
        _ ≤ 2 ^ (drop + f.fractionBits + 1) := Nat.pow_le_pow_right (by omega) (by omega)
    · have e1 : n = m := by rw [hn, show (p - last).toNat = 0 by omega]; rfl
      calc n < 2 ^ (m.log2 + 1) := by rw [e1]; exact hhi
        _ ≤ 2 ^ (drop + f.fractionBits + 1) := Nat.pow_le_pow_right (by omega) (by omega)
  have hdn : f.leastPlace < last → 2 ^ (drop + f.fractionBits) ≤ n := by
    intro hl
    by_cases h : last ≤ p
    · have e1 : n = m * 2 ^ (p - last).toNat := by rw [hn, Nat.shiftLeft_eq]
      calc 2 ^ (drop + f.fractionBits) ≤ 2 ^ (m.log2 + (p - last).toNat) := Nat.pow_le_pow_right (by omega) (by omega)
        _ = 2 ^ m.log2 * 2 ^ (p - last).toNat := by rw [← Nat.pow_add]
        _ ≤ n := by rw [e1]; exact Nat.mul_le_mul_right _ hlo
    · have e1 : n = m := by rw [hn, show (p - last).toNat = 0 by omega]; rfl
      calc 2 ^ (drop + f.fractionBits) ≤ 2 ^ m.log2 := Nat.pow_le_pow_right (by omega) (by omega)
        _ ≤ n := by rw [e1]; exact hlo
  have hD : 0 < 2 ^ drop := Nat.two_pow_pos _
  have e3 : 2 ^ (drop + f.fractionBits) = f.binade * 2 ^ drop := by rw [Nat.pow_add, hB, Nat.mul_comm]
  have e4 : 2 ^ (drop + f.fractionBits + 1) = 2 * f.binade * 2 ^ drop := by rw [Nat.pow_succ, e3, Nat.mul_comm, Nat.mul_assoc]
  rw [e4] at hup
  rw [e3] at hdn
  have hk2 : kept ≤ 2 * f.binade := by
    apply Nat.le_of_not_lt
    intro h
    have h1 : (2 * f.binade + 1) * 2 ^ drop ≤ kept * 2 ^ drop := Nat.mul_le_mul_right _ h
    rw [Nat.add_mul] at h1
    omega
  have hk1 : f.leastPlace < last → f.binade ≤ kept := by
    intro hl
    have := hdn hl
    apply Nat.le_of_not_lt
    intro h
    have h1 : (kept + 1) * 2 ^ drop ≤ f.binade * 2 ^ drop := Nat.mul_le_mul_right _ h
    rw [Nat.add_mul] at h1
    omega
  have hform : j = 0 ∨ f.binade ≤ kept := by
    by_cases h : j = 0
    · exact .inl h
    · exact .inr (hk1 (by omega))
  have hval := rungV_form f j kept hform hk2
  have hC : 0 < p2 (last - drop) := p2_pos _
  have hpl : p2 last = ((2 ^ drop : Nat) : Rat) * p2 (last - drop) := by
    rw [← p2_nat, ← p2_add]
    congr 1
    omega
  -- the number in the places of 'last - drop'
  have key : ∀ x y : Nat, (x * 2 ^ drop ≤ 2 * n ∧ y = x → (x : Rat) * p2 last ≤ 2 * ((m : Rat) * p2 p)) ∧ (2 * n ≤ x * 2 ^ drop → 2 * ((m : Rat) * p2 p) ≤ (x : Rat) * p2 last) ∧ (x * 2 ^ drop < 2 * n → (x : Rat) * p2 last < 2 * ((m : Rat) * p2 p)) ∧ (2 * n < x * 2 ^ drop → 2 * ((m : Rat) * p2 p) < (x : Rat) * p2 last) := by
    intro x y
    rw [hv, hpl]
    have ex : (x : Rat) * (((2 ^ drop : Nat) : Rat) * p2 (last - drop)) = ((x * 2 ^ drop : Nat) : Rat) * p2 (last - drop) := by rw [Rat.natCast_mul]; grind
    have en : 2 * ((n : Rat) * p2 (last - drop)) = ((2 * n : Nat) : Rat) * p2 (last - drop) := by rw [Rat.natCast_mul]; grind
    rw [ex, en]
    exact ⟨fun h => mul_le_r (cast_le h.1) (Rat.le_of_lt hC), fun h => mul_le_r (cast_le h) (Rat.le_of_lt hC), fun h => mul_lt_r (cast_lt h) hC, fun h => mul_lt_r (cast_lt h) hC⟩
  refine ⟨j * f.binade + kept, rfl, ?_, ?_, ?_⟩
  · intro R hR
    apply Nat.le_of_not_lt
    intro hlt
    have hpos : kept ≠ 0 ∨ j ≠ 0 := by
      by_cases h : j = 0
      · subst h; left; omega
      · exact .inr h
    by_cases h5 : j ≠ 0 ∧ kept = f.binade
    · have h6 : f.leastPlace < last := by omega
      have h7 := hdn h6
      have h8 := (key (2 * kept) (2 * kept)).1 ⟨by rw [Nat.mul_assoc, h5.2]; omega, rfl⟩
      have h9 := rungV_lt f hlt
      rw [hval, ← hj] at h9
      rw [Rat.natCast_mul] at h8
      grind
    · have h6 : j = 0 ∨ f.binade ≤ kept - 1 := by
        rcases hform with h | h
        · exact .inl h
        · by_cases hj0 : j = 0
          · exact .inl hj0
          · right; omega
      have hk0 : kept ≠ 0 := by
        rcases hpos with h | h
        · exact h
        · have := binade_pos f; rcases h6 with h' | h' <;> omega
      obtain ⟨k', rfl⟩ : ∃ k', kept = k' + 1 := ⟨kept - 1, by omega⟩
      have hform' := rungV_form f j k' (by simpa using h6) (by omega)
      have h9 := rungV_le f (show R ≤ j * f.binade + k' by omega)
      rw [hform', ← hj] at h9
      have h10 := (key (2 * k') (2 * k')).2.2.1 (by rw [Nat.add_mul] at hc; rw [Nat.mul_assoc]; omega)
      rw [Rat.natCast_mul] at h10
      grind
  · intro R hR
    apply Nat.le_of_not_lt
    intro hlt
    have h9 := rungV_le f (show j * f.binade + kept + 1 ≤ R by omega)
    have h10 := (key (2 * (kept + 1)) 0).2.2.2 (by rw [Nat.mul_assoc, Nat.add_mul]; omega)
    rw [Rat.natCast_mul] at h10
    by_cases h5 : kept = 2 * f.binade
    · have e5 : j * f.binade + kept + 1 = (j + 1) * f.binade + (f.binade + 1) := by rw [Nat.add_mul]; omega
      have hb := binade_pos f
      have h11 := rungV_form f (j + 1) (f.binade + 1) (.inr (by omega)) (by omega)
      rw [e5, h11, show ((j + 1 : Nat) : Int) = (j : Int) + 1 by omega, ← Int.add_assoc, p2_succ, ← hj] at h9
      have h12 : ((kept + 1 : Nat) : Rat) * p2 last ≤ ((f.binade + 1 : Nat) : Rat) * (2 * p2 last) := by
        have : ((kept + 1 : Nat) : Rat) ≤ ((2 * (f.binade + 1) : Nat) : Rat) := cast_le (by omega)
        have := mul_le_r this (Rat.le_of_lt (p2_pos last))
        rw [Rat.natCast_mul] at this
        grind
      grind
    · have h11 := rungV_form f j (kept + 1) (by omega) (by omega)
      rw [Nat.add_assoc, h11, ← hj] at h9
      grind
  · refine ⟨last, ?_, ?_, ?_⟩
    · rw [hval, ← hj]
      by_cases h5 : kept = 0
      · subst h5
        have h6 : (0 : Rat) ≤ (m : Rat) * p2 p := Rat.mul_nonneg (by exact_mod_cast Nat.zero_le m) (Rat.le_of_lt (p2_pos _))
        have := p2_pos last
        simp
        grind
      · obtain ⟨k', rfl⟩ : ∃ k', kept = k' + 1 := ⟨kept - 1, by omega⟩
        have h10 := (key (2 * k' + 1) (2 * k' + 1)).1 ⟨by rw [Nat.add_mul] at hc; rw [Nat.add_mul, Nat.mul_assoc]; omega, rfl⟩
        rw [Rat.natCast_add, Rat.natCast_mul] at h10
        rw [Rat.natCast_add]
        grind
    · rw [hval, ← hj]
      have h10 := (key (2 * kept + 1) 0).2.1 (by rw [Nat.add_mul, Nat.mul_assoc]; omega)
      rw [Rat.natCast_add, Rat.natCast_mul] at h10
      grind
    · by_cases h : last = f.leastPlace
      · exact .inl h
      · right
        have h7 := hdn (by omega)
        have h10 := (key (2 * f.binade) (2 * f.binade)).1 ⟨by rw [Nat.mul_assoc]; omega, rfl⟩
        rw [p2_add, p2_nat, ← hB]
        rw [Rat.natCast_mul] at h10
        grind
end
end Go.Proofs.Ytmikeegecifbfaa
