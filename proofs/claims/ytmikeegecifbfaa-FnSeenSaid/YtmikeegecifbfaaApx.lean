/- Approximations: each operation of float32, with a bound on its error, a step of the format at the most. No program is named here. -/
import Derived.Test.YtmikeegecifbfaaCnv
namespace Go.Proofs.Ytmikeegecifbfaa

theorem rungV_next (f : Ieee.Format) (r : Nat) : ∃ j kept : Nat, rungV f (r + 1) = rungV f r + p2 (f.leastPlace + j) ∧ rungV f r = (kept : Rat) * p2 (f.leastPlace + j) ∧ (j = 0 ∨ f.binade ≤ kept) := by
  obtain ⟨j, kept, rfl, h1, h2⟩ := rung_split f r
  refine ⟨j, kept, ?_, rungV_form f j kept h1 (by omega), h1⟩
  rw [Nat.add_assoc, rungV_form f j kept h1 (by omega), rungV_form f j (kept + 1) (by omega) (by omega), Rat.natCast_add]
  simp
  grind
/-- The error of a rounding is at most a step of the format. -/
theorem Rnd.gap0 {v w : Rat} (h : Rnd Ieee.single v w) (k : Int) (hk : -125 ≤ k) (hk2 : k ≤ 127) (h0 : 0 ≤ v) (h1 : v ≤ p2 k) : w ≤ v + p2 (k - 24) ∧ v ≤ w + p2 (k - 24) := by
  obtain ⟨b1, b2, b3, b4, b5⟩ := e32
  have hp := p2_pos (k - 24)
  have hf : Fit Ieee.single v := fit32 (by have := p2_mono hk2; grind) (by have := p2_pos 127; grind)
  obtain ⟨R, hR, h2, _⟩ := hf
  obtain ⟨Rk, hRk, hk3⟩ := rep32_p2 k (by omega) hk2
  have hk4 : p2 k = rungV Ieee.single Rk := by
    rcases hk3 with hk3 | hk3
    · exact hk3
    · have := rungV_nonneg Ieee.single Rk
      have := p2_pos k
      grind
  rcases between Ieee.single h0 R h2 with h3 | ⟨r, h3, h4, h5⟩
  · have := h.of_rep ⟨R, hR, .inl h3⟩
    grind
  · have h6 := h.dn _ ⟨r, by omega, .inl rfl⟩ h4
    have h7 := h.up _ ⟨r + 1, by omega, .inl rfl⟩ h5
    by_cases he : v = p2 k
    · have := h.of_rep (by rw [he]; exact rep32_p2 k (by omega) hk2)
      grind
    · have h8 : r < Rk := by
        apply Nat.lt_of_not_le
        intro hle
        have := rungV_le Ieee.single hle
        grind
      have h9 := rungV_le Ieee.single (show r + 1 ≤ Rk by omega)
      obtain ⟨j, kept, g1, g2, g3⟩ := rungV_next Ieee.single r
      have g4 : p2 (Ieee.single.leastPlace + j) ≤ p2 (k - 24) := by
        rcases g3 with g3 | g3
        · subst g3; exact p2_mono (by omega)
        · refine Rat.not_lt.1 ?_
          intro hlt
          have g5 : k - 24 < Ieee.single.leastPlace + j := by
            apply Int.lt_of_not_ge
            intro hge
            have := p2_mono hge
            grind
          have g6 : k ≤ 23 + (Ieee.single.leastPlace + j) := by omega
          have g7 := p2_mono g6
          rw [p2_add] at g7
          have g8 : p2 23 = ((8388608 : Nat) : Rat) := by
            have := p2_nat 23
            exact this
          rw [g8] at g7
          rw [b1] at g3
          have g9 := mul_le_r (cast_le g3) (Rat.le_of_lt (p2_pos (Ieee.single.leastPlace + j)))
          have g10 := p2_pos (Ieee.single.leastPlace + j)
          grind
      grind
theorem Rnd.gap {v w : Rat} (h : Rnd Ieee.single v w) (k : Int) (hk : -125 ≤ k) (hk2 : k ≤ 127) (h1 : v ≤ p2 k) (h2 : -v ≤ p2 k) : w ≤ v + p2 (k - 24) ∧ v ≤ w + p2 (k - 24) := by
  by_cases h0 : 0 ≤ v
  · exact h.gap0 k hk hk2 h0 h1
  · have := h.neg.gap0 k hk hk2 (by grind) h2
    grind
/-- The relative error. -/
theorem Rnd.rel {v w : Rat} (h : Rnd Ieee.single v w) (h0 : 0 ≤ v) (h1 : v ≤ p2 127) : w ≤ v + v * (1 / 8388608) + p2 (-149) ∧ v ≤ w + v * (1 / 8388608) + p2 (-149) := by
  obtain ⟨b1, b2, b3, b4, b5⟩ := e32
  have hf : Fit Ieee.single v := fit32 h1 (by have := p2_pos 127; grind)
  have := h.near0 hf h0
  rw [b4, b5] at this
  have e : p2 (-((23 : Nat) : Int)) = 1 / 8388608 := by decide +kernel
  rw [e] at this
  exact this

/-- 'w' is 'v', rounded, with an error of 'E' at the most; it lies between -B and B as 'v' does. -/
structure Nr (v w B E : Rat) : Prop where
  rnd : Rnd Ieee.single v w
  hi : w ≤ v + E
  lo : v ≤ w + E
  top : w ≤ B
  bot : -B ≤ w
theorem Rnd.nr {v w : Rat} (h : Rnd Ieee.single v w) (k : Int) {B E : Rat} (hB : p2 k = B) (hE : p2 (k - 24) = E) (hk : -125 ≤ k) (hk2 : k ≤ 127) (h1 : v ≤ B) (h2 : -B ≤ v) : Nr v w B E := by
  subst hB; subst hE
  have := h.gap k hk hk2 h1 (by grind)
  have hr := rep32_p2 k (by omega) hk2
  exact ⟨h, this.1, this.2, h.up _ hr h1, h.dn _ hr.neg h2⟩
theorem fit_k (k : Int) {B v : Rat} (hB : p2 k = B) (hk2 : k ≤ 127) (h1 : v ≤ B) (h2 : -B ≤ v) : Fit Ieee.single v := by
  subst hB
  have := p2_mono hk2
  exact fit32 (by grind) (by grind)
section
variable {x y : Option Nat} {u v : Rat} (k : Int) {B E : Rat} (hB : p2 k = B) (hE : p2 (k - 24) = E) (hk : -125 ≤ k) (hk2 : k ≤ 127) (hx : Is .f32 x u) (hy : Is .f32 y v)
include hB hE hk hk2 hx hy
theorem nr_add (h1 : u + v ≤ B) (h2 : -B ≤ u + v) : ∃ w, Is .f32 (fadd x y) w ∧ Nr (u + v) w B E := by
  obtain ⟨w, i, r⟩ := is_add hx hy (fit_k k hB hk2 h1 h2)
  exact ⟨w, i, Rnd.nr r k hB hE hk hk2 h1 h2⟩
theorem nr_sub (h1 : u - v ≤ B) (h2 : -B ≤ u - v) : ∃ w, Is .f32 (fsub x y) w ∧ Nr (u - v) w B E := by
  obtain ⟨w, i, r⟩ := is_sub hx hy (fit_k k hB hk2 h1 h2)
  exact ⟨w, i, Rnd.nr r k hB hE hk hk2 h1 h2⟩
theorem nr_mul (h1 : u * v ≤ B) (h2 : -B ≤ u * v) : ∃ w, Is .f32 (fmul x y) w ∧ Nr (u * v) w B E := by
  obtain ⟨w, i, r⟩ := is_mul hx hy (fit_k k hB hk2 h1 h2)
  exact ⟨w, i, Rnd.nr r k hB hE hk hk2 h1 h2⟩
theorem nr_div {q : Rat} (hv : v ≠ 0) (hq : q * v = u) (h1 : q ≤ B) (h2 : -B ≤ q) : ∃ w, Is .f32 (fdiv x y) w ∧ Nr q w B E := by
  have e : u / v = q := by rw [← hq, Rat.mul_div_cancel hv]
  obtain ⟨w, i, r⟩ := is_div hx hy hv (by rw [e]; exact fit_k k hB hk2 h1 h2)
  rw [e] at r
  exact ⟨w, i, Rnd.nr r k hB hE hk hk2 h1 h2⟩
end
theorem k_m4 : p2 (-4) = 1 / 16 ∧ p2 (-4 - 24) = 1 / 268435456 := by decide +kernel
theorem k_0 : p2 0 = 1 ∧ p2 (0 - 24) = 1 / 16777216 := by decide +kernel
theorem k_1 : p2 1 = 2 ∧ p2 (1 - 24) = 1 / 8388608 := by decide +kernel
theorem k_2 : p2 2 = 4 ∧ p2 (2 - 24) = 1 / 4194304 := by decide +kernel
theorem k_3 : p2 3 = 8 ∧ p2 (3 - 24) = 1 / 2097152 := by decide +kernel
theorem k_4 : p2 4 = 16 ∧ p2 (4 - 24) = 1 / 1048576 := by decide +kernel
theorem k_5 : p2 5 = 32 ∧ p2 (5 - 24) = 1 / 524288 := by decide +kernel
theorem k_6 : p2 6 = 64 ∧ p2 (6 - 24) = 1 / 262144 := by decide +kernel
theorem k_7 : p2 7 = 128 ∧ p2 (7 - 24) = 1 / 131072 := by decide +kernel
theorem k_8 : p2 8 = 256 ∧ p2 (8 - 24) = 1 / 65536 := by decide +kernel
theorem k_9 : p2 9 = 512 ∧ p2 (9 - 24) = 1 / 32768 := by decide +kernel
theorem k_10 : p2 10 = 1024 ∧ p2 (10 - 24) = 1 / 16384 := by decide +kernel
/-- A quotient, as a number with its product. -/
theorem quot_mk (u : Rat) {v : Rat} (hv : v ≠ 0) : ∃ q : Rat, q * v = u := ⟨u / v, Rat.div_mul_cancel hv⟩
theorem quot_le {q u v B : Rat} (h : q * v = u) (hv : 0 < v) (h1 : u ≤ B * v) : q ≤ B := Rat.le_of_mul_le_mul_right (by rw [h]; exact h1) hv
theorem quot_ge {q u v B : Rat} (h : q * v = u) (hv : 0 < v) (h1 : B * v ≤ u) : B ≤ q := Rat.le_of_mul_le_mul_right (by rw [h]; exact h1) hv
end Go.Proofs.Ytmikeegecifbfaa
