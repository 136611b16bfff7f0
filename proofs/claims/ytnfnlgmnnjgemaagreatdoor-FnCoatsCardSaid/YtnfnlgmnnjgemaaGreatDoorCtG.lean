/- Two coats and one of twice the thickness, in exact numbers: how films double, how near the two ways come, and a film over what it would be if it were very thick. No program is named here. The films of layers, in floats, near their exact doublings. No program is named here. Ten doublings in floats, near ten exact ones, in numbers (printed by mkCtC.py). No program is named here. The films of layers near their exact doublings, film by film: a film, the one of twice the thickness, and two coats. No program is named here. How much a very thick layer reflects, in floats: what is left of the equation that it solves. No program is named here. Two coats, a film over what it would be if it were very thick, and how much of a backing is seen: what the law asks, in floats. No program is named here. Two coats: the films that the law makes, and what it asks of them. No program is named here. -/
import Derived.Test.YtnfnlgmnnjgemaaGreatDoorHlf
import Derived.Test.YtnfnlgmnnjgemaaGreatDoorFlD
import Derived.Test.YtnfnlgmnnjgemaaGreatDoorFmD
import Derived.Test.YtnfnlgmnnjgemaaGreatDoorDP
import Derived.Test.YtnfnlgmnnjgemaaGreatDoorDrs
namespace Go.Proofs.YtnfnlgmnnjgemaaGreatDoor.Ct
set_option maxRecDepth 100000

/-- One exact doubling. -/
structure Dbl (r t r' t' : Rat) : Prop where
  ht : t' * (1 - r * r) = t * t
  hr : r' = r * (1 + t')
/-- A film of shares. -/
structure Shr (r t : Rat) : Prop where
  r0 : 0 ≤ r
  r1 : r < 1
  t0 : 0 < t
  s : r + t ≤ 1

theorem le_of_mul_pos {a b c : Rat} (hc : 0 < c) (h : a * c ≤ b * c) : a ≤ b := Rat.le_of_mul_le_mul_right h hc
theorem pos_of_mul {a c : Rat} (hc : 0 < c) (h : 0 < a * c) : 0 < a := by
  by_cases h' : 0 < a
  · exact h'
  · exfalso
    have := Rat.mul_nonneg (show 0 ≤ -a by grind) (Rat.le_of_lt hc)
    grind

theorem Dbl.shr {r t r' t' : Rat} (d : Dbl r t r' t') (h : Shr r t) : Shr r' t' := by
  obtain ⟨r0, r1, t0, s⟩ := h
  obtain ⟨ht, hr⟩ := d
  have a1 := Rat.mul_pos (show 0 < 1 - r by grind) (show 0 < 1 + r by grind)
  have a2 := Rat.mul_pos t0 t0
  have t0' : 0 < t' := pos_of_mul (c := 1 - r * r) (by grind) (by grind)
  have a3 := Rat.mul_nonneg (show 0 ≤ 1 - r - t by grind) (show 0 ≤ 1 - r + t by grind)
  -- t' (1 + r) ≤ 1 - r
  have a4 : t' * (1 + r) ≤ 1 - r := le_of_mul_pos (c := 1 - r) (by grind) (by grind)
  have a5 := Rat.mul_nonneg r0 (Rat.le_of_lt t0')
  refine ⟨by grind, by grind, t0', by grind⟩

/-- The scale of a film: what one over its reflection comes to. -/
structure Scl (r t U σ α : Rat) : Prop where
  U0 : 0 < U
  e1 : U * r = σ
  e2 : U * (1 + r * r - t * t) = 2 * α

theorem Scl.x0 {r t U σ α : Rat} (s : Scl r t U σ α) (h : Shr r t) : 0 < U - α := by
  obtain ⟨U0, e1, e2⟩ := s
  obtain ⟨r0, r1, t0, s⟩ := h
  have a1 := Rat.mul_pos (show 0 < 1 - r by grind) (show 0 < 1 + r by grind)
  have a2 := Rat.mul_pos t0 t0
  have a3 := Rat.mul_pos U0 (show 0 < 1 - r * r + t * t by grind)
  grind
theorem Scl.xb {r t U σ α : Rat} (s : Scl r t U σ α) : α * α - σ * σ ≤ (U - α) * (U - α) := by
  obtain ⟨U0, e1, e2⟩ := s
  -- the difference is U² t²
  have a1 : (U - α) * (U - α) - (α * α - σ * σ) = (U * t) * (U * t) := by grind
  have a2 : 0 ≤ (U * t) * (U * t) := by
    rcases Rat.le_total (a := 0) (b := U * t) with h | h
    · exact Rat.mul_nonneg h h
    · have := Rat.mul_nonneg (show 0 ≤ -(U * t) by grind) (show 0 ≤ -(U * t) by grind); grind
  grind
theorem Scl.next {r t r' t' U U' σ α : Rat} (d : Dbl r t r' t') (h : Shr r t) (s : Scl r t U σ α) (hU : U' * (1 + t') = U) : Scl r' t' U' σ α ∧ 2 * (U - α) * (U' - α) = (U - α) * (U - α) + (α * α - σ * σ) := by
  have h' := d.shr h
  obtain ⟨U0, e1, e2⟩ := s
  obtain ⟨ht, hr⟩ := d
  have p := h'.t0
  have U0' : 0 < U' := pos_of_mul (c := 1 + t') (by grind) (by grind)
  refine ⟨⟨U0', by rw [hr]; grind, ?_⟩, ?_⟩
  · subst hr
    have : 1 + r * (1 + t') * (r * (1 + t')) - t' * t' = (1 + r * r - t * t) * (1 + t') := by grind
    grind
  · have h1 : U' * (1 - r * r + t * t) = U * (1 - r * r) := by rw [← hU]; grind
    have h3 : 2 * α = U * (1 + r * r - t * t) := e2.symm
    grind

theorem newton_le {x y x' y' p q : Rat} (hx : 2 * x * x' = x * x + p) (hy : 2 * y * y' = y * y + q) (x0 : 0 < x) (xp : p ≤ x * x) (h : x ≤ y) (hp : p ≤ q) : x' ≤ y' := by
  have y0 : 0 < y := by grind
  have a0 := Rat.mul_pos x0 y0
  have a1 := Rat.mul_nonneg (Rat.le_of_lt x0) (show 0 ≤ y - x by grind)
  have a2 := Rat.mul_nonneg (show 0 ≤ y - x by grind) (show 0 ≤ x * y - p by grind)
  have a3 := Rat.mul_nonneg (Rat.le_of_lt x0) (show 0 ≤ q - p by grind)
  apply le_of_mul_pos a0
  have e1 : x' * (x * y) = y * (x * x + p) / 2 := by grind
  have e2 : y' * (x * y) = x * (y * y + q) / 2 := by grind
  rw [e1, e2]
  grind

/-- A film and its doublings. -/
structure Seq (r t U : Nat → Rat) (σ α : Rat) : Prop where
  d : ∀ n, Dbl (r n) (t n) (r (n + 1)) (t (n + 1))
  s0 : Shr (r 0) (t 0)
  u0 : Scl (r 0) (t 0) (U 0) σ α
  u : ∀ n, U (n + 1) * (1 + t (n + 1)) = U n
variable {r t U ra ta Ua rb tb Ub : Nat → Rat} {σ α αa αb : Rat}
theorem Seq.shr (h : Seq r t U σ α) : ∀ n, Shr (r n) (t n)
  | 0 => h.s0
  | n + 1 => (h.d n).shr (h.shr n)
theorem Seq.scl (h : Seq r t U σ α) : ∀ n, Scl (r n) (t n) (U n) σ α
  | 0 => h.u0
  | n + 1 => ((h.scl n).next (h.d n) (h.shr n) (h.u n)).1
theorem Seq.newton (h : Seq r t U σ α) (n : Nat) : 2 * (U n - α) * (U (n + 1) - α) = (U n - α) * (U n - α) + (α * α - σ * σ) := ((h.scl n).next (h.d n) (h.shr n) (h.u n)).2
theorem Seq.down (ha : Seq ra ta Ua σ αa) (hb : Seq rb tb Ub σ αb) (x : Ub 0 - αb ≤ Ua 0 - αa) (q : αb * αb - σ * σ ≤ αa * αa - σ * σ) : ∀ n, Ub n - αb ≤ Ua n - αa
  | 0 => x
  | n + 1 => newton_le (hb.newton n) (ha.newton n) ((hb.scl n).x0 (hb.shr n)) (hb.scl n).xb (ha.down hb x q n) q
theorem Seq.up (ha : Seq ra ta Ua σ αa) (hb : Seq rb tb Ub σ αb) {l : Rat} (l0 : 0 < l) (x : Ua 0 - αa ≤ l * (Ub 0 - αb)) (q : αa * αa - σ * σ ≤ l * l * (αb * αb - σ * σ)) : ∀ n, Ua n - αa ≤ l * (Ub n - αb)
  | 0 => x
  | n + 1 => by
    have hn := hb.newton n
    have e : 2 * (l * (Ub n - αb)) * (l * (Ub (n + 1) - αb)) = (l * (Ub n - αb)) * (l * (Ub n - αb)) + l * l * (αb * αb - σ * σ) := by
      have : 2 * (l * (Ub n - αb)) * (l * (Ub (n + 1) - αb)) = l * l * (2 * (Ub n - αb) * (Ub (n + 1) - αb)) := by grind
      rw [this, hn]; grind
    exact newton_le (ha.newton n) e ((ha.scl n).x0 (ha.shr n)) (ha.scl n).xb (ha.up hb l0 x q n) q
theorem less_r {ra Ua rb Ub : Rat} (a : ra * Ua = σ) (b : rb * Ub = σ) (u : 0 < Ub) (h : Ub ≤ Ua) (r0 : 0 ≤ rb) : ra ≤ rb := by
  apply le_of_mul_pos (c := Ua) (by grind)
  have := Rat.mul_nonneg r0 (show 0 ≤ Ua - Ub by grind)
  grind
theorem near_r {ra Ua rb Ub ε : Rat} (a : Ua * ra = σ) (b : Ub * rb = σ) (u : 0 < Ub) (h : Ub ≤ Ua) (s0 : 0 ≤ σ) (e0 : 0 ≤ ε) (k : Ua - σ ≤ (1 + ε) * (Ub - σ)) : rb - ra ≤ ε * (1 / 4) := by
  have ua : 0 < Ua := by grind
  have p := Rat.mul_pos u ua
  apply le_of_mul_pos p
  have e : (rb - ra) * (Ub * Ua) = σ * (Ua - Ub) := by grind
  have a1 := Rat.mul_nonneg s0 (show 0 ≤ ε * (Ub - σ) - (Ua - Ub) by grind)
  have a2 : 0 ≤ (Ub - 2 * σ) * (Ub - 2 * σ) := by
    rcases Rat.le_total (a := 0) (b := Ub - 2 * σ) with h | h
    · exact Rat.mul_nonneg h h
    · have := Rat.mul_nonneg (show 0 ≤ -(Ub - 2 * σ) by grind) (show 0 ≤ -(Ub - 2 * σ) by grind); grind
  have a3 := Rat.mul_nonneg e0 a2
  have a4 := Rat.mul_nonneg e0 (Rat.mul_nonneg (Rat.le_of_lt u) (show 0 ≤ Ua - Ub by grind))
  rw [e]
  grind
theorem near_t {ta Ua' Ua rb tb Ub' Ub ε : Rat} (a : Ua' * (1 + ta) = Ua) (b : Ub' * (1 + tb) = Ub) (bs : Ub * rb = σ) (u : 0 < Ub') (h : Ub' ≤ Ua') (t0 : 0 ≤ ta) (k : Ua - σ ≤ (1 + ε) * (Ub - σ)) : ta - tb ≤ ε * ((1 - rb) * (1 + tb)) := by
  apply le_of_mul_pos u
  have a1 := Rat.mul_nonneg (show 0 ≤ 1 + ta by grind) (show 0 ≤ Ua' - Ub' by grind)
  have e : ε * ((1 - rb) * (1 + tb)) * Ub' = ε * (Ub - σ) := by
    have : (1 + tb) * Ub' = Ub := by grind
    have : (1 - rb) * Ub = Ub - σ := by grind
    grind
  rw [e]
  grind

/-- How weak a film is: what it keeps back against what it lets through. -/
theorem g_next {r t r' t' G G' : Rat} (d : Dbl r t r' t') (h : Shr r t) (g : t * G = 1 - r) (g' : t' * G' = 1 - r') : G' = (1 + r) * (G * G) - r := by
  have h' := d.shr h
  obtain ⟨r0, r1, t0, s⟩ := h
  have p := h'.t0
  obtain ⟨ht, hr⟩ := d
  have e : t' * ((1 + r) * (G * G) - r) = 1 - r' := by
    have e1 : (t' * ((1 + r) * (G * G))) * (1 - r) = (1 - r) * (1 - r) := by
      have : (t' * ((1 + r) * (G * G))) * (1 - r) = (t * G) * (t * G) := by grind
      rw [this, g]
    have e2 : t' * ((1 + r) * (G * G)) = 1 - r := by
      have q : (1 - r) ≠ 0 := by grind
      have := Rat.le_of_mul_le_mul_right (show (t' * ((1 + r) * (G * G))) * (1 - r) ≤ (1 - r) * (1 - r) by grind) (show 0 < 1 - r by grind)
      have := Rat.le_of_mul_le_mul_right (show (1 - r) * (1 - r) ≤ (t' * ((1 + r) * (G * G))) * (1 - r) by grind) (show 0 < 1 - r by grind)
      grind
    grind
  have a1 := Rat.le_of_mul_le_mul_left (show t' * G' ≤ t' * ((1 + r) * (G * G) - r) by grind) p
  have a2 := Rat.le_of_mul_le_mul_left (show t' * ((1 + r) * (G * G) - r) ≤ t' * G' by grind) p
  grind
theorem g_ge {r t G : Rat} (h : Shr r t) (g : t * G = 1 - r) : 1 ≤ G := by
  obtain ⟨r0, r1, t0, s⟩ := h
  exact Rat.le_of_mul_le_mul_left (show t * 1 ≤ t * G by grind) t0
theorem sq_mono {x y : Rat} (x0 : 0 ≤ x) (h : x ≤ y) : x * x ≤ y * y := by
  have := Rat.mul_nonneg (show 0 ≤ y - x by grind) (show 0 ≤ y + x by grind)
  grind
theorem g_order {ra ta rb tb : Nat → Rat} {Ga Gb : Nat → Rat} (da : ∀ n, Dbl (ra n) (ta n) (ra (n + 1)) (ta (n + 1))) (db : ∀ n, Dbl (rb n) (tb n) (rb (n + 1)) (tb (n + 1)))
    (sa : ∀ n, Shr (ra n) (ta n)) (sb : ∀ n, Shr (rb n) (tb n)) (ga : ∀ n, ta n * Ga n = 1 - ra n) (gb : ∀ n, tb n * Gb n = 1 - rb n) (hr : ∀ n, ra n ≤ rb n) (h0 : Ga 0 ≤ Gb 0) : ∀ n, Ga n ≤ Gb n
  | 0 => h0
  | n + 1 => by
    have ih := g_order da db sa sb ga gb hr h0 n
    have e1 := g_next (da n) (sa n) (ga n) (ga (n + 1))
    have e2 := g_next (db n) (sb n) (gb n) (gb (n + 1))
    have g1 := g_ge (sa n) (ga n)
    have q1 := sq_mono (show 0 ≤ Ga n by grind) ih
    have q2 := sq_mono (show (0 : Rat) ≤ 1 by grind) g1
    have a1 := Rat.mul_nonneg (show 0 ≤ rb n - ra n by have := hr n; grind) (show 0 ≤ Ga n * Ga n - 1 by grind)
    have a2 := Rat.mul_nonneg (sb n).r0 (show 0 ≤ Gb n * Gb n - Ga n * Ga n by grind)
    rw [e1, e2]
    grind
theorem t_order {ra ta rb tb Ga Gb : Rat} (sa : Shr ra ta) (sb : Shr rb tb) (ga : ta * Ga = 1 - ra) (gb : tb * Gb = 1 - rb) (hr : ra ≤ rb) (h : Ga ≤ Gb) : tb ≤ ta := by
  have g1 := g_ge sa ga
  have a1 := Rat.mul_nonneg (Rat.le_of_lt sb.t0) (show 0 ≤ Gb - Ga by grind)
  exact le_of_mul_pos (c := Ga) (by grind) (by grind)
/-- How much of a white backing is seen. -/
theorem c_order {ra ta rb tb Ga Gb ca cb : Rat} (sa : Shr ra ta) (sb : Shr rb tb) (ga : ta * Ga = 1 - ra) (gb : tb * Gb = 1 - rb) (ht : tb ≤ ta) (h : Ga ≤ Gb) (ha : ca * (1 - ra) = ta * ta) (hb : cb * (1 - rb) = tb * tb) : cb ≤ ca := by
  have g1 := g_ge sa ga
  have ta0 := sa.t0
  have tb0 := sb.t0
  have e1 : ca * Ga = ta := by
    apply Rat.le_antisymm
    · exact le_of_mul_pos ta0 (by rw [← ga] at ha; grind)
    · exact le_of_mul_pos ta0 (by rw [← ga] at ha; grind)
  have e2 : cb * Gb = tb := by
    apply Rat.le_antisymm
    · exact le_of_mul_pos tb0 (by rw [← gb] at hb; grind)
    · exact le_of_mul_pos tb0 (by rw [← gb] at hb; grind)
  have c0 : 0 < cb := pos_of_mul (c := Gb) (by grind) (by rw [e2]; exact tb0)
  have a1 := Rat.mul_nonneg (Rat.le_of_lt c0) (show 0 ≤ Gb - Ga by grind)
  exact le_of_mul_pos (c := Ga) (by grind) (by grind)
/-- What the strength of a film at least is, behind a doubling. -/
theorem h_next {r t r' t' H H' : Rat} (d : Dbl r t r' t') (h : Shr r t) (e : 2 * t * H = (1 + r) * (1 + r) - t * t) (e' : 2 * t' * H' = (1 + r') * (1 + r') - t' * t') : 2 * H ≤ H' := by
  have h' := d.shr h
  obtain ⟨r0, r1, t0, s⟩ := h
  have p := h'.t0
  obtain ⟨ht, hr⟩ := d
  -- C = (1 + t² - r²) / (2 t) is at least 1, and H' = 2 C H
  have a1 := Rat.mul_nonneg (show 0 ≤ 1 - t - r by grind) (show 0 ≤ 1 - t + r by grind)
  have a2 := Rat.mul_nonneg (show 0 ≤ 1 + r - t by grind) (show 0 ≤ 1 + r + t by grind)
  have H0 : 0 ≤ H := by
    rcases Rat.le_total (a := 0) (b := H) with hh | hh
    · exact hh
    · have := Rat.mul_nonneg (show 0 ≤ 2 * t by grind) (show 0 ≤ -H by grind)
      exact Rat.le_of_mul_le_mul_left (show (2 * t) * 0 ≤ (2 * t) * H by grind) (by grind)
  have k1 : (1 + r') * (1 + r') - t' * t' = ((1 + r) - t' * (1 - r)) * ((1 + r) * (1 + t')) := by rw [hr]; grind
  have k2 : ((1 + r) - t' * (1 - r)) * (1 + r) = 2 * t * H := by rw [e]; grind
  have k3 : 2 * t' * H' = 2 * t * H * (1 + t') := by rw [e', k1, ← k2]; grind
  have k4 : (1 + t') * (1 - r * r) = 1 - r * r + t * t := by grind
  have k5 : 2 * t' ≤ t * (1 + t') := by
    have a3 := Rat.mul_pos (show 0 < 1 - r by grind) (show 0 < 1 + r by grind)
    apply le_of_mul_pos (c := 1 - r * r) (by grind)
    have : t * (1 + t') * (1 - r * r) = t * (1 - r * r + t * t) := by grind
    have : 2 * t' * (1 - r * r) = 2 * (t * t) := by grind
    have a4 := Rat.mul_nonneg (Rat.le_of_lt t0) a1
    grind
  have k6 := Rat.mul_nonneg H0 (show 0 ≤ t * (1 + t') - 2 * t' by grind)
  exact le_of_mul_pos p (by grind)
theorem h_top {r t H : Rat} (h : Shr r t) (e : 2 * t * H = (1 + r) * (1 + r) - t * t) : t * (2 + H) ≤ 2 := by
  obtain ⟨r0, r1, t0, s⟩ := h
  have := Rat.mul_nonneg (show 0 ≤ 1 - t - r by grind) (show 0 ≤ 3 - t + r by grind)
  grind

/-- The exact doublings of a film. -/
def eR (p : Rat × Rat) : Nat → Rat × Rat
  | 0 => p
  | n + 1 => ((eR p n).1 * (1 + (eR p n).2 * (eR p n).2 / (1 - (eR p n).1 * (eR p n).1)), (eR p n).2 * (eR p n).2 / (1 - (eR p n).1 * (eR p n).1))
theorem eR_dbl {p : Rat × Rat} {n : Nat} (h : Shr (eR p n).1 (eR p n).2) : Dbl (eR p n).1 (eR p n).2 (eR p (n + 1)).1 (eR p (n + 1)).2 := by
  obtain ⟨r0, r1, t0, s⟩ := h
  have a := Rat.mul_pos (show 0 < 1 - (eR p n).1 by grind) (show 0 < 1 + (eR p n).1 by grind)
  refine ⟨?_, rfl⟩
  show (eR p n).2 * (eR p n).2 / (1 - (eR p n).1 * (eR p n).1) * (1 - (eR p n).1 * (eR p n).1) = _
  exact Rat.div_mul_cancel (by grind)
theorem eR_shr {p : Rat × Rat} (h : Shr p.1 p.2) : ∀ n, Shr (eR p n).1 (eR p n).2
  | 0 => h
  | n + 1 => (eR_dbl (eR_shr h n)).shr (eR_shr h n)
def eU (p : Rat × Rat) (u : Rat) : Nat → Rat
  | 0 => u
  | n + 1 => eU p u n / (1 + (eR p (n + 1)).2)
theorem eR_seq {p : Rat × Rat} (h : Shr p.1 p.2) {u σ α : Rat} (s : Scl p.1 p.2 u σ α) : Seq (fun n => (eR p n).1) (fun n => (eR p n).2) (eU p u) σ α :=
  ⟨fun n => eR_dbl (eR_shr h n), h, s, fun n => by
    have := (eR_shr h (n + 1)).t0
    show eU p u n / (1 + (eR p (n + 1)).2) * (1 + (eR p (n + 1)).2) = _
    exact Rat.div_mul_cancel (by grind)⟩
theorem Seq.shift (h : Seq r t U σ α) : Seq (fun n => r (n + 1)) (fun n => t (n + 1)) (fun n => U (n + 1)) σ α :=
  ⟨fun n => h.d (n + 1), h.shr 1, h.scl 1, fun n => h.u (n + 1)⟩
theorem Seq.newton_top (h : Seq r t U σ α) {w : Rat} (w0 : 0 ≤ w) (q : α * α - σ * σ ≤ w * w) : ∀ n, (2 : Rat) ^ n * (U n - α - w) ≤ U 0 - α - w
  | 0 => by grind
  | n + 1 => by
    have ih := h.newton_top w0 q n
    have x0 := (h.scl n).x0 (h.shr n)
    have xb := (h.scl n).xb
    have hn := h.newton n
    have k : α * α - σ * σ ≤ (U n - α) * w := by
      rcases Rat.le_total (a := w) (b := U n - α) with hh | hh
      · have := Rat.mul_nonneg w0 (show 0 ≤ U n - α - w by grind); grind
      · have := Rat.mul_nonneg (Rat.le_of_lt x0) (show 0 ≤ w - (U n - α) by grind); grind
    have k2 : 2 * (U (n + 1) - α) ≤ U n - α + w := le_of_mul_pos x0 (by grind)
    have p : (0 : Rat) ≤ 2 ^ n := Rat.le_of_lt (Rat.pow_pos (by decide))
    have k3 := Rat.mul_nonneg p (show 0 ≤ U n - α + w - 2 * (U (n + 1) - α) by grind)
    rw [Rat.pow_succ]
    grind

/-- A thin layer: what a 1024th loses and scatters. -/
structure Thn (k p : Rat) : Prop where
  k0 : 0 ≤ k
  k1 : k ≤ 1 / 256
  p0 : 0 ≤ p
  p1 : p ≤ 1 / 32
def thA (k p : Rat) : Rat × Rat := (p, 1 - k - p)
theorem Thn.shr {k p : Rat} (h : Thn k p) : Shr (thA k p).1 (thA k p).2 := by
  obtain ⟨k0, k1, p0, p1⟩ := h
  exact ⟨p0, by show p < 1; grind, by show 0 < 1 - k - p; grind, by show p + (1 - k - p) ≤ 1; grind⟩
theorem Thn.shr2 {k p : Rat} (h : Thn k p) : Shr (thA (2 * k) (2 * p)).1 (thA (2 * k) (2 * p)).2 := by
  obtain ⟨k0, k1, p0, p1⟩ := h
  exact ⟨by show 0 ≤ 2 * p; grind, by show 2 * p < 1; grind, by show 0 < 1 - 2 * k - 2 * p; grind, by show 2 * p + (1 - 2 * k - 2 * p) ≤ 1; grind⟩
/-- The coefficients of a thin layer and of the one twice as thick. -/
def aA (k p : Rat) : Rat := 2 * (k + p) - k * (k + 2 * p)
def aB (k p : Rat) : Rat := 2 * (k + p) - 2 * (k * (k + 2 * p))
theorem sclA {k p : Rat} : Scl (thA k p).1 (thA k p).2 2 (2 * p) (aA k p) := ⟨by decide, rfl, by show 2 * (1 + p * p - (1 - k - p) * (1 - k - p)) = 2 * (2 * (k + p) - k * (k + 2 * p)); grind⟩
theorem sclB {k p : Rat} : Scl (thA (2 * k) (2 * p)).1 (thA (2 * k) (2 * p)).2 1 (2 * p) (aB k p) := ⟨by decide, by show 1 * (2 * p) = 2 * p; grind, by show 1 * (1 + 2 * p * (2 * p) - (1 - 2 * k - 2 * p) * (1 - 2 * k - 2 * p)) = 2 * (2 * (k + p) - 2 * (k * (k + 2 * p))); grind⟩
/-- The least facts about the products. -/
theorem Thn.m {k p m s : Rat} (h : Thn k p) (hm : m = k * (k + 2 * p)) (hs : s = k + p) : 0 ≤ m ∧ m ≤ s * s ∧ 0 ≤ s ∧ s ≤ 9 / 256 ∧ m = s * s - p * p ∧ m ≤ 2 * k * s ∧ s * s ≤ 9 / 256 * s ∧ m ≤ 1 / 128 * s := by
  obtain ⟨k0, k1, p0, p1⟩ := h
  subst hm; subst hs
  have a1 := Rat.mul_nonneg k0 k0
  have a2 := Rat.mul_nonneg k0 p0
  have a3 := Rat.mul_nonneg p0 p0
  have a4 := Rat.mul_nonneg (show 0 ≤ k + p by grind) (show 0 ≤ 9 / 256 - (k + p) by grind)
  have a5 := Rat.mul_nonneg (show 0 ≤ k + p by grind) (show 0 ≤ 1 / 256 - k by grind)
  refine ⟨by grind, by grind, by grind, by grind, by grind, by grind, by grind, by grind⟩
/-- The two ways: below. -/
theorem Thn.x_down {k p X : Rat} (h : Thn k p) (hX : 2 * (2 - aA k p) * X = (2 - aA k p) * (2 - aA k p) + (aA k p * aA k p - 2 * p * (2 * p))) : 1 - aB k p ≤ X := by
  obtain ⟨m, hm⟩ : ∃ m, m = k * (k + 2 * p) := ⟨_, rfl⟩
  obtain ⟨s, hs⟩ : ∃ s, s = k + p := ⟨_, rfl⟩
  have ea : aA k p = 2 * s - m := by rw [hm, hs]; rfl
  have eb : aB k p = 2 * s - 2 * m := by rw [hm, hs]; rfl
  obtain ⟨b1, b2, b3, b4, b5, b6, b7, b8⟩ := h.m hm hs
  rw [ea] at hX; rw [eb]
  have c1 := Rat.mul_nonneg b3 b1
  have c2 := Rat.mul_nonneg b1 (show 0 ≤ 1 / 128 * s - m by grind)
  have c3 := Rat.mul_nonneg b1 b1
  refine Rat.le_of_mul_le_mul_left (c := 2 * (2 - (2 * s - m))) ?_ (by grind)
  rw [hX]
  grind

/-- The two ways: above. -/
theorem Thn.x_up {k p X : Rat} (h : Thn k p) (hX : 2 * (2 - aA k p) * X = (2 - aA k p) * (2 - aA k p) + (aA k p * aA k p - 2 * p * (2 * p))) : X ≤ (1 + 27 / 25 * (k + p)) * (1 - aB k p) := by
  obtain ⟨m, hm⟩ : ∃ m, m = k * (k + 2 * p) := ⟨_, rfl⟩
  obtain ⟨s, hs⟩ : ∃ s, s = k + p := ⟨_, rfl⟩
  have ea : aA k p = 2 * s - m := by rw [hm, hs]; rfl
  have eb : aB k p = 2 * s - 2 * m := by rw [hm, hs]; rfl
  obtain ⟨b1, b2, b3, b4, b5, b6, b7, b8⟩ := h.m hm hs
  rw [ea] at hX; rw [eb, ← hs]
  have c1 := Rat.mul_nonneg b3 b1
  have c2 := Rat.mul_nonneg b1 (show 0 ≤ 1 / 128 * s - m by grind)
  have c3 := Rat.mul_nonneg b1 b1
  have c4 := Rat.mul_nonneg b3 (show 0 ≤ 9 / 256 * s - s * s by grind)
  have c5 := Rat.mul_nonneg b3 c1
  have c6 := Rat.mul_nonneg b3 c3
  have c7 := Rat.mul_nonneg b3 (Rat.mul_nonneg b3 b3)
  have c8 := Rat.mul_nonneg b1 (show 0 ≤ 9 / 256 * s - s * s by grind)
  have eX : (2 - (2 * s - m)) * (2 - (2 * s - m)) + ((2 * s - m) * (2 * s - m) - 2 * p * (2 * p)) = (2 - 2 * s + m) * (2 - 2 * s + m) + m * (4 - 4 * s + m) := by grind
  refine Rat.le_of_mul_le_mul_left (c := 2 * (2 - (2 * s - m))) ?_ (by grind)
  rw [hX, eX]
  clear hm hs ea eb h b5 b6 hX eX
  grind
theorem Thn.q_down {k p : Rat} (h : Thn k p) : aB k p * aB k p - 2 * p * (2 * p) ≤ aA k p * aA k p - 2 * p * (2 * p) := by
  obtain ⟨m, hm⟩ : ∃ m, m = k * (k + 2 * p) := ⟨_, rfl⟩
  obtain ⟨s, hs⟩ : ∃ s, s = k + p := ⟨_, rfl⟩
  have ea : aA k p = 2 * s - m := by rw [hm, hs]; rfl
  have eb : aB k p = 2 * s - 2 * m := by rw [hm, hs]; rfl
  obtain ⟨b1, b2, b3, b4, b5, b6, b7, b8⟩ := h.m hm hs
  have := sq_mono (show 0 ≤ aB k p by rw [eb]; grind) (show aB k p ≤ aA k p by rw [ea, eb]; grind)
  grind
theorem Thn.q_up {k p : Rat} (h : Thn k p) : aA k p * aA k p - 2 * p * (2 * p) ≤ (1 + 27 / 25 * (k + p)) * (1 + 27 / 25 * (k + p)) * (aB k p * aB k p - 2 * p * (2 * p)) := by
  obtain ⟨m, hm⟩ : ∃ m, m = k * (k + 2 * p) := ⟨_, rfl⟩
  obtain ⟨s, hs⟩ : ∃ s, s = k + p := ⟨_, rfl⟩
  have ea : aA k p = 2 * s - m := by rw [hm, hs]; rfl
  have eb : aB k p = 2 * s - 2 * m := by rw [hm, hs]; rfl
  obtain ⟨b1, b2, b3, b4, b5, b6, b7, b8⟩ := h.m hm hs
  have e1 : aA k p * aA k p - 2 * p * (2 * p) = m * (4 - 4 * s + m) := by rw [ea]; grind
  have e2 : aB k p * aB k p - 2 * p * (2 * p) = m * (4 * (1 - 2 * s + m)) := by rw [eb]; grind
  rw [e1, e2, ← hs]
  have c1 := Rat.mul_nonneg b3 b1
  have c2 := Rat.mul_nonneg b3 (show 0 ≤ 9 / 256 * s - s * s by grind)
  have c3 := Rat.mul_nonneg b3 c1
  have k1 : 4 - 4 * s + m ≤ (1 + 27 / 25 * s) * (1 + 27 / 25 * s) * (4 * (1 - 2 * s + m)) := by grind
  have := Rat.mul_nonneg b1 (show 0 ≤ (1 + 27 / 25 * s) * (1 + 27 / 25 * s) * (4 * (1 - 2 * s + m)) - (4 - 4 * s + m) by grind)
  grind
theorem Thn.a_down {k p : Rat} (h : Thn k p) : aB k p ≤ aA k p := by
  obtain ⟨b1, _⟩ := h.m rfl rfl
  unfold aA aB; grind
theorem Thn.a_up {k p : Rat} (h : Thn k p) : aA k p - 2 * p ≤ (1 + 27 / 25 * (k + p)) * (aB k p - 2 * p) := by
  obtain ⟨k0, k1, p0, p1⟩ := h
  have e1 : aA k p - 2 * p = k * (2 - (k + 2 * p)) := by unfold aA; grind
  have e2 : aB k p - 2 * p = k * (2 - 2 * (k + 2 * p)) := by unfold aB; grind
  rw [e1, e2]
  have a1 := Rat.mul_nonneg (show 0 ≤ k + p by grind) (show 0 ≤ 17 / 256 - (k + 2 * p) by grind)
  have := Rat.mul_nonneg k0 (show 0 ≤ (1 + 27 / 25 * (k + p)) * (2 - 2 * (k + 2 * p)) - (2 - (k + 2 * p)) by grind)
  grind

def fA (k p : Rat) (n : Nat) : Rat × Rat := eR (thA k p) n
def fB (k p : Rat) (n : Nat) : Rat × Rat := eR (thA (2 * k) (2 * p)) n
def gOf (p : Rat × Rat) : Rat := (1 - p.1) / p.2
theorem gOf_e {p : Rat × Rat} (h : Shr p.1 p.2) : p.2 * gOf p = 1 - p.1 := by
  have := h.t0
  unfold gOf
  rw [Rat.mul_comm]
  exact Rat.div_mul_cancel (by grind)
def hOf (p : Rat × Rat) : Rat := ((1 + p.1) * (1 + p.1) - p.2 * p.2) / (2 * p.2)
theorem hOf_e {p : Rat × Rat} (h : Shr p.1 p.2) : 2 * p.2 * hOf p = (1 + p.1) * (1 + p.1) - p.2 * p.2 := by
  have := h.t0
  unfold hOf
  rw [Rat.mul_comm]
  exact Rat.div_mul_cancel (by grind)
theorem h_all {p : Rat × Rat} (h : Shr p.1 p.2) : ∀ n, (2 : Rat) ^ n * hOf p ≤ hOf (eR p n)
  | 0 => by show (1 : Rat) * hOf p ≤ hOf p; grind
  | n + 1 => by
    have ih := h_all h n
    have := h_next (eR_dbl (eR_shr h n)) (eR_shr h n) (hOf_e (eR_shr h n)) (hOf_e (eR_shr h (n + 1)))
    rw [Rat.pow_succ]
    grind
/-- What goes through, against the thickness. -/
theorem Thn.top {k p : Rat} (h : Thn k p) : (fA k p 11).2 * (1 + 1024 * (k + 2 * p)) ≤ 1 := by
  have s := eR_shr h.shr 11
  have t := h_top s (hOf_e s)
  have g := h_all h.shr 11
  have e := hOf_e h.shr
  obtain ⟨k0, k1, p0, p1⟩ := h
  have e' : 2 * (1 - k - p) * hOf (thA k p) = (1 + p) * (1 + p) - (1 - k - p) * (1 - k - p) := e
  have q : k + 2 * p ≤ hOf (thA k p) := by
    have := Rat.mul_nonneg (show 0 ≤ k + 2 * p by grind) (show 0 ≤ k + 2 * p by grind)
    exact Rat.le_of_mul_le_mul_left (c := 2 * (1 - k - p)) (by grind) (by grind)
  have e2 : (2 : Rat) ^ 11 = 2048 := by decide
  rw [e2] at g
  have := Rat.mul_nonneg (Rat.le_of_lt s.t0) (show 0 ≤ hOf (eR (thA k p) 11) - 2048 * (k + 2 * p) by grind)
  show (eR (thA k p) 11).2 * (1 + 1024 * (k + 2 * p)) ≤ 1
  grind
theorem Thn.seqA {k p : Rat} (h : Thn k p) : Seq (fun n => (fA k p n).1) (fun n => (fA k p n).2) (eU (thA k p) 2) (2 * p) (aA k p) := eR_seq h.shr sclA
theorem Thn.seqB {k p : Rat} (h : Thn k p) : Seq (fun n => (fB k p n).1) (fun n => (fB k p n).2) (eU (thA (2 * k) (2 * p)) 1) (2 * p) (aB k p) := eR_seq h.shr2 sclB
theorem Thn.x1 {k p : Rat} (h : Thn k p) : 2 * (2 - aA k p) * (eU (thA k p) 2 1 - aA k p) = (2 - aA k p) * (2 - aA k p) + (aA k p * aA k p - 2 * p * (2 * p)) := h.seqA.newton 0
theorem Thn.down {k p : Rat} (h : Thn k p) : ∀ n, eU (thA (2 * k) (2 * p)) 1 n - aB k p ≤ eU (thA k p) 2 (n + 1) - aA k p :=
  h.seqA.shift.down h.seqB (h.x_down h.x1) h.q_down
theorem Thn.up {k p : Rat} (h : Thn k p) : ∀ n, eU (thA k p) 2 (n + 1) - aA k p ≤ (1 + 27 / 25 * (k + p)) * (eU (thA (2 * k) (2 * p)) 1 n - aB k p) :=
  h.seqA.shift.up h.seqB (by have := h.k0; have := h.p0; grind) (h.x_up h.x1) h.q_up
theorem Thn.down0 {k p : Rat} (h : Thn k p) : ∀ n, eU (thA (2 * k) (2 * p)) 1 n - aB k p ≤ eU (thA k p) 2 n - aA k p :=
  h.seqA.down h.seqB (by
    show 1 - aB k p ≤ 2 - aA k p
    obtain ⟨b1, b2, b3, b4, _⟩ := h.m rfl rfl
    unfold aA aB; grind) h.q_down
/-- The sharper film reflects less. -/
theorem Thn.r_le {k p : Rat} (h : Thn k p) (n : Nat) : (fA k p (n + 1)).1 ≤ (fB k p n).1 ∧ (fB k p n).1 - (fA k p (n + 1)).1 ≤ 27 / 25 * (k + p) * (1 / 4) := by
  have d := h.down n
  have u := h.up n
  have a1 := h.a_down
  have a2 := h.a_up
  have sa := h.seqA.scl (n + 1)
  have sb := h.seqB.scl n
  have hb := (eR_shr h.shr2 n).r0
  have l := Rat.mul_nonneg h.k0 h.p0
  have k0 := h.k0
  have p0 := h.p0
  exact ⟨less_r (σ := 2 * p) (by rw [Rat.mul_comm]; exact sa.e1) (by rw [Rat.mul_comm]; exact sb.e1) sb.U0 (by grind) hb, near_r sa.e1 sb.e1 sb.U0 (by grind) (by grind) (by grind) (by grind)⟩
theorem Thn.r_le0 {k p : Rat} (h : Thn k p) (n : Nat) : (fA k p n).1 ≤ (fB k p n).1 := by
  have d := h.down0 n
  have a1 := h.a_down
  have sa := h.seqA.scl n
  have sb := h.seqB.scl n
  exact less_r (σ := 2 * p) (by rw [Rat.mul_comm]; exact sa.e1) (by rw [Rat.mul_comm]; exact sb.e1) sb.U0 (by grind) (eR_shr h.shr2 n).r0

theorem Thn.g_le0 {k p : Rat} (h : Thn k p) : gOf (thA k p) ≤ gOf (thA (2 * k) (2 * p)) := by
  have e1 := gOf_e h.shr
  have e2 := gOf_e h.shr2
  obtain ⟨k0, k1, p0, p1⟩ := h
  have e1' : (1 - k - p) * gOf (thA k p) = 1 - p := e1
  have e2' : (1 - 2 * k - 2 * p) * gOf (thA (2 * k) (2 * p)) = 1 - 2 * p := e2
  have a := Rat.mul_pos (show 0 < 1 - k - p by grind) (show 0 < 1 - 2 * k - 2 * p by grind)
  have b := Rat.mul_nonneg k0 p0
  apply le_of_mul_pos a
  have q1 : gOf (thA k p) * ((1 - k - p) * (1 - 2 * k - 2 * p)) = (1 - p) * (1 - 2 * k - 2 * p) := by rw [← e1']; grind
  have q2 : gOf (thA (2 * k) (2 * p)) * ((1 - k - p) * (1 - 2 * k - 2 * p)) = (1 - 2 * p) * (1 - k - p) := by rw [← e2']; grind
  rw [q1, q2]
  grind
theorem Thn.g_le1 {k p : Rat} (h : Thn k p) : gOf (fA k p 1) ≤ gOf (thA (2 * k) (2 * p)) := by
  have e1 := g_next (eR_dbl (eR_shr h.shr 0)) (eR_shr h.shr 0) (gOf_e h.shr) (gOf_e (eR_shr h.shr 1))
  have e0 := gOf_e h.shr
  have e2 := gOf_e h.shr2
  obtain ⟨k0, k1, p0, p1⟩ := h
  have e0' : (1 - k - p) * gOf (thA k p) = 1 - p := e0
  have e2' : (1 - 2 * k - 2 * p) * gOf (thA (2 * k) (2 * p)) = 1 - 2 * p := e2
  have e1' : gOf (fA k p 1) = (1 + p) * (gOf (thA k p) * gOf (thA k p)) - p := e1
  rw [e1']
  have a := Rat.mul_pos (Rat.mul_pos (show 0 < 1 - k - p by grind) (show 0 < 1 - k - p by grind)) (show 0 < 1 - 2 * k - 2 * p by grind)
  apply le_of_mul_pos a
  have q1 : ((1 + p) * (gOf (thA k p) * gOf (thA k p)) - p) * ((1 - k - p) * (1 - k - p) * (1 - 2 * k - 2 * p)) = ((1 + p) * ((1 - p) * (1 - p)) - p * ((1 - k - p) * (1 - k - p))) * (1 - 2 * k - 2 * p) := by rw [← e0']; grind
  have q2 : gOf (thA (2 * k) (2 * p)) * ((1 - k - p) * (1 - k - p) * (1 - 2 * k - 2 * p)) = (1 - 2 * p) * ((1 - k - p) * (1 - k - p)) := by rw [← e2']; grind
  rw [q1, q2]
  have b1 := Rat.mul_nonneg k0 p0
  have b2 := Rat.mul_nonneg k0 k0
  have b3 := Rat.mul_nonneg p0 p0
  have b4 := Rat.mul_nonneg b2 (show 0 ≤ 1 / 32 - p by grind)
  have b5 := Rat.mul_nonneg b1 (show 0 ≤ 1 / 32 - p by grind)
  have b6 := Rat.mul_nonneg b1 (show 0 ≤ 1 / 256 - k by grind)
  have b7 := Rat.mul_nonneg b2 (show 0 ≤ 1 / 256 - k by grind)
  have b8 := Rat.mul_nonneg b2 p0
  have b9 := Rat.mul_nonneg b1 p0
  have c1 := Rat.mul_nonneg b9 (show 0 ≤ 1 / 32 - p by grind)
  have c2 := Rat.mul_nonneg b8 (show 0 ≤ 1 / 32 - p by grind)
  have c3 := Rat.mul_nonneg b8 (show 0 ≤ 1 / 256 - k by grind)
  grind
theorem Thn.g_le {k p : Rat} (h : Thn k p) : (∀ n, gOf (fA k p n) ≤ gOf (fB k p n)) ∧ ∀ n, gOf (fA k p (n + 1)) ≤ gOf (fB k p n) :=
  ⟨g_order (ra := fun n => (fA k p n).1) (ta := fun n => (fA k p n).2) (rb := fun n => (fB k p n).1) (tb := fun n => (fB k p n).2) (fun n => eR_dbl (eR_shr h.shr n)) (fun n => eR_dbl (eR_shr h.shr2 n)) (fun n => eR_shr h.shr n) (fun n => eR_shr h.shr2 n) (fun n => gOf_e (eR_shr h.shr n)) (fun n => gOf_e (eR_shr h.shr2 n)) h.r_le0 h.g_le0,
   g_order (ra := fun n => (fA k p (n + 1)).1) (ta := fun n => (fA k p (n + 1)).2) (rb := fun n => (fB k p n).1) (tb := fun n => (fB k p n).2) (fun n => eR_dbl (eR_shr h.shr (n + 1))) (fun n => eR_dbl (eR_shr h.shr2 n)) (fun n => eR_shr h.shr (n + 1)) (fun n => eR_shr h.shr2 n) (fun n => gOf_e (eR_shr h.shr (n + 1))) (fun n => gOf_e (eR_shr h.shr2 n)) (fun n => (h.r_le n).1) h.g_le1⟩
theorem Thn.t_le {k p : Rat} (h : Thn k p) : (∀ n, (fB k p n).2 ≤ (fA k p n).2) ∧ ∀ n, (fB k p n).2 ≤ (fA k p (n + 1)).2 :=
  ⟨fun n => t_order (eR_shr h.shr n) (eR_shr h.shr2 n) (gOf_e (eR_shr h.shr n)) (gOf_e (eR_shr h.shr2 n)) (h.r_le0 n) (h.g_le.1 n),
   fun n => t_order (eR_shr h.shr (n + 1)) (eR_shr h.shr2 n) (gOf_e (eR_shr h.shr (n + 1))) (gOf_e (eR_shr h.shr2 n)) (h.r_le n).1 (h.g_le.2 n)⟩

/-- A film of some thickness reflects enough. -/
theorem Thn.r9 {k p : Rat} (h : Thn k p) (hs : 158 / 10000 ≤ k + p) : 43 / 100 ≤ (fB k p 9).1 := by
  obtain ⟨b1, b2, b3, b4, b5, b6, b7, b8⟩ := h.m rfl rfl
  have sb := h.seqB.scl 9
  obtain ⟨k0, k1, p0, p1⟩ := id h
  have ek : k ≤ 3286 / 10000 * p := by grind
  have w0 : 0 ≤ 17496 / 10000 * p := by grind
  have eb : aB k p * aB k p - 2 * p * (2 * p) = k * (k + 2 * p) * (4 * (1 - 2 * (k + p) + k * (k + 2 * p))) := by unfold aB; grind
  have q : aB k p * aB k p - 2 * p * (2 * p) ≤ 17496 / 10000 * p * (17496 / 10000 * p) := by
    rw [eb]
    have c1 := Rat.mul_nonneg b1 (show 0 ≤ 2 * (k + p) - k * (k + 2 * p) by grind)
    have c2 := Rat.mul_nonneg p0 (show 0 ≤ 3286 / 10000 * p - k by grind)
    have c3 := sq_mono k0 ek
    grind
  have t := h.seqB.newton_top w0 q 9
  have e2 : (2 : Rat) ^ 9 = 512 := by decide
  have e3 : eU (thA (2 * k) (2 * p)) 1 0 = 1 := rfl
  have e4 : aB k p = 2 * (k + p) - 2 * (k * (k + 2 * p)) := rfl
  rw [e2, e3] at t
  have U := sb.U0
  have e1 := sb.e1
  have k9 : eU (thA (2 * k) (2 * p)) 1 9 ≤ 458 / 100 * p := by grind
  apply le_of_mul_pos U
  have : (fB k p 9).1 * eU (thA (2 * k) (2 * p)) 1 9 = 2 * p := by rw [Rat.mul_comm]; exact e1
  rw [this]
  grind
theorem Thn.t_near {k p : Rat} (h : Thn k p) : (fA k p 11).2 - (fB k p 10).2 ≤ 182 / 10000 := by
  have top := h.top
  have sA := eR_shr h.shr 11
  have sB := eR_shr h.shr2 10
  have tA : 0 < (fA k p 11).2 := sA.t0
  have tB : 0 < (fB k p 10).2 := sB.t0
  have tle := h.t_le.2 10
  have k0 := h.k0
  have p0 := h.p0
  by_cases c1 : 527 / 10000 ≤ k + 2 * p
  · have a1 := Rat.mul_nonneg (Rat.le_of_lt tA) (show 0 ≤ k + 2 * p - 527 / 10000 by grind)
    grind
  · have d := h.down 10
    have u := h.up 9
    have a1 := h.a_down
    have a2 := h.a_up
    have qa := h.seqA.u 10
    have qb := h.seqB.u 9
    have sb := h.seqB.scl 9
    have sb' := h.seqB.scl 10
    have key := near_t (ta := (fA k p 11).2) (tb := (fB k p 10).2) (σ := 2 * p) (ε := 27 / 25 * (k + p)) qa qb sb.e1 sb'.U0 (by grind) (by grind) (by grind)
    have m1 := Rat.mul_nonneg (Rat.le_of_lt tA) (show 0 ≤ p by grind)
    have m2 := Rat.mul_nonneg (show 0 ≤ k + p by grind) (show 0 ≤ (fA k p 11).2 - (fB k p 10).2 by grind)
    have s9 := eR_shr h.shr2 9
    have r0 : 0 ≤ (fB k p 9).1 := s9.r0
    have r1 : (fB k p 9).1 < 1 := s9.r1
    have k1 := h.k1
    -- s (1 + t) is at most s and a 1024th
    have m3 : (k + p) * (1 + (fB k p 10).2) ≤ k + p + 1 / 1024 := by grind
    have m4 := Rat.mul_nonneg (show 0 ≤ k + p by grind) (show 0 ≤ 1 + (fB k p 10).2 by grind)
    by_cases c2 : k + p ≤ 158 / 10000
    · have m5 := Rat.mul_nonneg r0 m4
      grind
    · have r9 := h.r9 (by grind)
      have m5 := Rat.mul_nonneg (show 0 ≤ (fB k p 9).1 - 43 / 100 by grind) m4
      grind
/-- Two coats, and one layer of twice the thickness, exactly. -/
theorem Thn.coats {k p : Rat} (h : Thn k p) : ((fA k p 11).1 ≤ (fB k p 10).1 ∧ (fB k p 10).1 - (fA k p 11).1 ≤ 1 / 100) ∧ (fB k p 10).2 ≤ (fA k p 11).2 ∧ (fA k p 11).2 - (fB k p 10).2 ≤ 182 / 10000 := by
  have r := h.r_le 10
  obtain ⟨k0, k1, p0, p1⟩ := id h
  exact ⟨⟨r.1, by grind⟩, h.t_le.2 10, h.t_near⟩

/-- Two films near each other, in the sum of both differences. -/
structure L1 (r t x y e : Rat) : Prop where
  a1 : r + t ≤ x + y + e
  a2 : x + y ≤ r + t + e
  a3 : r - t ≤ x - y + e
  a4 : x - y ≤ r - t + e
theorem L1.mono {r t x y e e' : Rat} (h : L1 r t x y e) (k : e ≤ e') : L1 r t x y e' := by
  obtain ⟨a1, a2, a3, a4⟩ := h
  exact ⟨by grind, by grind, by grind, by grind⟩
theorem L1.trans {r t x y r' t' e e' : Rat} (h : L1 r' t' r t e') (g : L1 r t x y e) : L1 r' t' x y (e + e') := by
  obtain ⟨a1, a2, a3, a4⟩ := h
  obtain ⟨b1, b2, b3, b4⟩ := g
  exact ⟨by grind, by grind, by grind, by grind⟩
theorem L1.of {r t x y a b e : Rat} (h1 : r ≤ x + a) (h2 : x ≤ r + a) (h3 : t ≤ y + b) (h4 : y ≤ t + b) (h : a + b ≤ e) : L1 r t x y e := ⟨by grind, by grind, by grind, by grind⟩
theorem lin_le {a b M u v e : Rat} (a0 : 0 ≤ a) (a1 : a ≤ M) (b0 : 0 ≤ b) (b1 : b ≤ M) (h1 : u + v ≤ e) (h2 : u - v ≤ e) (h3 : -u + v ≤ e) : a * u + b * v ≤ M * e := by
  have m0 : 0 ≤ M := by grind
  have k1 := Rat.mul_nonneg m0 (show 0 ≤ e - u - v by grind)
  have k2 := Rat.mul_nonneg m0 (show 0 ≤ e - u by grind)
  have k3 := Rat.mul_nonneg m0 (show 0 ≤ e - v by grind)
  have k4 := Rat.mul_nonneg m0 (show 0 ≤ e by grind)
  rcases Rat.le_total (a := 0) (b := u) with hu | hu
  · have l1 := Rat.mul_nonneg (show 0 ≤ M - a by grind) hu
    rcases Rat.le_total (a := 0) (b := v) with hv | hv
    · have l2 := Rat.mul_nonneg (show 0 ≤ M - b by grind) hv
      grind
    · have l2 := Rat.mul_nonneg b0 (show 0 ≤ -v by grind)
      grind
  · have l1 := Rat.mul_nonneg a0 (show 0 ≤ -u by grind)
    rcases Rat.le_total (a := 0) (b := v) with hv | hv
    · have l2 := Rat.mul_nonneg (show 0 ≤ M - b by grind) hv
      grind
    · have l2 := Rat.mul_nonneg b0 (show 0 ≤ -v by grind)
      grind
theorem lin_both {a b M u v e : Rat} (a0 : 0 ≤ a) (a1 : a ≤ M) (b0 : 0 ≤ b) (b1 : b ≤ M) (h1 : u + v ≤ e) (h2 : u - v ≤ e) (h3 : -u + v ≤ e) (h4 : -u - v ≤ e) : a * u + b * v ≤ M * e ∧ -(a * u + b * v) ≤ M * e := by
  have k1 := lin_le a0 a1 b0 b1 h1 h2 h3
  have k2 := lin_le (u := -u) (v := -v) (e := e) a0 a1 b0 b1 (by grind) (by grind) (by grind)
  exact ⟨k1, by grind⟩
theorem quo (n : Rat) {d : Rat} (h : 0 < d) : ∃ q, q * d = n := ⟨n / d, Rat.div_mul_cancel (by grind)⟩
theorem quo_nn {q d n : Rat} (h : q * d = n) (hd : 0 < d) (hn : 0 ≤ n) : 0 ≤ q := le_of_mul_pos hd (by grind)
theorem quo_le {q d n b : Rat} (h : q * d = n) (hd : 0 < d) (hn : n ≤ b * d) : q ≤ b := le_of_mul_pos hd (by grind)
theorem eq_of_mul {a b c : Rat} (hc : 0 < c) (h : a * c = b * c) : a = b := Rat.le_antisymm (le_of_mul_pos hc (by rw [h]; exact Rat.le_refl)) (le_of_mul_pos hc (by rw [h]; exact Rat.le_refl))
theorem half_quot {A t g D : Rat} (hA : A * D = t * t) {u v : Rat} (hD : u * v = D) (e : g * v = t) (hv : 0 < v) : A * u = t * g := by
  apply eq_of_mul hv
  rw [Rat.mul_assoc, hD, hA, Rat.mul_assoc, e]
/-- What a film over a backing of b reflects: r + t g b with g (1 - r b) = t. -/
theorem over_lip {r t x y b g1 g2 : Rat} (e1 : g1 * (1 - r * b) = t) (e2 : g2 * (1 - x * b) = y) : (r + t * g1 * b) - (x + y * g2 * b) = (1 + b * b * (g1 * g2)) * (r - x) + b * (g1 + g2) * (t - y) := by
  have : t * g1 - y * g2 = (g1 + g2) * (t - y) + g1 * g2 * b * (r - x) := by rw [← e1, ← e2]; grind
  grind
/-- One doubling of two films near each other. -/
theorem l1_step {r t x y x' y' A e μ : Rat} (d : Dbl x y x' y') (h : Shr x y) (r0 : 0 ≤ r) (r1 : r < 1) (t0 : 0 ≤ t) (tg : t ≤ (1 + μ) * (1 - r)) (μ0 : 0 ≤ μ) (hA : A * (1 - r * r) = t * t) (l : L1 r t x y e) : L1 (r * (1 + A)) A x' y' ((2 + μ) * e) := by
  have h' := d.shr h
  obtain ⟨x0, x1, y0, s⟩ := h
  obtain ⟨ht, hr⟩ := d
  obtain ⟨a1, a2, a3, a4⟩ := l
  obtain ⟨g1, e1⟩ := quo t (show 0 < 1 - r by grind)
  obtain ⟨g2, e2⟩ := quo y (show 0 < 1 - x by grind)
  obtain ⟨h1, f1⟩ := quo t (show 0 < 1 + r by grind)
  obtain ⟨h2, f2⟩ := quo y (show 0 < 1 + x by grind)
  have p1 := quo_nn e1 (by grind) t0
  have p2 := quo_nn e2 (by grind) (Rat.le_of_lt y0)
  have p3 := quo_nn f1 (by grind) t0
  have p4 := quo_nn f2 (by grind) (Rat.le_of_lt y0)
  have q1 := quo_le e1 (by grind) tg
  have q2 : g2 ≤ 1 := quo_le e2 (by grind) (by grind)
  have q3 : h1 ≤ 1 + μ := quo_le f1 (by grind) (by have := Rat.mul_nonneg (show 0 ≤ 1 + μ by grind) r0; grind)
  have q4 : h2 ≤ 1 := quo_le f2 (by grind) (by grind)
  have w1 := Rat.mul_nonneg p1 p2
  have w2 := Rat.mul_nonneg p1 (show 0 ≤ 1 - g2 by grind)
  have w3 := Rat.mul_nonneg p3 p4
  have w4 := Rat.mul_nonneg p3 (show 0 ≤ 1 - h2 by grind)
  -- what the doublings give
  have i1 : A * (1 + r) = t * g1 := half_quot hA (u := 1 + r) (v := 1 - r) (by grind) e1 (by grind)
  have i2 : y' * (1 + x) = y * g2 := half_quot ht (u := 1 + x) (v := 1 - x) (by grind) e2 (by grind)
  have i3 : A * (1 - r) = t * h1 := half_quot hA (u := 1 - r) (v := 1 + r) (by grind) f1 (by grind)
  have i4 : y' * (1 - x) = y * h2 := half_quot ht (u := 1 - x) (v := 1 + x) (by grind) f2 (by grind)
  have j1 : t * g1 - y * g2 = (g1 + g2) * (t - y) + g1 * g2 * (r - x) := by rw [← e1, ← e2]; grind
  have j2 : t * h1 - y * h2 = (h1 + h2) * (t - y) - h1 * h2 * (r - x) := by rw [← f1, ← f2]; grind
  have b1 := lin_both (a := 1 + g1 * g2) (b := g1 + g2) (M := 2 + μ) (u := r - x) (v := t - y) (e := e) (by grind) (by grind) (by grind) (by grind) (by grind) (by grind) (by grind) (by grind)
  have b2 := lin_both (a := 1 + h1 * h2) (b := h1 + h2) (M := 2 + μ) (u := r - x) (v := -(t - y)) (e := e) (by grind) (by grind) (by grind) (by grind) (by grind) (by grind) (by grind) (by grind)
  have k1 : r * (1 + A) + A - (x' + y') = (1 + g1 * g2) * (r - x) + (g1 + g2) * (t - y) := by rw [hr]; grind
  have k2 : r * (1 + A) - A - (x' - y') = (1 + h1 * h2) * (r - x) + (h1 + h2) * -(t - y) := by rw [hr]; grind
  exact ⟨by grind, by grind, by grind, by grind⟩
/-- A film over what it would itself be, if it were very thick, is hardly seen. -/
theorem over_thick {k p r t U b o ε : Rat} (h : Thn k p) (s : Scl r t U (2 * p) (aA k p)) (hs : Shr r t) (hp : 0 < p) (b0 : 0 ≤ b) (b1 : b ≤ 1) (ε0 : 0 ≤ ε) (ε1 : ε ≤ 1 / 200000) (res1 : p * ((1 - b) * (1 - b)) ≤ 2 * (k * b) + ε * p) (res2 : 2 * (k * b) ≤ p * ((1 - b) * (1 - b)) + ε * p)
    (ho : o * (1 - r * b) = r * (1 - r * b) + t * t * b) (hr : r ≤ 49 / 50) : o ≤ b + 270 / 10000 ∧ b ≤ o + 270 / 10000 := by
  obtain ⟨U0, e1, e2⟩ := s
  obtain ⟨r0, r1, t0, s⟩ := hs
  obtain ⟨k0, k1, p0, p1⟩ := h
  have eα : aA k p = 2 * (k + p) - k * (k + 2 * p) := rfl
  -- p (1 + r² - t²) = r α
  have i0 : p * (1 + r * r - t * t) = r * aA k p := by
    have : 2 * (p * (1 + r * r - t * t)) = 2 * (r * aA k p) := by
      have : 2 * p * (1 + r * r - t * t) = r * (U * (1 + r * r - t * t)) := by rw [← e1]; grind
      rw [e2] at this
      grind
    grind
  have rb := Rat.mul_nonneg r0 b0
  have rb1 := Rat.mul_nonneg r0 (show 0 ≤ 1 - b by grind)
  have d0 : 1 / 50 ≤ 1 - r * b := by grind
  have db : 1 - b ≤ 1 - r * b := by have := Rat.mul_nonneg b0 (show 0 ≤ 1 - r by grind); grind
  -- the difference
  have i1 : (o - b) * (1 - r * b) * p = r * (p * ((1 - b) * (1 - b)) - 2 * (k * b) + b * (k * (k + 2 * p))) := by
    have : (o - b) * (1 - r * b) * p = p * (r * (1 + b * b)) - b * (p * (1 + r * r - t * t)) := by
      have : (o - b) * (1 - r * b) = r * (1 + b * b) - b * (1 + r * r - t * t) := by grind
      rw [this]; grind
    rw [this, i0, eα]; grind
  have m0 : 0 ≤ k * (k + 2 * p) := Rat.mul_nonneg k0 (by grind)
  have tt : t * t ≤ 1 := by have := Rat.mul_nonneg (show 0 ≤ 1 - t by grind) (show 0 ≤ 1 + t by grind); grind
  have t0' := Rat.mul_nonneg (Rat.le_of_lt t0) (Rat.le_of_lt t0)
  have rr : r * r ≤ 1 := by have := Rat.mul_nonneg (show 0 ≤ 1 - r by grind) (show 0 ≤ 1 + r by grind); grind
  -- r is at most p over a part of α
  have i2 : r * (p + 24 / 25 * k) ≤ p := by
    have a1 := Rat.mul_nonneg p0 (show 0 ≤ 1 - r * r + t * t by grind)
    have a2 : 2 * p + 48 / 25 * k ≤ aA k p := by
      rw [eα]
      have := Rat.mul_nonneg k0 (show 0 ≤ 2 / 25 - (k + 2 * p) by grind)
      grind
    have a3 := Rat.mul_nonneg r0 (show 0 ≤ aA k p - (2 * p + 48 / 25 * k) by grind)
    grind
  have i3 : r * (2 * b + 24 / 25 * ((1 - b) * (1 - b))) ≤ 2 * b + 24 / 25 * ε := by
    apply le_of_mul_pos hp
    have a1 := Rat.mul_nonneg b0 (show 0 ≤ p - r * (p + 24 / 25 * k) by grind)
    have a2 := Rat.mul_nonneg r0 (show 0 ≤ 2 * (k * b) + ε * p - p * ((1 - b) * (1 - b)) by grind)
    have a3 := Rat.mul_nonneg (show 0 ≤ 1 - r by grind) (Rat.mul_nonneg ε0 p0)
    grind
  have i4 : r * (1 - b) ≤ 4 / 5 := by
    have w0 : 0 < 2 * b + 24 / 25 * ((1 - b) * (1 - b)) := by
      have := Rat.mul_nonneg b0 b0; grind
    apply le_of_mul_pos w0
    have a1 := Rat.mul_nonneg (show 0 ≤ 1 - b by grind) (show 0 ≤ 2 * b + 24 / 25 * ε - r * (2 * b + 24 / 25 * ((1 - b) * (1 - b))) by grind)
    have a2 := Rat.mul_nonneg b0 ε0
    have a3 : 0 ≤ (b - 35 / 100) * (b - 35 / 100) := by
      rcases Rat.le_total (a := 0) (b := b - 35 / 100) with h | h
      · exact Rat.mul_nonneg h h
      · have := Rat.mul_nonneg (show 0 ≤ -(b - 35 / 100) by grind) (show 0 ≤ -(b - 35 / 100) by grind); grind
    grind
  have i5 : r * ((1 - b) * (1 - b)) ≤ 4 / 5 * (1 - r * b) := by
    have := Rat.mul_nonneg (show 0 ≤ 4 / 5 - r * (1 - b) by grind) (show 0 ≤ 1 - b by grind)
    grind
  have pd := Rat.mul_pos (show 0 < 1 - r * b by grind) hp
  have ed := Rat.mul_nonneg ε0 p0
  have rε := Rat.mul_nonneg r0 ed
  have rε1 := Rat.mul_nonneg (show 0 ≤ 1 - r by grind) ed
  have ed1 : ε * p ≤ 1 / 4000 * ((1 - r * b) * p) := by
    have a1 := Rat.mul_nonneg (show 0 ≤ 1 - r * b - 1 / 50 by grind) p0
    have a2 := Rat.mul_nonneg (show 0 ≤ 1 / 200000 - ε by grind) p0
    grind
  constructor
  · have key : (o - b) * ((1 - r * b) * p) ≤ 270 / 10000 * ((1 - r * b) * p) := by
      have e : (o - b) * ((1 - r * b) * p) = (o - b) * (1 - r * b) * p := by grind
      rw [e, i1]
      -- r b m is at most (k + 2 p) / 2 of r (p (1 - b)² + ε p)
      have a1 := Rat.mul_nonneg r0 (show 0 ≤ 2 * (k * b) + ε * p - p * ((1 - b) * (1 - b)) by grind)
      have a2 := Rat.mul_nonneg (Rat.mul_nonneg r0 (show 0 ≤ k + 2 * p by grind)) (show 0 ≤ p * ((1 - b) * (1 - b)) + ε * p - 2 * (k * b) by grind)
      have bb := Rat.mul_nonneg (show 0 ≤ 1 - b by grind) (show 0 ≤ 1 - b by grind)
      have a3 := Rat.mul_nonneg (Rat.mul_nonneg r0 (show 0 ≤ 17 / 256 - (k + 2 * p) by grind)) (show 0 ≤ p * ((1 - b) * (1 - b)) + ε * p by have := Rat.mul_nonneg p0 bb; grind)
      have a4 := Rat.mul_nonneg p0 (show 0 ≤ 4 / 5 * (1 - r * b) - r * ((1 - b) * (1 - b)) by grind)
      grind
    have := le_of_mul_pos pd key
    grind
  · have key : (b - o) * ((1 - r * b) * p) ≤ 270 / 10000 * ((1 - r * b) * p) := by
      have e : (b - o) * ((1 - r * b) * p) = -((o - b) * (1 - r * b) * p) := by grind
      rw [e, i1]
      have a1 := Rat.mul_nonneg r0 (show 0 ≤ p * ((1 - b) * (1 - b)) + ε * p - 2 * (k * b) by grind)
      have a2 := Rat.mul_nonneg rb m0
      grind
    have := le_of_mul_pos pd key
    grind
/-- Nothing over a backing. -/
theorem over_none {k p r t U b o : Rat} (hk : k = 0) (hp : p = 0) (s : Scl r t U (2 * p) (aA k p)) (hs : Shr r t) (ho : o * (1 - r * b) = r * (1 - r * b) + t * t * b) : o = b := by
  obtain ⟨U0, e1, e2⟩ := s
  obtain ⟨r0, r1, t0, s⟩ := hs
  have eα : aA k p = 0 := by show 2 * (k + p) - k * (k + 2 * p) = 0; rw [hk, hp]; grind
  rw [hp] at e1
  rw [eα] at e2
  have z : r = 0 := by
    have : U * r ≤ U * 0 := by grind
    have := Rat.le_of_mul_le_mul_left this U0
    grind
  subst z
  have t2 : t * t = 1 := by
    have h : U * (1 + 0 * 0 - t * t) = U * 0 := by grind
    have h1 := Rat.le_of_mul_le_mul_left (show U * (1 + 0 * 0 - t * t) ≤ U * 0 by grind) U0
    have h2 := Rat.le_of_mul_le_mul_left (show U * 0 ≤ U * (1 + 0 * 0 - t * t) by grind) U0
    grind
  grind
end Go.Proofs.YtnfnlgmnnjgemaaGreatDoor.Ct

namespace Go.Proofs.YtnfnlgmnnjgemaaGreatDoor
open Go.RowKit
set_option maxRecDepth 100000

theorem star_u {u T D d A AA τ : Rat} (hA : A * d = u) (hAA : AA * D = T) (g1 : u ≤ T + T * (1 / 8388608) + τ) (g2 : T ≤ u + T * (1 / 8388608) + τ) (d1 : d ≤ D + 1 / 16777216) (d2 : D ≤ d + 1 / 16777216) (A0 : 0 ≤ A) (AD : A ≤ 5 / 4 * D) (D0 : 1 / 450 ≤ D) (τ1 : τ ≤ 1 / 100000000000000000000) :
    A ≤ AA + AA * (1 / 8388608) + (5 / 4 + 1 / 1000) / 16777216 ∧ AA ≤ A + AA * (1 / 8388608) + (5 / 4 + 1 / 1000) / 16777216 := by
  have a1 := Rat.mul_nonneg A0 (show 0 ≤ d + 1 / 16777216 - D by grind)
  have a2 := Rat.mul_nonneg A0 (show 0 ≤ D + 1 / 16777216 - d by grind)
  constructor
  · apply Rat.le_of_mul_le_mul_right (c := D) _ (by grind)
    grind
  · apply Rat.le_of_mul_le_mul_right (c := D) _ (by grind)
    grind
theorem star_q {u ur r T D d Q AA τ m : Rat} (hQ : Q * d = ur) (hAA : AA * D = T) (r0 : 0 ≤ r) (r1 : r ≤ 1) (g1 : u ≤ T + T * (1 / 8388608) + τ) (g2 : T ≤ u + T * (1 / 8388608) + τ) (g3 : ur ≤ u * r + u * r * (1 / 8388608) + τ) (g4 : u * r ≤ ur + u * r * (1 / 8388608) + τ) (d1 : d ≤ D + 1 / 16777216) (d2 : D ≤ d + 1 / 16777216) (Q0 : 0 ≤ Q) (QD : Q ≤ 63 / 100 * D) (D0 : 1 / 450 ≤ D) (τ1 : τ ≤ 1 / 100000000000000000000) (τ0 : 0 ≤ τ) (hm : u * r ≤ m * D) (hm2 : T * r ≤ m * D) :
    Q ≤ AA * r + (4 * m + 64 / 100) / 16777216 ∧ AA * r ≤ Q + (4 * m + 64 / 100) / 16777216 := by
  have a1 := Rat.mul_nonneg Q0 (show 0 ≤ d + 1 / 16777216 - D by grind)
  have a2 := Rat.mul_nonneg Q0 (show 0 ≤ D + 1 / 16777216 - d by grind)
  have a3 := Rat.mul_nonneg r0 (show 0 ≤ T + T * (1 / 8388608) + τ - u by grind)
  have a4 := Rat.mul_nonneg r0 (show 0 ≤ u + T * (1 / 8388608) + τ - T by grind)
  have a5 := Rat.mul_nonneg τ0 (show 0 ≤ 1 - r by grind)
  have a6 : AA * r * D = T * r := by rw [← hAA]; grind
  constructor
  · apply Rat.le_of_mul_le_mul_right (c := D) _ (by grind)
    grind
  · apply Rat.le_of_mul_le_mul_right (c := D) _ (by grind)
    grind
/-- One doubling in floats, near the doubling of the same numbers. -/
theorem star {r t r' t' c δ : Rat} (s : Step r t r' t') (h : From r t c δ) : ∃ A, A * (1 - r * r) = t * t ∧ Ct.L1 r' t' (r * (1 + A)) A (75 / 10 / 16777216) := by
  obtain ⟨r0, t0, t1, c0, rc, hδ, δ0, dc, δ1, hs⟩ := h
  obtain ⟨rr, d, u, ur, q, A, Q, hrr, hd, hu, hur, hA, hQ, hq, hr', ht', rr0, u0, ur0, urt, d0, ⟨dD1, dD2⟩, A0, Q0, A1, Qh, q0, t0', t1', rr'⟩ := s
  have g2 := tiny32
  obtain ⟨k0, k0'⟩ := k_0
  have e1 := ht'.gap 0 (by decide) (by decide) (by rw [k0]; exact A1) (by rw [k0]; grind)
  have km1 : p2 (-1) = 1 / 2 ∧ p2 (-1 - 24) = 1 / 33554432 := by decide +kernel
  have e2 := hq.gap (-1) (by decide) (by decide) (by rw [km1.1]; exact Qh) (by rw [km1.1]; grind)
  rw [k0'] at e1
  rw [km1.2] at e2
  have e3 := hr'.hi
  have e4 := hr'.lo
  have m2 := Rat.mul_nonneg t0 t0
  have big := big32
  have g1 := hu.rnd.rel m2 (by have := Rat.mul_nonneg t0 (show 0 ≤ 1 - t by grind); grind)
  have m4 := Rat.mul_nonneg u0 r0
  have g3 := hur.rel m4 (by have := hu.top; have := Rat.mul_nonneg u0 (show 0 ≤ 1 - r by grind); grind)
  clear hrr hd hu hur hq hr' ht' hs rr0 ur0 k0 k0' big km1
  obtain ⟨y, hy⟩ : ∃ y, y = 1 - r := ⟨_, rfl⟩
  have hr : r = 1 - y := by grind
  have y0 : 1 / 450 ≤ y := by grind
  have y1 : y ≤ 1 := by grind
  have r1 : r ≤ 1 := by grind
  have ty2 : t ≤ 11 / 10 * y := by grind
  have yy := Rat.mul_nonneg (show 0 ≤ y by grind) (show 0 ≤ y by grind)
  have tt : t * t ≤ 121 / 100 * (y * y) := by
    have n1 := Rat.mul_nonneg (show 0 ≤ 11 / 10 * y - t by grind) (show 0 ≤ 11 / 10 * y + t by grind)
    clear hr hy
    grind
  have u2 : u ≤ 1211 / 1000 * (y * y) := by
    have n4 := Rat.mul_nonneg (show 0 ≤ y - 1 / 450 by grind) (show 0 ≤ y - 1 / 450 by grind)
    clear hr hy
    grind
  have hD : 1 - r * r = y * (1 + r) := by grind
  have yD : y ≤ y * (1 + r) := by have := Rat.mul_nonneg (show 0 ≤ y by grind) r0; grind
  rw [hD] at dD1 dD2
  have pD : 0 < y * (1 + r) := Rat.mul_pos (by grind) (by grind)
  have d2 : 999 / 1000 * (y * (1 + r)) ≤ d := by
    clear hr hy hD
    grind
  have ur2 : u * r ≤ 1211 / 1000 * (y * y * r) := by
    have := Rat.mul_nonneg (show 0 ≤ 1211 / 1000 * (y * y) - u by grind) r0
    clear hr hy hD
    grind
  have ur3 := in_ur r0 r1 g2_nonneg g1.1 g3.1
  have ur4 : ur ≤ 1212 / 1000 * (y * y * r) + 1 / 1000000000000 := by
    have := Rat.mul_nonneg yy r0
    clear hr hy hD
    grind
  have Q1 := in_Q y0 r0 hQ (by grind) d0 d2 ur4
  -- y r / (1 + r) is at most 172 / 1000
  have yr : y * r ≤ 172 / 1000 * (1 + r) := by
    have : 0 ≤ (r - 414 / 1000) * (r - 414 / 1000) := by
      rcases Rat.le_total (a := 0) (b := r - 414 / 1000) with h | h
      · exact Rat.mul_nonneg h h
      · have := Rat.mul_nonneg (show 0 ≤ -(r - 414 / 1000) by grind) (show 0 ≤ -(r - 414 / 1000) by grind); grind
    rw [hy]
    clear hr hy hD
    grind
  have yyr : y * y * r ≤ 172 / 1000 * (y * (1 + r)) := by
    have := Rat.mul_nonneg (show 0 ≤ y by grind) (show 0 ≤ 172 / 1000 * (1 + r) - y * r by grind)
    clear hr hy hD
    grind
  obtain ⟨AA, hAA⟩ := Ct.quo (t * t) pD
  have AD : A ≤ 5 / 4 * (y * (1 + r)) := by
    -- A d = u, d nearly y (1 + r)
    have k1 : A * (999 / 1000 * (y * (1 + r))) ≤ u := by
      have := Rat.mul_nonneg A0 (show 0 ≤ d - 999 / 1000 * (y * (1 + r)) by grind)
      rw [← hA]
      clear hr hy hD hA hQ hAA
      grind
    have k2 : A * (1 + r) ≤ 1213 / 1000 * y := by
      apply Rat.le_of_mul_le_mul_right (c := y) _ (by grind)
      clear hr hy hD hA hQ hAA
      grind
    have k3 := Rat.mul_nonneg A0 r0
    clear hr hy hD hA hQ hAA
    grind
  have QD : Q ≤ 63 / 100 * (y * (1 + r)) := by
    have k1 := Rat.mul_nonneg (show 0 ≤ y by grind) (show 0 ≤ 1 - r by grind)
    clear hr hy hD hA hQ hAA
    grind
  have D0 : 1 / 450 ≤ y * (1 + r) := by grind
  obtain ⟨s1, s2⟩ := star_u hA hAA g1.1 g1.2 dD1 dD2 A0 AD D0 g2
  have mr : 121 / 100 * (y * y * r) ≤ 2083 / 10000 * (y * (1 + r)) := by clear hr hy hD hA hQ hAA; grind
  have Tr : t * t * r ≤ 2084 / 10000 * (y * (1 + r)) := by
    have := Rat.mul_nonneg (show 0 ≤ 121 / 100 * (y * y) - t * t by grind) r0
    clear hr hy hD hA hQ hAA
    grind
  obtain ⟨s3, s4⟩ := star_q hQ hAA r0 r1 g1.1 g1.2 g3.1 g3.2 dD1 dD2 Q0 QD D0 g2 g2_nonneg (m := 2084 / 10000) (by clear hr hy hD hA hQ hAA; grind) Tr
  have AA1 : AA ≤ 1 + 1 / 1000000 := by clear hr hy hD hA hQ hAA; grind
  refine ⟨AA, by rw [hD]; exact hAA, Ct.L1.of (a := 298 / 100 / 16777216) (b := 426 / 100 / 16777216) ?_ ?_ ?_ ?_ (by grind)⟩
  · clear hr hy hD hA hQ hAA; grind
  · clear hr hy hD hA hQ hAA; grind
  · clear hr hy hD hA hQ hAA; grind
  · clear hr hy hD hA hQ hAA; grind
/-- A film on its way, near an exact one. -/
theorem near_step {p : Option Nat × Option Nat} {r t c δ σ r' t' x y x' y' e μ e' : Rat} (w : Way p r t c δ σ) (s : Step r t r' t') (d : Ct.Dbl x y x' y') (h : Ct.Shr x y) (l : Ct.L1 r t x y e) (μ0 : 0 ≤ μ) (hμ : δ ≤ μ * c) (he : (2 + μ) * e + 75 / 10 / 16777216 ≤ e') : Ct.L1 r' t' x' y' e' := by
  obtain ⟨A, hA, hs⟩ := star s w.fr
  obtain ⟨r0, t0, t1, c0, rc, hδ, _⟩ := w.fr
  have m := Rat.mul_nonneg μ0 (show 0 ≤ 1 - r - c by grind)
  exact (hs.trans (Ct.l1_step d h r0 (by grind) t0 (by grind) μ0 hA l)).mono he
end Go.Proofs.YtnfnlgmnnjgemaaGreatDoor

namespace Go.Proofs.YtnfnlgmnnjgemaaGreatDoor
open Go.RowKit
set_option maxRecDepth 100000

/-- Ten doublings of a layer that reflects a thirty-second at the most. -/
theorem trk_thin {p : Option Nat × Option Nat} {r t : Rat} (h : Way p r t (31 / 32) (1 / 16777216) (1 / 16777216)) {x : Rat × Rat} (hx : Ct.Shr x.1 x.2) (l : Ct.L1 r t x.1 x.2 (12 / 10 / 16777216)) : ∃ R T, End (dblN p 10) R T (290469202353 / 10000000000000) (4892925439 / 10000000000000) (2134974179 / 10000000000000) ∧ Ct.L1 R T (Ct.eR x 10).1 (Ct.eR x 10).2 (5321122323 / 10000000000000) := by
  obtain ⟨r1, t1, h1, ⟨s1⟩⟩ := way_step h (1 / 10000000000000) (9393939393939 / 10000000000000) (1 / 10000000000000) (9393935817659 / 10000000000000) (268221 / 500000000000) (2682211 / 10000000000000) (by decide +kernel) (by decide +kernel) (by decide +kernel) (by decide +kernel) (by decide +kernel) (by decide +kernel) (by decide +kernel) (by decide +kernel) (by decide +kernel) (by decide +kernel) (by decide +kernel) (by decide +kernel) (by decide +kernel)
  have l1 := near_step h s1 (Ct.eR_dbl (Ct.eR_shr hx 0)) (Ct.eR_shr hx 0) l (μ := 307637 / 5000000000000) (e' := 295043 / 500000000000) (by decide +kernel) (by decide +kernel) (by decide +kernel)
  obtain ⟨r2, t2, h2, ⟨s2⟩⟩ := way_step h1 (1 / 2500000000000) (1107142062333 / 1250000000000) (1 / 10000000000000) (8857128154009 / 10000000000000) (1490117 / 1000000000000) (342727 / 500000000000) (by decide +kernel) (by decide +kernel) (by decide +kernel) (by decide +kernel) (by decide +kernel) (by decide +kernel) (by decide +kernel) (by decide +kernel) (by decide +kernel) (by decide +kernel) (by decide +kernel) (by decide +kernel) (by decide +kernel)
  have l2 := near_step h1 s2 (Ct.eR_dbl (Ct.eR_shr hx 1)) (Ct.eR_shr hx 1) l1 (μ := 2855257 / 5000000000000) (e' := 2034009 / 1250000000000) (by decide +kernel) (by decide +kernel) (by decide +kernel)
  obtain ⟨r3, t3, h3, ⟨s3⟩⟩ := way_step h2 (13 / 5000000000000) (19871735663 / 25000000000) (1 / 2000000000000) (993584547973 / 1250000000000) (8493673 / 2500000000000) (7599601 / 5000000000000) (by decide +kernel) (by decide +kernel) (by decide +kernel) (by decide +kernel) (by decide +kernel) (by decide +kernel) (by decide +kernel) (by decide +kernel) (by decide +kernel) (by decide +kernel) (by decide +kernel) (by decide +kernel) (by decide +kernel)
  have l3 := near_step h2 s3 (Ct.eR_dbl (Ct.eR_shr hx 2)) (Ct.eR_shr hx 2) l2 (μ := 1682393 / 1000000000000) (e' := 925363 / 250000000000) (by decide +kernel) (by decide +kernel) (by decide +kernel)
  obtain ⟨r4, t4, h4, ⟨s4⟩⟩ := way_step h3 (73 / 5000000000000) (6595687442239 / 10000000000000) (3 / 1250000000000) (6595650487241 / 10000000000000) (140863 / 19531250000) (6377709 / 2000000000000) (by decide +kernel) (by decide +kernel) (by decide +kernel) (by decide +kernel) (by decide +kernel) (by decide +kernel) (by decide +kernel) (by decide +kernel) (by decide +kernel) (by decide +kernel) (by decide +kernel) (by decide +kernel) (by decide +kernel)
  have l4 := near_step h3 s4 (Ct.eR_dbl (Ct.eR_shr hx 3)) (Ct.eR_shr hx 3) l3 (μ := 21371289 / 5000000000000) (e' := 78499547 / 10000000000000) (by decide +kernel) (by decide +kernel) (by decide +kernel)
  obtain ⟨r5, t5, h5, ⟨s5⟩⟩ := way_step h4 (789 / 10000000000000) (2460265035973 / 5000000000000) (21 / 2000000000000) (4920454969463 / 10000000000000) (148416827 / 10000000000000) (4079207 / 625000000000) (by decide +kernel) (by decide +kernel) (by decide +kernel) (by decide +kernel) (by decide +kernel) (by decide +kernel) (by decide +kernel) (by decide +kernel) (by decide +kernel) (by decide +kernel) (by decide +kernel) (by decide +kernel) (by decide +kernel)
  have l5 := near_step h4 s5 (Ct.eR_dbl (Ct.eR_shr hx 4)) (Ct.eR_shr hx 4) l4 (μ := 54673801 / 5000000000000) (e' := 161470301 / 10000000000000) (by decide +kernel) (by decide +kernel) (by decide +kernel)
  obtain ⟨r6, t6, h6, ⟨s6⟩⟩ := way_step h5 (4477 / 10000000000000) (3262999619351 / 10000000000000) (11 / 250000000000) (3262848220053 / 10000000000000) (301010457 / 10000000000000) (132025181 / 10000000000000) (by decide +kernel) (by decide +kernel) (by decide +kernel) (by decide +kernel) (by decide +kernel) (by decide +kernel) (by decide +kernel) (by decide +kernel) (by decide +kernel) (by decide +kernel) (by decide +kernel) (by decide +kernel) (by decide +kernel)
  have l6 := near_step h5 s6 (Ct.eR_dbl (Ct.eR_shr hx 5)) (Ct.eR_shr hx 5) l5 (μ := 12065293 / 400000000000) (e' := 327415821 / 10000000000000) (by decide +kernel) (by decide +kernel) (by decide +kernel)
  obtain ⟨r7, t7, h7, ⟨s7⟩⟩ := way_step h6 (2777 / 1000000000000) (1949464438723 / 10000000000000) (9 / 50000000000) (487290108537 / 2500000000000) (60622101 / 1000000000000) (265542279 / 10000000000000) (by decide +kernel) (by decide +kernel) (by decide +kernel) (by decide +kernel) (by decide +kernel) (by decide +kernel) (by decide +kernel) (by decide +kernel) (by decide +kernel) (by decide +kernel) (by decide +kernel) (by decide +kernel) (by decide +kernel)
  have l7 := near_step h6 s7 (Ct.eR_dbl (Ct.eR_shr hx 6)) (Ct.eR_shr hx 6) l6 (μ := 18450779 / 200000000000) (e' := 164833049 / 2500000000000) (by decide +kernel) (by decide +kernel) (by decide +kernel)
  obtain ⟨r8, t8, h8, ⟨s8⟩⟩ := way_step h7 (37709 / 2000000000000) (539908525317 / 5000000000000) (7279 / 10000000000000) (1079207755119 / 10000000000000) (1216802891 / 10000000000000) (266290977 / 5000000000000) (by decide +kernel) (by decide +kernel) (by decide +kernel) (by decide +kernel) (by decide +kernel) (by decide +kernel) (by decide +kernel) (by decide +kernel) (by decide +kernel) (by decide +kernel) (by decide +kernel) (by decide +kernel) (by decide +kernel)
  have l8 := near_step h7 s8 (Ct.eR_dbl (Ct.eR_shr hx 7)) (Ct.eR_shr hx 7) l7 (μ := 777541191 / 2500000000000) (e' := 330834951 / 2500000000000) (by decide +kernel) (by decide +kernel) (by decide +kernel)
  obtain ⟨r9, t9, h9, ⟨s9⟩⟩ := way_step h8 (1371941 / 10000000000000) (570381906397 / 10000000000000) (183 / 62500000000) (569161437303 / 10000000000000) (2439150049 / 10000000000000) (213336661 / 2000000000000) (by decide +kernel) (by decide +kernel) (by decide +kernel) (by decide +kernel) (by decide +kernel) (by decide +kernel) (by decide +kernel) (by decide +kernel) (by decide +kernel) (by decide +kernel) (by decide +kernel) (by decide +kernel) (by decide +kernel)
  have l9 := near_step h8 s9 (Ct.eR_dbl (Ct.eR_shr hx 8)) (Ct.eR_shr hx 8) l8 (μ := 11274964299 / 10000000000000) (e' := 1326321009 / 5000000000000) (by decide +kernel) (by decide +kernel) (by decide +kernel)
  obtain ⟨r10, t10, h10, ⟨s10⟩⟩ := way_end h9 (2090603 / 2000000000000) (146458279571 / 5000000000000) (29363 / 2500000000000) (290469202353 / 10000000000000) (4892925439 / 10000000000000) (2134974179 / 10000000000000) (by decide +kernel) (by decide +kernel) (by decide +kernel) (by decide +kernel) (by decide +kernel) (by decide +kernel) (by decide +kernel) (by decide +kernel) (by decide +kernel)
  have l10 := near_step h9 s10 (Ct.eR_dbl (Ct.eR_shr hx 9)) (Ct.eR_shr hx 9) l9 (μ := 42855153023 / 10000000000000) (e' := 5321122323 / 10000000000000) (by decide +kernel) (by decide +kernel) (by decide +kernel)
  exact ⟨r10, t10, h10, l10⟩
/-- Ten doublings of a layer that reflects a sixteenth at the most. -/
theorem trk_twice {p : Option Nat × Option Nat} {r t : Rat} (h : Way p r t (15 / 16) (1 / 16777216) (1 / 16777216)) {x : Rat × Rat} (hx : Ct.Shr x.1 x.2) (l : Ct.L1 r t x.1 x.2 (12 / 10 / 16777216)) : ∃ R T, End (dblN p 10) R T (141051589473 / 10000000000000) (490700311 / 1000000000000) (2134974179 / 10000000000000) ∧ Ct.L1 R T (Ct.eR x 10).1 (Ct.eR x 10).2 (1067286503 / 2000000000000) := by
  obtain ⟨r1, t1, h1, ⟨s1⟩⟩ := way_step h (1 / 10000000000000) (2205882352941 / 2500000000000) (1 / 10000000000000) (2205881458871 / 2500000000000) (268221 / 500000000000) (2682211 / 10000000000000) (by decide +kernel) (by decide +kernel) (by decide +kernel) (by decide +kernel) (by decide +kernel) (by decide +kernel) (by decide +kernel) (by decide +kernel) (by decide +kernel) (by decide +kernel) (by decide +kernel) (by decide +kernel) (by decide +kernel)
  have l1 := near_step h s1 (Ct.eR_dbl (Ct.eR_shr hx 0)) (Ct.eR_shr hx 0) l (μ := 635783 / 10000000000000) (e' := 295043 / 500000000000) (by decide +kernel) (by decide +kernel) (by decide +kernel)
  obtain ⟨r2, t2, h2, ⟨s2⟩⟩ := way_step h1 (1 / 2500000000000) (1578946223219 / 2000000000000) (1 / 10000000000000) (98684034643 / 125000000000) (1490117 / 1000000000000) (342727 / 500000000000) (by decide +kernel) (by decide +kernel) (by decide +kernel) (by decide +kernel) (by decide +kernel) (by decide +kernel) (by decide +kernel) (by decide +kernel) (by decide +kernel) (by decide +kernel) (by decide +kernel) (by decide +kernel) (by decide +kernel)
  have l2 := near_step h1 s2 (Ct.eR_dbl (Ct.eR_shr hx 1)) (Ct.eR_shr hx 1) l1 (μ := 6079679 / 10000000000000) (e' := 2034009 / 1250000000000) (by decide +kernel) (by decide +kernel) (by decide +kernel)
  obtain ⟨r3, t3, h3, ⟨s3⟩⟩ := way_step h2 (29 / 10000000000000) (6521719926259 / 10000000000000) (1 / 2000000000000) (3260851022421 / 5000000000000) (6794939 / 2000000000000) (7599601 / 5000000000000) (by decide +kernel) (by decide +kernel) (by decide +kernel) (by decide +kernel) (by decide +kernel) (by decide +kernel) (by decide +kernel) (by decide +kernel) (by decide +kernel) (by decide +kernel) (by decide +kernel) (by decide +kernel) (by decide +kernel)
  have l3 := near_step h2 s3 (Ct.eR_dbl (Ct.eR_shr hx 2)) (Ct.eR_shr hx 2) l2 (μ := 18874849 / 10000000000000) (e' := 9253631 / 2500000000000) (by decide +kernel) (by decide +kernel) (by decide +kernel)
  obtain ⟨r4, t4, h4, ⟨s4⟩⟩ := way_step h3 (177 / 10000000000000) (604833606081 / 1250000000000) (3 / 1250000000000) (37801811669 / 78125000000) (72121893 / 10000000000000) (6377709 / 2000000000000) (by decide +kernel) (by decide +kernel) (by decide +kernel) (by decide +kernel) (by decide +kernel) (by decide +kernel) (by decide +kernel) (by decide +kernel) (by decide +kernel) (by decide +kernel) (by decide +kernel) (by decide +kernel) (by decide +kernel)
  have l4 := near_step h3 s4 (Ct.eR_dbl (Ct.eR_shr hx 3)) (Ct.eR_shr hx 3) l3 (μ := 52094829 / 10000000000000) (e' := 7849959 / 1000000000000) (by decide +kernel) (by decide +kernel) (by decide +kernel)
  obtain ⟨r5, t5, h5, ⟨s5⟩⟩ := way_step h4 (269 / 2500000000000) (398927710521 / 1250000000000) (21 / 2000000000000) (779137349 / 2441406250) (37104297 / 2500000000000) (4079207 / 625000000000) (by decide +kernel) (by decide +kernel) (by decide +kernel) (by decide +kernel) (by decide +kernel) (by decide +kernel) (by decide +kernel) (by decide +kernel) (by decide +kernel) (by decide +kernel) (by decide +kernel) (by decide +kernel) (by decide +kernel)
  have l5 := near_step h4 s5 (Ct.eR_dbl (Ct.eR_shr hx 4)) (Ct.eR_shr hx 4) l4 (μ := 149054309 / 10000000000000) (e' := 161470699 / 10000000000000) (by decide +kernel) (by decide +kernel) (by decide +kernel)
  obtain ⟨r6, t6, h6, ⟨s6⟩⟩ := way_step h5 (6903 / 10000000000000) (94931655203 / 500000000000) (11 / 250000000000) (474620425797 / 2500000000000) (60202721 / 2000000000000) (132025181 / 10000000000000) (by decide +kernel) (by decide +kernel) (by decide +kernel) (by decide +kernel) (by decide +kernel) (by decide +kernel) (by decide +kernel) (by decide +kernel) (by decide +kernel) (by decide +kernel) (by decide +kernel) (by decide +kernel) (by decide +kernel)
  have l6 := near_step h5 s6 (Ct.eR_dbl (Ct.eR_shr hx 5)) (Ct.eR_shr hx 5) l5 (μ := 465061329 / 10000000000000) (e' := 40927407 / 1250000000000) (by decide +kernel) (by decide +kernel) (by decide +kernel)
  obtain ⟨r7, t7, h7, ⟨s7⟩⟩ := way_step h6 (2983 / 625000000000) (1048796941813 / 10000000000000) (9 / 50000000000) (1048492924111 / 10000000000000) (18945227 / 312500000000) (265542279 / 10000000000000) (by decide +kernel) (by decide +kernel) (by decide +kernel) (by decide +kernel) (by decide +kernel) (by decide +kernel) (by decide +kernel) (by decide +kernel) (by decide +kernel) (by decide +kernel) (by decide +kernel) (by decide +kernel) (by decide +kernel)
  have l7 := near_step h6 s7 (Ct.eR_dbl (Ct.eR_shr hx 6)) (Ct.eR_shr hx 6) l6 (μ := 31710983 / 200000000000) (e' := 26374431 / 400000000000) (by decide +kernel) (by decide +kernel) (by decide +kernel)
  obtain ⟨r8, t8, h8, ⟨s8⟩⟩ := way_step h7 (175269 / 5000000000000) (138312604891 / 2500000000000) (7279 / 10000000000000) (276320508399 / 5000000000000) (76063587 / 625000000000) (266290977 / 5000000000000) (by decide +kernel) (by decide +kernel) (by decide +kernel) (by decide +kernel) (by decide +kernel) (by decide +kernel) (by decide +kernel) (by decide +kernel) (by decide +kernel) (by decide +kernel) (by decide +kernel) (by decide +kernel) (by decide +kernel)
  have l8 := near_step h7 s8 (Ct.eR_dbl (Ct.eR_shr hx 7)) (Ct.eR_shr hx 7) l7 (μ := 115641651 / 200000000000) (e' := 1323573147 / 10000000000000) (by decide +kernel) (by decide +kernel) (by decide +kernel)
  obtain ⟨r9, t9, h9, ⟨s9⟩⟩ := way_step h8 (2680097 / 10000000000000) (8880399539 / 312500000000) (183 / 62500000000) (11318057903 / 400000000000) (2440887207 / 10000000000000) (213336661 / 2000000000000) (by decide +kernel) (by decide +kernel) (by decide +kernel) (by decide +kernel) (by decide +kernel) (by decide +kernel) (by decide +kernel) (by decide +kernel) (by decide +kernel) (by decide +kernel) (by decide +kernel) (by decide +kernel) (by decide +kernel)
  have l9 := near_step h8 s9 (Ct.eR_dbl (Ct.eR_shr hx 8)) (Ct.eR_shr hx 8) l8 (μ := 4404368677 / 2000000000000) (e' := 530906279 / 2000000000000) (by decide +kernel) (by decide +kernel) (by decide +kernel)
  obtain ⟨r10, t10, h10, ⟨s10⟩⟩ := way_end h9 (2105637 / 1000000000000) (71752992549 / 5000000000000) (29363 / 2500000000000) (141051589473 / 10000000000000) (490700311 / 1000000000000) (2134974179 / 10000000000000) (by decide +kernel) (by decide +kernel) (by decide +kernel) (by decide +kernel) (by decide +kernel) (by decide +kernel) (by decide +kernel) (by decide +kernel) (by decide +kernel)
  have l10 := near_step h9 s10 (Ct.eR_dbl (Ct.eR_shr hx 9)) (Ct.eR_shr hx 9) l9 (μ := 43132615647 / 5000000000000) (e' := 1067286503 / 2000000000000) (by decide +kernel) (by decide +kernel) (by decide +kernel)
  exact ⟨r10, t10, h10, l10⟩
end Go.Proofs.YtnfnlgmnnjgemaaGreatDoor

namespace Go.Proofs.YtnfnlgmnnjgemaaGreatDoor
open Go.RowKit
set_option maxRecDepth 100000

/-- What a 1024th of a layer of n eighths loses, and scatters. -/
def kX (K : Nat → Rat) (n i : Nat) : Rat := K i * ((n : Rat) * (1 / 8192))
theorem thn_of {a : Nat → Option Nat} {K S : Nat → Rat} {n : Nat} (h : Lay a K S n) (hn : n ≤ 32) {i : Nat} (hi : i < 16) : Ct.Thn (kX K n i) (kX S n i) := by
  obtain ⟨_, k0, k1⟩ := h.k i hi
  obtain ⟨_, s0, s8⟩ := h.s i hi
  have n0 : (0 : Rat) ≤ (n : Rat) := Rat.natCast_nonneg
  have n1 : (n : Rat) ≤ 32 := by have := cast_le hn; simpa using this
  have x0 : 0 ≤ (n : Rat) * (1 / 8192) := by grind
  have a1 := Rat.mul_nonneg k0 x0
  have a2 := Rat.mul_nonneg (show 0 ≤ 1 - K i by grind) x0
  have a3 := Rat.mul_nonneg s0 x0
  have a4 := Rat.mul_nonneg (show 0 ≤ 8 - S i by grind) x0
  unfold kX
  exact ⟨a1, by grind, a3, by grind⟩
/-- The thin film in floats, near the exact one. -/
theorem thin_near {k s x : Option Nat} {K S X r t : Rat} (h : Thin k s x K S X r t) (hS : S * X ≤ 1 / 16) (hS0 : 0 ≤ S * X) : Ct.L1 r t (S * X) (1 - K * X - S * X) (12 / 10 / 16777216) := by
  have em : p2 (-4) = 1 / 16 ∧ p2 (-4 - 24) = 1 / 268435456 := by decide +kernel
  have g := h.rS.gap (-4) (by decide) (by decide) (by rw [em.1]; exact hS) (by rw [em.1]; grind)
  rw [em.2] at g
  have a := h.hi
  have b := h.lo
  exact ⟨by grind, by grind, by grind, by grind⟩
/-- A film that is made, near the exact one. -/
structure MadeN (f : Nat → Option Nat) (R T : Nat → Rat) (x : Nat → Rat × Rat) (c : Rat) : Prop where
  m : Made f R T c
  n : ∀ i, i < 16 → Ct.L1 (R i) (T i) (x i).1 (x i).2 (534 / 1000000)
theorem film_near {a : Nat → Option Nat} {K S : Nat → Rat} {n : Nat} (h : Lay a K S n) (hn : n ≤ 64) : filmMade a = (filmAt a, 0) ∧ ∃ R T, MadeN (filmAt a) R T (fun i => Ct.eR (Ct.thA (kX K n i) (kX S n i)) 10) (if n ≤ 32 then 29 / 1000 else 141 / 10000) := by
  have ix := thinX_is (n := n) (by omega) h.x
  have n0 : (0 : Rat) ≤ (n : Rat) := Rat.natCast_nonneg
  have n1 : (n : Rat) ≤ 64 := by have := cast_le hn; simpa using this
  obtain ⟨q4, q16, q32⟩ := rep_quarter
  have key : ∀ i, ∃ R T, i < 16 → tooStrong (a i) (a (16 + i)) (thinX (a 32)) = false ∧ Is .f32 (dblN (thin (a i) (a (16 + i)) (thinX (a 32))) 10).1 R ∧ Is .f32 (dblN (thin (a i) (a (16 + i)) (thinX (a 32))) 10).2 T ∧ 0 ≤ R ∧ R ≤ 1 - (if n ≤ 32 then 29 / 1000 else 141 / 10000) ∧ 0 ≤ T ∧ T ≤ 1 ∧ R + T ≤ 1 + 51 / 100000 ∧ (R < 1 / 32 → R + T ≤ 1 + 22 / 100000) ∧ Ct.L1 R T (Ct.eR (Ct.thA (kX K n i) (kX S n i)) 10).1 (Ct.eR (Ct.thA (kX K n i) (kX S n i)) 10).2 (534 / 1000000) := by
    intro i
    by_cases hi : i < 16
    · obtain ⟨ik, k0, k1⟩ := h.k i hi
      obtain ⟨is, s0, s8⟩ := h.s i hi
      obtain ⟨r, t, ht⟩ := thin_is ik is ix k0 k1 s0 s8 (by grind) (by grind)
      have x0 : 0 ≤ (n : Rat) * (1 / 8192) := by grind
      have a1 := Rat.mul_nonneg k0 x0
      have a2 := Rat.mul_nonneg (show 0 ≤ 1 - K i by grind) x0
      have a3 := Rat.mul_nonneg s0 x0
      have a4 := Rat.mul_nonneg (show 0 ≤ 8 - S i by grind) x0
      have l := thin_near ht (by grind) a3
      have hx : Ct.Shr (Ct.thA (kX K n i) (kX S n i)).1 (Ct.thA (kX K n i) (kX S n i)).2 := by
        unfold kX Ct.thA
        exact ⟨a3, by show S i * _ < 1; grind, by show 0 < 1 - K i * _ - S i * _; grind, by show S i * _ + (1 - K i * _ - S i * _) ≤ 1; grind⟩
      by_cases hn32 : n ≤ 32
      · have n2 : (n : Rat) ≤ 32 := by have := cast_le hn32; simpa using this
        have m := Rat.mul_nonneg (show 0 ≤ 8 - S i by grind) (show 0 ≤ (n : Rat) * (1 / 8192) by grind)
        have hr := ht.rS.up _ q32 (by grind)
        obtain ⟨R, T, e, e2⟩ := trk_thin (thin_way ht (31 / 32) (by grind) (by grind)) hx l
        refine ⟨R, T, fun _ => ⟨ht.ok, e.ir, e.it, e.r0, ?_, e.t0, e.t1, ?_, ?_, e2.mono (by decide +kernel)⟩⟩
        · rw [if_pos hn32]; have := e.rc; grind
        · have := e.sum; grind
        · intro h; have := e.sm h; grind
      · have m := Rat.mul_nonneg (show 0 ≤ 8 - S i by grind) (show 0 ≤ (n : Rat) * (1 / 8192) by grind)
        have hr := ht.rS.up _ q16 (by grind)
        obtain ⟨R, T, e, e2⟩ := trk_twice (thin_way ht (15 / 16) (by grind) (by grind)) hx l
        refine ⟨R, T, fun _ => ⟨ht.ok, e.ir, e.it, e.r0, ?_, e.t0, e.t1, ?_, ?_, e2.mono (by decide +kernel)⟩⟩
        · rw [if_neg hn32]; have := e.rc; grind
        · have := e.sum; grind
        · intro h; have := e.sm h; grind
    · exact ⟨0, 0, fun h => absurd h hi⟩
  have key2 : ∃ R T : Nat → Rat, ∀ i, i < 16 → tooStrong (a i) (a (16 + i)) (thinX (a 32)) = false ∧ Is .f32 (dblN (thin (a i) (a (16 + i)) (thinX (a 32))) 10).1 (R i) ∧ Is .f32 (dblN (thin (a i) (a (16 + i)) (thinX (a 32))) 10).2 (T i) ∧ 0 ≤ R i ∧ R i ≤ 1 - (if n ≤ 32 then 29 / 1000 else 141 / 10000) ∧ 0 ≤ T i ∧ T i ≤ 1 ∧ R i + T i ≤ 1 + 51 / 100000 ∧ (R i < 1 / 32 → R i + T i ≤ 1 + 22 / 100000) ∧ Ct.L1 (R i) (T i) (Ct.eR (Ct.thA (kX K n i) (kX S n i)) 10).1 (Ct.eR (Ct.thA (kX K n i) (kX S n i)) 10).2 (534 / 1000000) :=
    ⟨fun i => (key i).choose, fun i => (key i).choose_spec.choose, fun i hi => (key i).choose_spec.choose_spec hi⟩
  obtain ⟨R, T, hRT⟩ := key2
  have f1 : ∀ i, i < 16 → Is .f32 (filmAt a i) (R i) := fun i hi => by unfold filmAt; rw [if_pos hi]; exact (hRT i hi).2.1
  have f2 : ∀ i, i < 16 → Is .f32 (filmAt a (16 + i)) (R i) := fun i hi => by
    unfold filmAt
    rw [if_neg (by omega), if_pos (by omega), show 16 + i - 16 = i by omega]
    exact (hRT i hi).2.1
  have f3 : ∀ i, i < 16 → Is .f32 (filmAt a (32 + i)) (T i) := fun i hi => by
    unfold filmAt
    rw [if_neg (by omega), if_neg (by omega), show 32 + i - 32 = i by omega, show 32 + i - 16 = 16 + i by omega]
    exact (hRT i hi).2.2.1
  constructor
  · unfold filmMade finFilmRes
    rw [if_pos (allTo_true fun i hi => by rw [(hRT i hi).1]; rfl), if_pos]
    unfold finFilm
    rw [Bool.and_eq_true, Bool.and_eq_true]
    exact ⟨⟨allTo_true fun i hi => fin_is.2 ⟨_, f1 i hi⟩, allTo_true fun i hi => fin_is.2 ⟨_, f2 i hi⟩⟩, allTo_true fun i hi => fin_is.2 ⟨_, f3 i hi⟩⟩
  · refine ⟨R, T, ⟨fun i hi => ⟨f1 i hi, f2 i hi, f3 i hi⟩, fun i hi => ?_, fun i hi => ?_, fun i hi => ?_, fun i hi => ?_, fun i hi => ?_, fun i hi b hb => ?_⟩, fun i hi => ?_⟩
    · obtain ⟨_, _, _, a, b, _⟩ := hRT i hi; exact ⟨a, b⟩
    · obtain ⟨_, _, _, _, _, a, b, _⟩ := hRT i hi; exact ⟨a, b⟩
    · exact (hRT i hi).2.2.2.2.2.2.2.1
    · exact (hRT i hi).2.2.2.2.2.2.2.2.1
    · unfold filmAt
      rw [if_neg (by omega), if_pos (by omega), if_pos hi, show 16 + i - 16 = i by omega]
    · unfold filmAt at hb
      rw [if_pos hi] at hb
      have : fadd (dblN (thin (a i) (a (16 + i)) (thinX (a 32))) 9).1 (fdiv (fmul (fmul (dblN (thin (a i) (a (16 + i)) (thinX (a 32))) 9).2 (dblN (thin (a i) (a (16 + i)) (thinX (a 32))) 9).2) (dblN (thin (a i) (a (16 + i)) (thinX (a 32))) 9).1) (dblD (dblN (thin (a i) (a (16 + i)) (thinX (a 32))) 9).1)) = some b := hb
      exact cop_lt this
    · exact (hRT i hi).2.2.2.2.2.2.2.2.2
/-! ### Two films, one on the other -/
/-- The sum of a film with itself: what it is made of. -/
theorem sum_self {p q : Nat → Option Nat} {R T : Rat} {i : Nat} (hi : i < 16) (p0 : Is .f32 (p i) R) (p1 : Is .f32 (p (16 + i)) R) (p2 : Is .f32 (p (32 + i)) T) (q0 : Is .f32 (q i) R) (q1 : Is .f32 (q (16 + i)) R) (q2 : Is .f32 (q (32 + i)) T) (R0 : 0 ≤ R) (R1 : R ≤ 1 - 29 / 1000) (T0 : 0 ≤ T) (T1 : T ≤ 1) (hs : R + T ≤ 1 + 51 / 100000) :
    gapOk (p (16 + i)) (q i) = true ∧ ∃ A v w b, A * (1 - R * R) = T * T ∧ Cap (addAt p q i) v (R * (1 + A)) ∧ Cap (addAt p q (16 + i)) b (R * (1 + A)) ∧ Cap (addAt p q (32 + i)) w A := by
  have rr := Rat.mul_nonneg R0 R0
  have rr1 := Rat.mul_nonneg R0 (show 0 ≤ 1 - R by grind)
  have D0 : 29 / 1000 ≤ 1 - R * R := by grind
  obtain ⟨A, hA⟩ := Ct.quo (T * T) (show 0 < 1 - R * R by grind)
  have A0 := Ct.quo_nn hA (by grind) (Rat.mul_nonneg T0 T0)
  have A2 : A ≤ 2 := by
    refine Ct.quo_le hA (by grind) ?_
    have a1 := Rat.mul_nonneg (show 0 ≤ 1 - R + 51 / 100000 - T by grind) (show 0 ≤ 1 - R + 51 / 100000 + T by grind)
    grind
  have ra := Rat.mul_nonneg R0 A0
  have ra1 := Rat.mul_nonneg (show 0 ≤ 1 - R by grind) A0
  obtain ⟨d, id, h3, h4⟩ := gap_is p1 q0 R0 (by grind) R0 (by grind)
  have hQ : R * A * (1 - R * R) = T * T * R := by rw [← hA]; grind
  obtain ⟨v, hv⟩ := r_cap p0 p2 q0 id R0 (by grind) T0 T1 R0 (by grind) h3 h4 (by grind) hQ (by grind)
  obtain ⟨b, hb⟩ := r_cap q1 q2 p1 id R0 (by grind) T0 T1 R0 (by grind) h3 h4 (by grind) hQ (by grind)
  obtain ⟨w, hw⟩ := t_cap p2 q2 id T0 T1 T0 T1 h3 h4 (by grind) hA (by grind)
  have e : R + R * A = R * (1 + A) := by grind
  rw [e] at hv hb
  rw [add_at0 hi, add_at1 hi, add_at2 hi]
  exact ⟨gapOk_of p1 q0 R0 (by grind) R0 (by grind) (by grind), A, v, w, b, hA, hv, hb, hw⟩
/-- A number that is capped, near one that is at most 1. -/
theorem Cap.to {x : Option Nat} {v Q y e : Rat} (h : Cap x v Q) (h1 : Q ≤ y + e) (h2 : y ≤ Q + e) (y1 : y ≤ 1) : v ≤ y + e + 1 / 32768 ∧ y ≤ v + e + 1 / 32768 := by
  have u := h.up
  by_cases hv : v < 1
  · have := h.dn hv; constructor <;> grind
  · constructor <;> grind
/-- Two coats in floats, near two coats exactly. -/
theorem two_coats {R T x y x' y' A v w : Rat} {a b : Option Nat} (d : Ct.Dbl x y x' y') (h : Ct.Shr x y) (R0 : 0 ≤ R) (R1 : R ≤ 1 - 29 / 1000) (T0 : 0 ≤ T) (hs : R + T ≤ 1 + 51 / 100000) (hA : A * (1 - R * R) = T * T) (hv : Cap a v (R * (1 + A))) (hw : Cap b w A) (l : Ct.L1 R T x y (534 / 1000000)) :
    (v ≤ x' + 1109 / 1000000 ∧ x' ≤ v + 1109 / 1000000) ∧ (w ≤ y' + 1109 / 1000000 ∧ y' ≤ w + 1109 / 1000000) := by
  have h' := d.shr h
  obtain ⟨b1, b2, b3, b4⟩ := Ct.l1_step d h R0 (by grind) T0 (μ := 18 / 1000) (by grind) (by grind) hA l
  obtain ⟨x0, x1, y0, s⟩ := h'
  have k1 := hv.to (y := x') (e := 1078 / 1000000) (by grind) (by grind) (by grind)
  have k2 := hw.to (y := y') (e := 1078 / 1000000) (by grind) (by grind) (by grind)
  constructor <;> constructor <;> grind
end Go.Proofs.YtnfnlgmnnjgemaaGreatDoor

namespace Go.Proofs.YtnfnlgmnnjgemaaGreatDoor
open Go.RowKit
set_option maxRecDepth 100000

/-- A root of a float32 that may be great. -/
theorem froot_big {x : Option Nat} {v : Rat} (hx : Is .f32 x v) (h0 : 0 ≤ v) (h1 : v ≤ 281474976710656) : ∃ w R, Is .f32 (froot x) R ∧ Rt Ieee.double v w ∧ Rnd Ieee.single w R ∧ 0 ≤ w ∧ w ≤ 16777216 := by
  have h2 := is_widen hx
  obtain ⟨w, iw, rw'⟩ := is_root h2 h0
  have e22 : p2 24 = 16777216 := by decide +kernel
  have hw : w ≤ 16777216 := rw'.up _ (by rw [← e22]; exact rep64_p2 24 (by decide) (by decide)) (by decide) (by grind)
  have p127 : (16777216 : Rat) ≤ p2 127 := by have := p2_mono (show (24 : Int) ≤ 127 by decide); grind
  have hp := rw'.pos
  obtain ⟨R, iR, rR⟩ := is_conv (d := .f32) (by decide) iw (fit32 (by grind) (by grind))
  exact ⟨w, R, iR, rw', rR, hp, hw⟩
theorem root_rel {v w : Rat} (h : Rt Ieee.double v w) (v0 : 0 ≤ v) (w3 : w ≤ 16777216) : w * w ≤ v + v * (1 / 1000000000000) + 1 / 10000000000 ∧ v ≤ w * w + w * w * (1 / 1000000000000) + 1 / 10000000000 := by
  obtain ⟨a1, a2⟩ := root_near h
  obtain ⟨t1, t2⟩ := small64
  have u1 := p2_pos (-52)
  have u2 := p2_pos (-1074)
  have w0 := h.pos
  have p1000 : (16777216 : Rat) ≤ p2 1000 := by have := p2_mono (show (24 : Int) ≤ 1000 by decide); have e12 : p2 24 = 16777216 := (by decide +kernel); grind
  have ww := Rat.mul_nonneg w0 w0
  have w4 := Rat.mul_nonneg w0 (show 0 ≤ 16777216 - w by grind)
  constructor
  · rcases a2 with a2 | ⟨c, c0, c1, c2⟩
    · subst a2; grind
    · by_cases hcw : w ≤ c
      · have := sq_le hcw (by grind); grind
      · have k1 := Rat.mul_nonneg c0 (show 0 ≤ 1 / 4000000000000000 - p2 (-52) by grind)
        have k2 : w ≤ c + c * (1 / 4000000000000000) + 1 / 1000000000000000000 := by grind
        have k3 := sq_le k2 (by grind)
        have k4 := Rat.mul_nonneg c0 (show 0 ≤ 16777216 - c by grind)
        grind
  · rcases a1 with a1 | a1
    · have k1 := Rat.mul_nonneg w0 (show 0 ≤ 1 / 4000000000000000 - p2 (-52) by grind)
      have k0 := Rat.mul_nonneg w0 (Rat.le_of_lt u1)
      have k2 : w + w * p2 (-52) + p2 (-1074) ≤ w + w * (1 / 4000000000000000) + 1 / 1000000000000000000 := by grind
      have k3 := sq_le k2 (by grind)
      grind
    · exact absurd (show w ≤ p2 1000 by grind) a1
/-! The errors, each on its own. The unit is 1 / 8388608. -/
theorem th_A {q qt : Rat} (q0 : 0 ≤ q) (q1 : q ≤ 4194304) (h0 : 0 ≤ qt) (h1 : qt ≤ q + q * (1 / 8388608) + 1 / 100000000000000000000) (h2 : q ≤ qt + q * (1 / 8388608) + 1 / 100000000000000000000) :
    qt * qt + 2 * qt ≤ (q * q + 2 * q) + (q * q + 2 * q) * (201 / 100 / 8388608) + 1 / 1000000000 ∧ q * q + 2 * q ≤ (qt * qt + 2 * qt) + (q * q + 2 * q) * (201 / 100 / 8388608) + 1 / 1000000000 := by
  have a := Rat.mul_nonneg q0 q0
  have b := Rat.mul_nonneg q0 (show 0 ≤ 4194304 - q by grind)
  constructor
  · have := sq_le h1 (by grind); grind
  · by_cases h : 0 ≤ q - q * (1 / 8388608) - 1 / 100000000000000000000
    · have := sq_le (show q - q * (1 / 8388608) - 1 / 100000000000000000000 ≤ qt by grind) (by grind); grind
    · have c := Rat.mul_nonneg h0 h0
      have : q ≤ 1 / 10000000000000000000 := by grind
      have d := sq_le this (by grind)
      grind
theorem th_B {T m1 m2 s a b : Rat} (ha : 0 ≤ a) (hb : 0 ≤ b) (hT : T = a + b) (g1 : m1 ≤ a + a * (1 / 8388608) + 1 / 100000000000000000000) (g2 : a ≤ m1 + a * (1 / 8388608) + 1 / 100000000000000000000) (g3 : m2 ≤ b + b * (1 / 8388608) + 1 / 100000000000000000000) (g4 : b ≤ m2 + b * (1 / 8388608) + 1 / 100000000000000000000)
    (g5 : s ≤ (m1 + m2) + (m1 + m2) * (1 / 8388608) + 1 / 100000000000000000000) (g6 : m1 + m2 ≤ s + (m1 + m2) * (1 / 8388608) + 1 / 100000000000000000000) :
    s ≤ T + T * (201 / 100 / 8388608) + 1 / 1000000000 ∧ T ≤ s + T * (201 / 100 / 8388608) + 1 / 1000000000 := by
  subst hT
  constructor <;> grind
theorem th_C {w R : Rat} (w0 : 0 ≤ w) (w1 : w ≤ 16777216) (R0 : 0 ≤ R) (h1 : R ≤ w + w * (1 / 8388608) + 1 / 100000000000000000000) (h2 : w ≤ R + w * (1 / 8388608) + 1 / 100000000000000000000) :
    R * R ≤ w * w + w * w * (201 / 100 / 8388608) + 1 / 1000000000 ∧ w * w ≤ R * R + w * w * (201 / 100 / 8388608) + 1 / 1000000000 := by
  have a := Rat.mul_nonneg w0 w0
  have b := Rat.mul_nonneg w0 (show 0 ≤ 16777216 - w by grind)
  constructor
  · have := sq_le h1 (by grind); grind
  · by_cases h : 0 ≤ w - w * (1 / 8388608) - 1 / 100000000000000000000
    · have := sq_le (show w - w * (1 / 8388608) - 1 / 100000000000000000000 ≤ R by grind) (by grind); grind
    · have c := Rat.mul_nonneg R0 R0
      have : w ≤ 1 / 10000000000000000000 := by grind
      have d := sq_le this (by grind)
      grind
/-- What is left of the equation. -/
theorem th_F {q S R c x : Rat} (q0 : 0 ≤ q) (hS : S = q * q + 2 * q) (R0 : 0 ≤ R) (k1 : R * R ≤ S + S * (7 / 8388608) + 1 / 100000000) (k2 : S ≤ R * R + S * (7 / 8388608) + 1 / 100000000) (c1 : c ≤ (1 + q) + (1 + q) * (21 / 10 / 8388608)) (c2 : 1 + q ≤ c + (1 + q) * (21 / 10 / 8388608))
    (x1 : x ≤ (c + R) + (c + R) * (101 / 100 / 8388608)) (x2 : c + R ≤ x + (c + R) * (101 / 100 / 8388608)) :
    x * x - 2 * (1 + q) * x + 1 ≤ (1 + q) * (1 + q) * (16 / 8388608) ∧ -(x * x - 2 * (1 + q) * x + 1) ≤ (1 + q) * (1 + q) * (16 / 8388608) ∧ 1 + q ≤ x + x * (1 / 1000) := by
  have a := Rat.mul_nonneg q0 q0
  have hP : (1 + q) * (1 + q) = S + 1 := by grind
  have RP : R ≤ 1001 / 1000 * (1 + q) := by
    apply le_of_sq (by grind)
    grind
  obtain ⟨d, hd⟩ : ∃ d, d = x - (1 + q) - R := ⟨_, rfl⟩
  have d1 : d ≤ (1 + q) * (42 / 10 / 8388608) := by grind
  have d2 : -d ≤ (1 + q) * (42 / 10 / 8388608) := by grind
  have e : x * x - 2 * (1 + q) * x + 1 = (R * R - S) + (2 * (R * d) + d * d) := by
    have : x = d + (1 + q) + R := by grind
    rw [this, hS]
    grind
  have m1 := Rat.mul_nonneg R0 (show 0 ≤ (1 + q) * (42 / 10 / 8388608) - d by grind)
  have m2 := Rat.mul_nonneg R0 (show 0 ≤ (1 + q) * (42 / 10 / 8388608) + d by grind)
  have m3 := Rat.mul_nonneg (show 0 ≤ 1001 / 1000 * (1 + q) - R by grind) (show 0 ≤ 1 + q by grind)
  have m4 := sq_le d1 (by grind)
  have m5 : 0 ≤ d * d := by
    rcases Rat.le_total (a := 0) (b := d) with h | h
    · exact Rat.mul_nonneg h h
    · have := Rat.mul_nonneg (show 0 ≤ -d by grind) (show 0 ≤ -d by grind); grind
  have hx : 1 + q ≤ x + x * (1 / 1000) := by grind
  rw [e]
  clear e hd x1 x2 c1 c2
  exact ⟨by grind, by grind, hx⟩
theorem th_N {q x b : Rat} (q0 : 0 ≤ q) (x0 : 1 ≤ x) (f1 : x * x - 2 * (1 + q) * x + 1 ≤ (1 + q) * (1 + q) * (16 / 8388608)) (f2 : -(x * x - 2 * (1 + q) * x + 1) ≤ (1 + q) * (1 + q) * (16 / 8388608)) (hx : 1 + q ≤ x + x * (1 / 1000)) (z1 : b * x ≤ 1 + 101 / 100 / 8388608) (z2 : 1 ≤ b * x + 101 / 100 / 8388608) :
    (1 - b) * (1 - b) ≤ 2 * (q * b) + 1 / 200000 ∧ 2 * (q * b) ≤ (1 - b) * (1 - b) + 1 / 200000 := by
  obtain ⟨z, hz⟩ : ∃ z, z = b * x - 1 := ⟨_, rfl⟩
  have xx := Rat.mul_nonneg (show 0 ≤ x - 1 by grind) (show 0 ≤ x by grind)
  have px : 0 < x * x := Rat.mul_pos (by grind) (by grind)
  have m1 := sq_le hx (by grind)
  have m2 := Rat.mul_nonneg (Rat.mul_nonneg (show 0 ≤ 1 + q by grind) (show 0 ≤ x by grind)) (show 0 ≤ 101 / 100 / 8388608 - z by grind)
  have m3 := Rat.mul_nonneg (Rat.mul_nonneg (show 0 ≤ 1 + q by grind) (show 0 ≤ x by grind)) (show 0 ≤ 101 / 100 / 8388608 + z by grind)
  have m4 := Rat.mul_nonneg (show 0 ≤ x + x * (1 / 1000) - (1 + q) by grind) (show 0 ≤ x by grind)
  have m5 := sq_le (show z ≤ 101 / 100 / 8388608 by grind) (by grind)
  have z3 : z ≤ 101 / 100 / 8388608 := by grind
  have z4 : -z ≤ 101 / 100 / 8388608 := by grind
  have m6 : 0 ≤ z * z := by
    rcases Rat.le_total (a := 0) (b := z) with h | h
    · exact Rat.mul_nonneg h h
    · have := Rat.mul_nonneg (show 0 ≤ -z by grind) (show 0 ≤ -z by grind); grind
  have e : (1 - 2 * (1 + q) * b + b * b) * (x * x) = (x * x - 2 * (1 + q) * x + 1) - 2 * ((1 + q) * x * z) + (2 * z + z * z) := by rw [hz]; grind
  have n1 : 1 - 2 * (1 + q) * b + b * b ≤ 1 / 200000 := by
    apply Ct.le_of_mul_pos px
    rw [e]
    clear e hz z1 z2
    grind
  have n2 : -(1 / 200000) ≤ 1 - 2 * (1 + q) * b + b * b := by
    apply Ct.le_of_mul_pos px
    rw [e]
    clear e hz z1 z2
    grind
  constructor <;> grind
/-- Rounding, in the unit. -/
theorem Rnd.u {v w : Rat} (h : Rnd Ieee.single v w) (h0 : 0 ≤ v) (h1 : v ≤ 281474976710656) : w ≤ v + v * (1 / 8388608) + 1 / 100000000000000000000 ∧ v ≤ w + v * (1 / 8388608) + 1 / 100000000000000000000 ∧ 0 ≤ w := by
  have p127 : (281474976710656 : Rat) ≤ p2 127 := by have := p2_mono (show (48 : Int) ≤ 127 by decide); have e : p2 48 = 281474976710656 := (by decide +kernel); grind
  obtain ⟨a, b⟩ := h.rel h0 (by grind)
  have t := tiny32
  exact ⟨by grind, by grind, nonneg_of h h0⟩
theorem fit_big {v : Rat} (h0 : 0 ≤ v) (h1 : v ≤ 281474976710656) : Fit Ieee.single v := by
  have p127 : (281474976710656 : Rat) ≤ p2 127 := by have := p2_mono (show (48 : Int) ≤ 127 by decide); have e : p2 48 = 281474976710656 := (by decide +kernel); grind
  exact fit32 (by grind) (by grind)
/-- How much a very thick layer reflects. -/
theorem thick_is {k s : Option Nat} {K S : Rat} (ik : Is .f32 k K) (is : Is .f32 s S) (K0 : 0 ≤ K) (K1 : K ≤ 1) (S0 : 1 / 4194304 ≤ S) :
    ∃ b, Is .f32 (thickAt k s) b ∧ 0 ≤ b ∧ b ≤ 1 ∧ thickOk k s = true ∧ S * ((1 - b) * (1 - b)) ≤ 2 * (K * b) + 1 / 200000 * S ∧ 2 * (K * b) ≤ S * ((1 - b) * (1 - b)) + 1 / 200000 * S := by
  have i0 : Is .f32 (canon .f32 0) 0 := ⟨0, false, 0, -149, by decide, by decide, by decide +kernel⟩
  obtain ⟨q, hq⟩ := Ct.quo K (show 0 < S by grind)
  have q0 := Ct.quo_nn hq (by grind) K0
  have q1 : q ≤ 4194304 := Ct.quo_le hq (by grind) (by grind)
  have hs0 : feq s (canon .f32 0) = false := by
    rw [feq_is is i0]
    have : ¬ S = 0 := by grind
    simp [this]
  have eq : K / S = q := by rw [← hq, Rat.mul_div_cancel (by grind)]
  -- the ratio
  obtain ⟨qt, iqt, hqt⟩ : ∃ qt, Is .f32 (ratioAt k s) qt ∧ Rnd Ieee.single q qt := by
    unfold ratioAt
    rw [feq_is ik i0]
    by_cases hk : K = 0
    · simp only [hk, decide_true, if_true]
      have : q = 0 := by
        have := Ct.quo_le hq (b := 0) (by grind) (by grind)
        grind
      rw [this]
      exact ⟨0, i0, rep_zero, fun c _ h => h, fun c _ h => h⟩
    · simp only [hk, decide_false, Bool.false_eq_true, if_false]
      obtain ⟨w, iw, rw'⟩ := is_div ik is (by grind) (by rw [eq]; exact fit_big q0 (by grind))
      rw [eq] at rw'
      exact ⟨w, iw, rw'⟩
  obtain ⟨a1, a2, qt0⟩ := hqt.u q0 (by grind)
  have qt1 : qt ≤ 4194305 := by grind
  have b0 := Rat.mul_nonneg qt0 qt0
  have b1 := Rat.mul_nonneg qt0 (show 0 ≤ 4194305 - qt by grind)
  obtain ⟨m1, im1, hm1⟩ := is_mul iqt iqt (k := .f32) (fit_big b0 (by grind))
  obtain ⟨c1, c2, m10⟩ := hm1.u b0 (by grind)
  obtain ⟨m2, im2, hm2⟩ := is_mul i2 iqt (k := .f32) (fit_big (show 0 ≤ 2 * qt by grind) (by grind))
  obtain ⟨c3, c4, m20⟩ := hm2.u (by grind) (by grind)
  obtain ⟨sm, ism, hsm⟩ := is_add im1 im2 (k := .f32) (fit_big (show 0 ≤ m1 + m2 by grind) (by grind))
  obtain ⟨c5, c6, sm0⟩ := hsm.u (by grind) (by grind)
  obtain ⟨w, R, iR, hw, rR, w0, w1⟩ := froot_big ism sm0 (by grind)
  obtain ⟨c7, c8, R0⟩ := rR.u w0 (by grind)
  obtain ⟨e1, e2⟩ := th_A q0 q1 qt0 a1 a2
  obtain ⟨e3, e4⟩ := th_B (T := qt * qt + 2 * qt) (a := qt * qt) (b := 2 * qt) b0 (by grind) rfl c1 c2 c3 c4 c5 c6
  obtain ⟨e5, e6⟩ := root_rel hw sm0 w1
  obtain ⟨e7, e8⟩ := th_C w0 w1 R0 c7 c8
  have qq := Rat.mul_nonneg q0 q0
  obtain ⟨Sq, hSq⟩ : ∃ Sq, Sq = q * q + 2 * q := ⟨_, rfl⟩
  have k1 : R * R ≤ Sq + Sq * (7 / 8388608) + 1 / 100000000 := by
    have := Rat.mul_nonneg w0 w0
    rw [← hSq] at e1 e2
    clear c1 c2 c3 c4 c5 c6 c7 c8 a1 a2 b1
    grind
  have k2 : Sq ≤ R * R + Sq * (7 / 8388608) + 1 / 100000000 := by
    have := Rat.mul_nonneg w0 w0
    rw [← hSq] at e1 e2
    clear c1 c2 c3 c4 c5 c6 c7 c8 a1 a2 b1
    grind
  obtain ⟨c, ic, hc⟩ := is_add i1 iqt (k := .f32) (fit_big (show 0 ≤ 1 + qt by grind) (by grind))
  obtain ⟨d1, d2, _⟩ := hc.u (by grind) (by grind)
  have c11 : 1 ≤ c := hc.dn 1 rep_one (by grind)
  have R1 : R ≤ 16777219 := by grind
  obtain ⟨x, ix, hx⟩ := is_add ic iR (k := .f32) (fit_big (show 0 ≤ c + R by grind) (by grind))
  obtain ⟨d3, d4, _⟩ := hx.u (by grind) (by grind)
  have x1 : 1 ≤ x := hx.dn 1 rep_one (by grind)
  have hx1 : x ≤ 281474976710656 := by grind
  obtain ⟨f1, f2, f3⟩ := th_F (c := c) (x := x) q0 hSq R0 k1 k2 (by grind) (by grind) (by grind) (by grind)
  obtain ⟨y, hy⟩ := Ct.quo 1 (show 0 < x by grind)
  have ey : 1 / x = y := by rw [← hy, Rat.mul_div_cancel (by grind)]
  have y0 := Ct.quo_nn hy (by grind) (by decide)
  have y1 : y ≤ 1 := Ct.quo_le hy (by grind) (by grind)
  obtain ⟨b, ib, hb⟩ := is_div i1 ix (k := .f32) (by grind) (by rw [ey]; exact fit_big y0 (by grind))
  rw [ey] at hb
  obtain ⟨d5, d6, bb⟩ := hb.u y0 (by grind)
  have g1 := Rat.mul_nonneg (show 0 ≤ x by grind) (show 0 ≤ y + y * (1 / 8388608) + 1 / 100000000000000000000 - b by grind)
  have g2 := Rat.mul_nonneg (show 0 ≤ x by grind) (show 0 ≤ b + y * (1 / 8388608) + 1 / 100000000000000000000 - y by grind)
  obtain ⟨n1, n2⟩ := th_N (b := b) q0 x1 f1 f2 f3 (by clear k1 k2 e1 e2 e3 e4 e5 e6 e7 e8 f1 f2; grind) (by clear k1 k2 e1 e2 e3 e4 e5 e6 e7 e8 f1 f2; grind)
  have b1' := hb.up 1 rep_one y1
  refine ⟨b, ?_, bb, b1', ?_, ?_, ?_⟩
  · unfold thickAt
    rw [hs0]
    exact ib
  · unfold thickOk
    rw [hs0, Bool.false_or]
    exact fin_is.2 ⟨_, iqt⟩
  · have m := Rat.mul_nonneg (show 0 ≤ S by grind) (show 0 ≤ 2 * (q * b) + 1 / 200000 - (1 - b) * (1 - b) by grind)
    have e : K * b = S * (q * b) := by rw [← hq]; grind
    rw [e]
    clear k1 k2 e1 e2 e3 e4 e5 e6 e7 e8 f1 f2 g1 g2
    grind
  · have m := Rat.mul_nonneg (show 0 ≤ S by grind) (show 0 ≤ (1 - b) * (1 - b) + 1 / 200000 - 2 * (q * b) by grind)
    have e : K * b = S * (q * b) := by rw [← hq]; grind
    rw [e]
    clear k1 k2 e1 e2 e3 e4 e5 e6 e7 e8 f1 f2 g1 g2
    grind
end Go.Proofs.YtnfnlgmnnjgemaaGreatDoor

namespace Go.Proofs.YtnfnlgmnnjgemaaGreatDoor
open Go.RowKit
set_option maxRecDepth 100000

/-- A film over a backing in floats, near the exact one. -/
theorem over_exact {rw tw qw : Option Nat} {R T b d o x y O : Rat} (h : Ovr rw tw qw R T b d o) (l : Ct.L1 R T x y (534 / 1000000)) (s : Ct.Shr x y) (R0 : 0 ≤ R) (R1 : R ≤ 1 - 141 / 10000) (T0 : 0 ≤ T) (sum : R + T ≤ 1 + 51 / 100000) (b0 : 0 ≤ b) (b1 : b ≤ 1) (hO : O * (1 - x * b) = x * (1 - x * b) + y * y * b) :
    o ≤ O + 112 / 100000 ∧ O ≤ o + 112 / 100000 ∧ O ≤ 1 ∧ x ≤ O := by
  have Rb := Rat.mul_nonneg R0 b0
  have Rb1 := Rat.mul_nonneg R0 (show 0 ≤ 1 - b by grind)
  have xb := Rat.mul_nonneg s.r0 b0
  have xb1 := Rat.mul_nonneg s.r0 (show 0 ≤ 1 - b by grind)
  have r1 := s.r1
  have y0 := s.t0
  have xy := s.s
  obtain ⟨g1, e1⟩ := Ct.quo T (show 0 < 1 - R * b by grind)
  obtain ⟨g2, e2⟩ := Ct.quo y (show 0 < 1 - x * b by grind)
  have p1 := Ct.quo_nn e1 (by grind) T0
  have p2 := Ct.quo_nn e2 (by grind) (Rat.le_of_lt y0)
  have q1 : g1 ≤ 1 + 37 / 1000 := Ct.quo_le e1 (by grind) (by grind)
  have q2 : g2 ≤ 1 := Ct.quo_le e2 (by grind) (by grind)
  obtain ⟨a1, a2, a3, a4⟩ := l
  have w1 := Rat.mul_nonneg p1 p2
  have w2 := Rat.mul_nonneg p1 (show 0 ≤ 1 - g2 by grind)
  have bb := Rat.mul_nonneg b0 b0
  have bb1 := Rat.mul_nonneg b0 (show 0 ≤ 1 - b by grind)
  have w3 := Rat.mul_nonneg bb w1
  have w4 := Rat.mul_nonneg (show 0 ≤ 1 - b * b by grind) w1
  have w5 := Rat.mul_nonneg b0 (show 0 ≤ g1 + g2 by grind)
  have w6 := Rat.mul_nonneg (show 0 ≤ 1 - b by grind) (show 0 ≤ g1 + g2 by grind)
  have lp := Ct.over_lip e1 e2
  have eO : O = x + y * g2 * b := by
    apply Ct.eq_of_mul (c := 1 - x * b) (by grind)
    rw [hO]
    have : (x + y * g2 * b) * (1 - x * b) = x * (1 - x * b) + y * (g2 * (1 - x * b)) * b := by grind
    rw [this, e2]
  have bd := Ct.lin_both (a := 1 + b * b * (g1 * g2)) (b := b * (g1 + g2)) (M := 2 + 37 / 1000) (u := R - x) (v := T - y) (e := 534 / 1000000) (by grind) (by grind) (by grind) (by grind) (by grind) (by grind) (by grind) (by grind)
  obtain ⟨W, hW⟩ : ∃ W, W = R + T * g1 * b := ⟨_, rfl⟩
  have WD : (W - R) * (1 - R * b) = T * T * b := by rw [hW]; have : (R + T * g1 * b - R) * (1 - R * b) = T * (g1 * (1 - R * b)) * b := (by grind); rw [this, e1]
  have D0 : 141 / 10000 ≤ 1 - R * b := by grind
  obtain ⟨dD1, dD2⟩ := h.dD
  have o0 := h.o0
  have o1 := h.o1
  have k1 := Rat.mul_nonneg (show 0 ≤ o - R by grind) (show 0 ≤ d + 1 / 16777216 - (1 - R * b) by grind)
  have k2 := Rat.mul_nonneg (show 0 ≤ o - R by grind) (show 0 ≤ (1 - R * b) + 1 / 16777216 - d by grind)
  have hi := h.hi
  have u1 : o ≤ W + 22 / 1000000 := by
    apply Ct.le_of_mul_pos (c := 1 - R * b) (by grind)
    clear lp bd eO hO e1 e2 hW w1 w2 w3 w4 w5 w6
    grind
  have yg := Rat.mul_nonneg (Rat.le_of_lt y0) (Rat.mul_nonneg p2 b0)
  have yg1 := Rat.mul_nonneg (Rat.le_of_lt y0) (show 0 ≤ 1 - g2 * b by have := Rat.mul_nonneg p2 (show 0 ≤ 1 - b by grind); grind)
  have O1 : O ≤ 1 := by rw [eO]; grind
  have O0 : x ≤ O := by rw [eO]; grind
  refine ⟨by grind, ?_, O1, O0⟩
  by_cases ho : o < 1
  · have lo := h.lo ho
    have u2 : W ≤ o + 22 / 1000000 := by
      apply Ct.le_of_mul_pos (c := 1 - R * b) (by grind)
      clear lp bd eO hO e1 e2 hW w1 w2 w3 w4 w5 w6
      grind
    grind
  · grind
/-- How much of a white backing is seen, in floats. -/
theorem con_exact {rw tw zw : Option Nat} {R T d o x y C : Rat} (h : Ovr rw tw fone R T 1 d o) (l : Ct.L1 R T x y (534 / 1000000)) (s : Ct.Shr x y) (R0 : 0 ≤ R) (R1 : R ≤ 1 - 141 / 10000) (T0 : 0 ≤ T) (sum : R + T ≤ 1 + 51 / 100000) (hz : Is .f32 zw R) (hC : C * (1 - x) = y * y) :
    ∃ v, Is .f32 (fsub (upon rw tw fone (gapOf rw fone)) zw) v ∧ 0 ≤ v ∧ v ≤ 1 ∧ v ≤ C + 17 / 10000 ∧ C ≤ v + 17 / 10000 := by
  have o0 := h.o0
  have o1 := h.o1
  obtain ⟨a1, a2, a3, a4⟩ := id l
  obtain ⟨k1, k2, _, _⟩ := over_exact (O := x + C) h l s R0 R1 T0 sum (by decide) (by decide) (by grind)
  obtain ⟨z0, z1⟩ := h_0
  obtain ⟨v, iv, hv⟩ := nh_sub 0 z0 z1 (by decide) (by decide) h.io hz (by grind) (by grind)
  have g1 := hv.hi
  have g2 := hv.lo
  have g3 := hv.top
  exact ⟨v, iv, nonneg_of hv.rnd (by grind), g3, by grind, by grind⟩
/-- The greatest of numbers. -/
theorem best_ge {c : Nat → Option Nat} {v : Nat → Rat} : ∀ n, (∀ i, i < n + 1 → Is .f32 (c i) (v i)) → ∃ b, b < n + 1 ∧ bestTo fgt c (n + 1) = some b ∧ ∀ i, i < n + 1 → v i ≤ v b
  | 0, h => ⟨0, by omega, by
      show stepTo fgt c 0 none = some 0
      simp [stepTo, fin_some (fin_is.2 ⟨_, h 0 (by omega)⟩)], fun i hi => by rw [show i = 0 by omega]; exact Rat.le_refl⟩
  | n + 1, h => by
    obtain ⟨b, hb, he, hm⟩ := best_ge (c := c) n fun i hi => h i (by omega)
    have e : bestTo fgt c (n + 1 + 1) = stepTo fgt c (n + 1) (bestTo fgt c (n + 1)) := rfl
    rw [e, he]
    simp only [stepTo, fin_some (fin_is.2 ⟨_, h (n + 1) (by omega)⟩), if_true]
    rw [fgt_is (h (n + 1) (by omega)) (h b (by omega))]
    by_cases hl : v b < v (n + 1)
    · simp only [hl, decide_true, if_true]
      refine ⟨n + 1, by omega, rfl, fun i hi => ?_⟩
      by_cases hn : i < n + 1
      · have := hm i hn; grind
      · rw [show i = n + 1 by omega]; exact Rat.le_refl
    · simp only [hl, decide_false, Bool.false_eq_true, if_false]
      refine ⟨b, by omega, rfl, fun i hi => ?_⟩
      by_cases hn : i < n + 1
      · exact hm i hn
      · rw [show i = n + 1 by omega]; grind
/-- What is reflected, lost, and goes through, is what comes. -/
def milliV : Rat := 8589935 * p2 (-32)
theorem milli_is : Is .f32 (canon .f32 990057071) milliV := ⟨_, false, 8589935, -32, rfl, by decide, by decide +kernel⟩
theorem milli_near : 19 / 10000 ≤ milliV := by decide +kernel
def c02V : Rat := 10737418 * p2 (-29)
theorem c02_is : Is .f32 (canon .f32 1017370378) c02V := ⟨_, false, 10737418, -29, rfl, by decide, by decide +kernel⟩
theorem c02_near : 1999 / 100000 ≤ c02V := by decide +kernel
def c03V : Rat := 16106127 * p2 (-29)
theorem c03_is : Is .f32 (canon .f32 1022739087) c03V := ⟨_, false, 16106127, -29, rfl, by decide, by decide +kernel⟩
theorem c03_near : 29 / 1000 ≤ c03V := by decide +kernel
theorem all_near {rw tw : Option Nat} {R T : Rat} (iR : Is .f32 rw R) (iT : Is .f32 tw T) (R0 : 0 ≤ R) (R1 : R ≤ 1) (T0 : 0 ≤ T) (T1 : T ≤ 1) (sum : R + T ≤ 1 + 51 / 100000) : (fadd rw tw).isSome = true ∧ (fadd (fadd rw tw) (lostAt rw tw)).isSome = true ∧ near (fadd (fadd rw tw) (lostAt rw tw)) (canon .f32 1065353216) (canon .f32 990057071) = true := by
  obtain ⟨z0, z1⟩ := h_0
  obtain ⟨k1, k1'⟩ := h_1
  obtain ⟨a, ia, ha⟩ := nh_sub 0 z0 z1 (by decide) (by decide) i1 iR (by grind) (by grind)
  have a1 := ha.hi
  have a2 := ha.lo
  have a3 := ha.top
  have a4 := nonneg_of ha.rnd (by grind)
  obtain ⟨b, ib, hb⟩ := nh_sub 0 z0 z1 (by decide) (by decide) ia iT (by grind) (by grind)
  have b1 := hb.hi
  have b2 := hb.lo
  have b3 := hb.top
  obtain ⟨p, ip, hp⟩ := nh_add 1 k1 k1' (by decide) (by decide) iR iT (by grind) (by grind)
  have n1 := hp.hi
  have n2 := hp.lo
  have n3 := nonneg_of hp.rnd (by grind)
  have i0 : Is .f32 (canon .f32 0) 0 := ⟨0, false, 0, -149, by decide, by decide, by decide +kernel⟩
  have m := milli_near
  obtain ⟨t, it, t0, t1⟩ : ∃ t, Is .f32 (lostAt rw tw) t ∧ 0 ≤ t ∧ ((t = b) ∨ (t = 0 ∧ b < 0)) := by
    unfold lostAt
    rw [flt_is ib i0]
    by_cases h : b < 0
    · simp only [h, decide_true, if_true]
      exact ⟨0, i0, by decide, .inr ⟨rfl, trivial⟩⟩
    · simp only [h, decide_false, Bool.false_eq_true, if_false]
      exact ⟨b, ib, by grind, .inl rfl⟩
  obtain ⟨s, is, hs⟩ := nh_add 1 k1 k1' (by decide) (by decide) ip it (by rcases t1 with t1 | ⟨t1, t2⟩ <;> grind) (by grind)
  have s1 := hs.hi
  have s2 := hs.lo
  refine ⟨ip.some, is.some, near_of is i1 milli_is ?_ ?_⟩
  · rcases t1 with t1 | ⟨t1, t2⟩ <;> grind
  · rcases t1 with t1 | ⟨t1, t2⟩ <;> grind
end Go.Proofs.YtnfnlgmnnjgemaaGreatDoor

namespace Go.Proofs.YtnfnlgmnnjgemaaGreatDoor
open Go.RowKit
set_option maxRecDepth 100000

section
variable {a d : Nat → Option Nat} {K S : Nat → Rat} {n : Nat}
theorem kX_two (K : Nat → Rat) (n i : Nat) : kX K (2 * n) i = 2 * kX K n i := by
  unfold kX
  rw [Rat.natCast_mul]
  have : ((2 : Nat) : Rat) = 2 := rfl
  rw [this]
  grind
theorem coat_f (h : Lay a K S n) (hn : n < 33) : filmMade a = (filmAt a, 0) ∧ ∃ R T, MadeN (filmAt a) R T (fun i => Ct.fA (kX K n i) (kX S n i) 10) (29 / 1000) := by
  have := film_near h (by omega)
  rw [if_pos (by omega)] at this
  exact this
theorem coat_g (h : Lay d K S (2 * n)) (hn : n < 33) : filmMade d = (filmAt d, 0) ∧ ∃ R T, MadeN (filmAt d) R T (fun i => Ct.fB (kX K n i) (kX S n i) 10) (141 / 10000) := by
  obtain ⟨e, R, T, m⟩ := film_near h (by omega)
  refine ⟨e, R, T, ⟨⟨m.m.r, fun i hi => ⟨(m.m.r0 i hi).1, ?_⟩, m.m.t0, m.m.sum, m.m.small, m.m.back, m.m.lt⟩, fun i hi => ?_⟩⟩
  · have := (m.m.r0 i hi).2
    split at this <;> grind
  · have := m.n i hi
    rw [kX_two, kX_two] at this
    exact this
/-- The empty film and one more: the film itself. -/
theorem stack_one {p : Nat → Option Nat} {R T : Nat → Rat} (m : Made p R T (29 / 1000)) : addRes emptyAt p = (addAt emptyAt p, 0) ∧ ∀ i, i < 16 → Is .f32 (addAt emptyAt p i) (R i) ∧ Is .f32 (addAt emptyAt p (16 + i)) (R i) ∧ Is .f32 (addAt emptyAt p (32 + i)) (T i) := by
  obtain ⟨s, hv⟩ := empty_over (e := emptyAt) (fun _ _ => rfl) (made_flm m).1
  constructor
  · unfold addRes
    rw [if_pos (allTo_true s.gap)]
    unfold finFilmRes
    rw [if_pos (finFilm_of s.fin)]
  · intro i hi
    obtain ⟨r0, r1, r2⟩ := m.r i hi
    obtain ⟨v0, a0, b0⟩ := hv i (by omega)
    obtain ⟨v1, a1, b1⟩ := hv (16 + i) (by omega)
    obtain ⟨v2, a2, b2⟩ := hv (32 + i) (by omega)
    rw [b0.uniq r0] at a0
    rw [b1.uniq r1] at a1
    rw [b2.uniq r2] at a2
    exact ⟨a0, a1, a2⟩
/-- Two coats. -/
theorem stack_two {q p : Nat → Option Nat} {R T : Nat → Rat} {x : Nat → Rat × Rat} (hq : ∀ i, i < 16 → Is .f32 (q i) (R i) ∧ Is .f32 (q (16 + i)) (R i) ∧ Is .f32 (q (32 + i)) (T i)) (m : MadeN p R T x (29 / 1000)) {y : Nat → Rat × Rat} (hx : ∀ i, i < 16 → Ct.Shr (x i).1 (x i).2) (hy : ∀ i, i < 16 → Ct.Dbl (x i).1 (x i).2 (y i).1 (y i).2) :
    addRes q p = (addAt q p, 0) ∧ ∀ i, i < 16 → ∃ v w, Is .f32 (addAt q p i) v ∧ Is .f32 (addAt q p (32 + i)) w ∧ (v ≤ (y i).1 + 1109 / 1000000 ∧ (y i).1 ≤ v + 1109 / 1000000) ∧ (w ≤ (y i).2 + 1109 / 1000000 ∧ (y i).2 ≤ w + 1109 / 1000000) := by
  have key : ∀ i, i < 16 → gapOk (q (16 + i)) (p i) = true ∧ ∃ v w b, Is .f32 (addAt q p i) v ∧ Is .f32 (addAt q p (16 + i)) b ∧ Is .f32 (addAt q p (32 + i)) w ∧ (v ≤ (y i).1 + 1109 / 1000000 ∧ (y i).1 ≤ v + 1109 / 1000000) ∧ (w ≤ (y i).2 + 1109 / 1000000 ∧ (y i).2 ≤ w + 1109 / 1000000) := by
    intro i hi
    obtain ⟨q0, q1, q2⟩ := hq i hi
    obtain ⟨p0, p1, p2⟩ := m.m.r i hi
    obtain ⟨r0, r1⟩ := m.m.r0 i hi
    obtain ⟨t0, t1⟩ := m.m.t0 i hi
    have sm := m.m.sum i hi
    obtain ⟨g, A, v, w, b, hA, hv, hb, hw⟩ := sum_self hi q0 q1 q2 p0 p1 p2 r0 r1 t0 t1 sm
    obtain ⟨n1, n2⟩ := two_coats (hy i hi) (hx i hi) r0 r1 t0 sm hA hv hw (m.n i hi)
    exact ⟨g, v, w, b, hv.i, hb.i, hw.i, n1, n2⟩
  constructor
  · unfold addRes
    rw [if_pos (allTo_true fun i hi => (key i hi).1)]
    unfold finFilmRes
    rw [if_pos (finFilm_of (all48 fun i hi => by
      obtain ⟨_, v, w, b, h1, h2, h3, _⟩ := key i hi
      exact ⟨⟨v, h1⟩, ⟨b, h2⟩, ⟨w, h3⟩⟩))]
  · intro i hi
    obtain ⟨_, v, w, b, h1, h2, h3, h4, h5⟩ := key i hi
    exact ⟨v, w, h1, h3, h4, h5⟩
/-- Two coats and one of twice the thickness. -/
theorem coat_near (h : Lay a K S n) (hd : Lay d K S (2 * n)) (hn : n < 33) {q p : Nat → Option Nat} {R T : Nat → Rat} (hq : ∀ i, i < 16 → Is .f32 (q i) (R i) ∧ Is .f32 (q (16 + i)) (R i) ∧ Is .f32 (q (32 + i)) (T i)) (m : MadeN p R T (fun i => Ct.fA (kX K n i) (kX S n i) 10) (29 / 1000)) :
    addRes q p = (addAt q p, 0) ∧ ∀ i, i < 16 → near (addAt q p i) (filmAt d i) (canon .f32 1017370378) = true ∧ near (addAt q p (32 + i)) (filmAt d (32 + i)) (canon .f32 1017370378) = true := by
  obtain ⟨c, hs⟩ := stack_two (y := fun i => Ct.fA (kX K n i) (kX S n i) 11) hq m (fun i hi => Ct.eR_shr (thn_of h (by omega) hi).shr 10) (fun i hi => Ct.eR_dbl (Ct.eR_shr (thn_of h (by omega) hi).shr 10))
  obtain ⟨_, R', T', m'⟩ := coat_g hd hn
  refine ⟨c, fun i hi => ?_⟩
  obtain ⟨v, w, iv, iw, ⟨v1, v2⟩, ⟨w1, w2⟩⟩ := hs i hi
  obtain ⟨r, _, t⟩ := m'.m.r i hi
  obtain ⟨⟨c1, c2⟩, c3, c4⟩ := (thn_of h (show n ≤ 32 by omega) hi).coats
  obtain ⟨a1, a2, a3, a4⟩ := m'.n i hi
  have c02 := c02_near
  have s1 : (Ct.fB (kX K n i) (kX S n i) 10).1 ≤ 1 := by have := (Ct.eR_shr (thn_of h (show n ≤ 32 by omega) hi).shr2 10).r1; exact Rat.le_of_lt this
  exact ⟨near_of iv r c02_is (by grind) (by grind), near_of iw t c02_is (by grind) (by grind)⟩
/-- Very thick layers of the same kind. -/
theorem coat_thick (h : LayS a K S n) : thickRes (fun i => a i) (fun i => a (16 + i)) = (fun i => thickAt (a i) (a (16 + i)), 0) ∧ ∃ b : Nat → Rat, ∀ i, i < 16 → Is .f32 (thickAt (a i) (a (16 + i))) (b i) ∧ 0 ≤ b i ∧ b i ≤ 1 ∧ (0 < S i → S i * ((1 - b i) * (1 - b i)) ≤ 2 * (K i * b i) + 1 / 200000 * S i ∧ 2 * (K i * b i) ≤ S i * ((1 - b i) * (1 - b i)) + 1 / 200000 * S i) := by
  have key : ∀ i, ∃ b, i < 16 → Is .f32 (thickAt (a i) (a (16 + i))) b ∧ thickOk (a i) (a (16 + i)) = true ∧ 0 ≤ b ∧ b ≤ 1 ∧ (0 < S i → S i * ((1 - b) * (1 - b)) ≤ 2 * (K i * b) + 1 / 200000 * S i ∧ 2 * (K i * b) ≤ S i * ((1 - b) * (1 - b)) + 1 / 200000 * S i) := by
    intro i
    by_cases hi : i < 16
    · obtain ⟨ik, k0, k1⟩ := h.l.k i hi
      obtain ⟨is, s0, s8⟩ := h.l.s i hi
      rcases h.s i hi with hz | hz
      · have e : feq (a (16 + i)) (canon .f32 0) = true := by rw [feq_is is i0]; simp [hz]
        refine ⟨0, fun _ => ⟨?_, ?_, by decide, by decide, fun hp => absurd hp (by grind)⟩⟩
        · unfold thickAt; rw [e]; exact i0
        · unfold thickOk; rw [e]; rfl
      · obtain ⟨b, ib, b0, b1, ok, r1, r2⟩ := thick_is ik is k0 k1 hz
        exact ⟨b, fun _ => ⟨ib, ok, b0, b1, fun _ => ⟨r1, r2⟩⟩⟩
    · exact ⟨0, fun h => absurd h hi⟩
  constructor
  · unfold thickRes
    rw [if_pos, if_pos (allTo_true fun i hi => ((key i).choose_spec hi).2.1)]
    · unfold finRes
      rw [if_pos (allTo_true fun i hi => fin_is.2 ⟨_, ((key i).choose_spec hi).1⟩)]
    · rw [Bool.and_eq_true]
      exact ⟨allTo_true fun i hi => amount_is (h.l.k i hi).1 (h.l.k i hi).2.1, allTo_true fun i hi => amount_is (h.l.s i hi).1 (h.l.s i hi).2.1⟩
  · exact ⟨fun i => (key i).choose, fun i hi => ⟨((key i).choose_spec hi).1, ((key i).choose_spec hi).2.2⟩⟩
/-- A layer over what it would be if it were very thick. -/
theorem coat_over (h : LayS a K S n) (hn : n < 33) {p t : Nat → Option Nat} {R T : Nat → Rat} (m : MadeN p R T (fun i => Ct.fA (kX K n i) (kX S n i) 10) (29 / 1000)) (ht : ∀ i, i < 16 → t i = thickAt (a i) (a (16 + i))) :
    overRes p t = (overAt p t, 0) ∧ ∀ i, i < 16 → fgt (a (16 + i)) (canon .f32 0) = true → near (overAt p t i) (t i) (canon .f32 1022739087) = true := by
  obtain ⟨_, b, hb⟩ := coat_thick h
  have key : ∀ i, i < 16 → ∃ d o, Ovr (p i) (p (32 + i)) (t i) (R i) (T i) (b i) d o ∧ overAt p t i = upon (p i) (p (32 + i)) (t i) (gapOf (p i) (t i)) := by
    intro i hi
    obtain ⟨ib, b0, b1, _⟩ := hb i hi
    rw [← ht i hi] at ib
    obtain ⟨d, o, ho⟩ := over_is (m.m.r i hi).1 (m.m.r i hi).2.2 ib (m.m.r0 i hi).1 (by have := (m.m.r0 i hi).2; grind) (m.m.t0 i hi).1 (m.m.t0 i hi).2 (m.m.sum i hi) b0 b1
    refine ⟨d, o, ho, ?_⟩
    unfold overAt
    rw [m.m.back i hi]
  constructor
  · unfold overRes
    rw [if_pos (allTo_true fun i hi => by obtain ⟨ib, b0, b1, _⟩ := hb i hi; rw [ht i hi]; exact shareV_is ib b0 b1), if_pos (allTo_true fun i hi => by
      obtain ⟨d, o, ho, _⟩ := key i hi
      rw [m.m.back i hi]
      exact ho.gap)]
    unfold finRes
    rw [if_pos (allTo_true fun i hi => by
      obtain ⟨d, o, ho, he⟩ := key i hi
      rw [he]
      exact fin_is.2 ⟨_, ho.io⟩)]
  · intro i hi hS
    obtain ⟨is, s0, s8⟩ := h.l.s i hi
    rw [fgt_is is i0] at hS
    have hS : 0 < S i := by simpa using hS
    obtain ⟨ib, b0, b1, hr⟩ := hb i hi
    rw [← ht i hi] at ib
    obtain ⟨r1, r2⟩ := hr hS
    obtain ⟨d, o, ho, he⟩ := key i hi
    have th := thn_of h.l (show n ≤ 32 by omega) hi
    have s10 := Ct.eR_shr th.shr 10
    have scl := th.seqA.scl 10
    obtain ⟨x, hx⟩ : ∃ x, x = Ct.fA (kX K n i) (kX S n i) 10 := ⟨_, rfl⟩
    have l := m.n i hi
    have s10 : Ct.Shr (Ct.fA (kX K n i) (kX S n i) 10).1 (Ct.fA (kX K n i) (kX S n i) 10).2 := s10
    have scl : Ct.Scl (Ct.fA (kX K n i) (kX S n i) 10).1 (Ct.fA (kX K n i) (kX S n i) 10).2 _ _ _ := scl
    rw [← hx] at l s10 scl
    have xb := Rat.mul_nonneg s10.r0 (show 0 ≤ 1 - b i by grind)
    have x1 := s10.r1
    have R1 := (m.m.r0 i hi).2
    have R0 := (m.m.r0 i hi).1
    obtain ⟨Q, hQ⟩ := Ct.quo (x.2 * x.2 * b i) (show 0 < 1 - x.1 * b i by grind)
    have hO : (x.1 + Q) * (1 - x.1 * b i) = x.1 * (1 - x.1 * b i) + x.2 * x.2 * b i := by rw [← hQ]; grind
    obtain ⟨k1, k2, _, _⟩ := over_exact (O := x.1 + Q) ho l s10 R0 (by grind) (m.m.t0 i hi).1 (m.m.sum i hi) b0 b1 hO
    have fin : x.1 + Q ≤ b i + 270 / 10000 ∧ b i ≤ x.1 + Q + 270 / 10000 := by
      have n0 : (0 : Rat) ≤ (n : Rat) * (1 / 8192) := by have : (0 : Rat) ≤ (n : Rat) := Rat.natCast_nonneg; grind
      by_cases hn0 : (n : Rat) * (1 / 8192) = 0
      · have := Ct.over_none (by unfold kX; rw [hn0]; grind) (by unfold kX; rw [hn0]; grind) scl s10 hO
        grind
      · have n1 : 0 < (n : Rat) * (1 / 8192) := by grind
        have hp : 0 < kX S n i := Rat.mul_pos hS n1
        have e1 := Rat.mul_nonneg n0 (show 0 ≤ 2 * (K i * b i) + 1 / 200000 * S i - S i * ((1 - b i) * (1 - b i)) by grind)
        have e2 := Rat.mul_nonneg n0 (show 0 ≤ S i * ((1 - b i) * (1 - b i)) + 1 / 200000 * S i - 2 * (K i * b i) by grind)
        obtain ⟨a1, a2, a3, a4⟩ := l
        exact Ct.over_thick th scl s10 hp b0 b1 (ε := 1 / 200000) (by grind) (by grind) (by unfold kX; generalize (n : Rat) * (1 / 8192) = X at *; grind) (by unfold kX; generalize (n : Rat) * (1 / 8192) = X at *; grind) hO (by grind)
    have c03 := c03_near
    rw [he]
    exact near_of ho.io ib c03_is (by grind) (by grind)
/-- How much of a backing is seen. -/
theorem coat_con {p : Nat → Option Nat} {R T : Nat → Rat} {x : Nat → Rat × Rat} (m : MadeN p R T x (141 / 10000)) (hx : ∀ i, i < 16 → Ct.Shr (x i).1 (x i).2) :
    ∃ (b : Nat) (v : Rat) (C : Nat → Rat), conMade (p, 0) = (conD (p, 0) b, 0) ∧ Is .f32 (conD (p, 0) b) v ∧ b < 16 ∧ 0 ≤ v ∧ v ≤ 1 ∧ (∀ i, i < 16 → C i * (1 - (x i).1) = (x i).2 * (x i).2) ∧ v ≤ C b + 17 / 10000 ∧ ∀ i, i < 16 → C i ≤ v + 17 / 10000 := by
  have ov : ∀ b : Rat, 0 ≤ b → b ≤ 1 → ∀ q : Nat → Option Nat, (∀ i, i < 16 → Is .f32 (q i) b) → (∀ i, i < 16 → ∃ d o, Ovr (p i) (p (32 + i)) (q i) (R i) (T i) b d o ∧ overAt p q i = upon (p i) (p (32 + i)) (q i) (gapOf (p i) (q i))) ∧ overRes p q = (overAt p q, 0) := by
    intro b b0 b1 q hq
    have key : ∀ i, i < 16 → ∃ d o, Ovr (p i) (p (32 + i)) (q i) (R i) (T i) b d o ∧ overAt p q i = upon (p i) (p (32 + i)) (q i) (gapOf (p i) (q i)) := by
      intro i hi
      obtain ⟨d, o, ho⟩ := over_is (m.m.r i hi).1 (m.m.r i hi).2.2 (hq i hi) (m.m.r0 i hi).1 (by have := (m.m.r0 i hi).2; grind) (m.m.t0 i hi).1 (m.m.t0 i hi).2 (m.m.sum i hi) b0 b1
      refine ⟨d, o, ho, ?_⟩
      unfold overAt
      rw [m.m.back i hi]
    refine ⟨key, ?_⟩
    unfold overRes
    rw [if_pos (allTo_true fun i hi => shareV_is (hq i hi) b0 b1), if_pos (allTo_true fun i hi => by
      obtain ⟨d, o, ho, _⟩ := key i hi
      rw [m.m.back i hi]
      exact ho.gap)]
    unfold finRes
    rw [if_pos (allTo_true fun i hi => by
      obtain ⟨d, o, ho, he⟩ := key i hi
      rw [he]
      exact fin_is.2 ⟨_, ho.io⟩)]
  obtain ⟨w1, w2⟩ := ov 1 (by decide) (by decide) (fun _ => fone) (fun _ _ => i1)
  obtain ⟨z1, z2⟩ := ov 0 (by decide) (by decide) (fun _ => fzero) (fun _ _ => zero_is32)
  have cv : ∀ i, ∃ v C, i < 16 → Is .f32 (conD (p, 0) i) v ∧ 0 ≤ v ∧ v ≤ 1 ∧ C * (1 - (x i).1) = (x i).2 * (x i).2 ∧ v ≤ C + 17 / 10000 ∧ C ≤ v + 17 / 10000 := by
    intro i
    by_cases hi : i < 16
    · obtain ⟨d, o, ho, he⟩ := w1 i hi
      obtain ⟨d', o', ho', he'⟩ := z1 i hi
      have s := hx i hi
      obtain ⟨C, hC⟩ := Ct.quo ((x i).2 * (x i).2) (show 0 < 1 - (x i).1 by have := s.r1; grind)
      have bl := (black_is (m.m.r i hi).1 (m.m.r i hi).2.2 zero_is32 (by have := (m.m.r0 i hi).2; grind) (m.m.t0 i hi).1 (m.m.t0 i hi).2).2.1
      obtain ⟨v, iv, v0, v1, c1, c2⟩ := con_exact ho (m.n i hi) s (m.m.r0 i hi).1 (m.m.r0 i hi).2 (m.m.t0 i hi).1 (m.m.sum i hi) bl hC
      refine ⟨v, C, fun _ => ⟨?_, v0, v1, hC, c1, c2⟩⟩
      unfold conD paintMade
      simp only [if_true, w2, z2]
      rw [he, he']
      exact iv
    · exact ⟨0, 0, fun h => absurd h hi⟩
  obtain ⟨b, hb, e, hm⟩ := best_ge (c := conD (p, 0)) (v := fun i => (cv i).choose) 15 (fun i hi => ((cv i).choose_spec.choose_spec hi).1)
  obtain ⟨h1, h2, h3, h4, h5, h6⟩ := (cv b).choose_spec.choose_spec hb
  refine ⟨b, (cv b).choose, fun i => (cv i).choose_spec.choose, ?_, h1, hb, h2, h3, fun i hi => ((cv i).choose_spec.choose_spec hi).2.2.2.1, h5, fun i hi => ?_⟩
  · unfold conMade
    have q1 : (paintMade (p, 0) fun _ => fone).2 = 0 := by unfold paintMade; simp only [if_true, w2]
    have q2 : (paintMade (p, 0) fun _ => fzero).2 = 0 := by unfold paintMade; simp only [if_true, z2]
    rw [if_pos q1, if_pos q2, e]
    rfl
  · have k1 := ((cv i).choose_spec.choose_spec hi).2.2.2.2.2
    have k2 : (cv i).choose ≤ (cv b).choose := hm i hi
    grind
def c01V : Rat := 10737418 * p2 (-30)
theorem c01_is : Is .f32 (canon .f32 1008981770) c01V := ⟨_, false, 10737418, -30, rfl, by decide, by decide +kernel⟩
theorem c01_near : 999 / 100000 ≤ c01V ∧ c01V ≤ 1 / 10 := by decide +kernel
/-- The contrast of the one of twice the thickness, and of the layer. -/
theorem coat_less (h : Lay a K S n) (hd : Lay d K S (2 * n)) (hn : n < 33) : (conMade (filmMade a)).2 = 0 ∧ (conMade (filmMade d)).2 = 0 ∧ fle (conMade (filmMade d)).1 (fadd (conMade (filmMade a)).1 (canon .f32 1008981770)) = true ∧ fge (conMade (filmMade a)).1 (canon .f32 0) = true ∧ fle (conMade (filmMade a)).1 (canon .f32 1065353216) = true := by
  obtain ⟨e1, R, T, m⟩ := coat_f h hn
  obtain ⟨e2, R', T', m'⟩ := coat_g hd hn
  have ms : MadeN (filmAt a) R T (fun i => Ct.fA (kX K n i) (kX S n i) 10) (141 / 10000) := ⟨⟨m.m.r, fun i hi => ⟨(m.m.r0 i hi).1, by have := (m.m.r0 i hi).2; grind⟩, m.m.t0, m.m.sum, m.m.small, m.m.back, m.m.lt⟩, m.n⟩
  obtain ⟨b, v, C, c1, iv, hb, v0, v1, hC, _, hv⟩ := coat_con ms (fun i hi => Ct.eR_shr (thn_of h (show n ≤ 32 by omega) hi).shr 10)
  obtain ⟨b', v', C', c1', iv', hb', v0', v1', hC', hv', _⟩ := coat_con m' (fun i hi => Ct.eR_shr (thn_of h (show n ≤ 32 by omega) hi).shr2 10)
  rw [e1, e2, c1, c1']
  have th := thn_of h (show n ≤ 32 by omega) hb'
  have le : C' b' ≤ C b' := Ct.c_order (Ct.eR_shr th.shr 10) (Ct.eR_shr th.shr2 10) (Ct.gOf_e (Ct.eR_shr th.shr 10)) (Ct.gOf_e (Ct.eR_shr th.shr2 10)) (th.t_le.1 10) (th.g_le.1 10) (hC b' hb') (hC' b' hb')
  have k := hv b' hb'
  obtain ⟨q1, q2⟩ := c01_near
  obtain ⟨k1, k1'⟩ := h_1
  obtain ⟨s, is, hs⟩ := nh_add 1 k1 k1' (by decide) (by decide) iv c01_is (by grind) (by grind)
  have s2 := hs.lo
  refine ⟨rfl, rfl, ?_, ?_, ?_⟩
  · rw [fle_is iv' is]; simp; grind
  · rw [fge_is iv i0]; simp; grind
  · rw [fle_is iv i1]; simp; grind
end
end Go.Proofs.YtnfnlgmnnjgemaaGreatDoor
