/- What is finite: of a finite result, what stands behind it; bounds. Plain: no program is named here. -/
import Derived.Test.YtcmamfpcdhhboaaDG
import Derived.Test.YtcmamfpcdhhboaaDE
namespace Go.Proofs.Ytcmamfpcdhhboaa
open Go.RowKit
set_option maxRecDepth 100000

theorem fin_dec {b : Nat} : fin (some b) = true ↔ ∃ s m e, FloatKind.f32.decode b = .number s m e := by
  rw [fin_is]
  constructor
  · rintro ⟨v, b', s, m, e, h, hd, _⟩
    injection h with h
    subst h
    exact ⟨s, m, e, hd⟩
  · rintro ⟨s, m, e, hd⟩
    exact ⟨_, b, s, m, e, rfl, hd, rfl⟩
theorem inf_fin (s : Bool) : fin (some (FloatKind.f32.format.write (.infinity s))) = false := by cases s <;> decide
theorem none_fin : fin none = false := rfl
theorem fin_cop {x y : Option Nat} {op : Ieee.Datum → Ieee.Datum → Option Ieee.Datum} {z : Option Nat} (hz : ∀ a b, x = some a → y = some b → z = Option.map FloatKind.f32.format.write (op (FloatKind.f32.decode a) (FloatKind.f32.decode b)))
    (hn : x = none ∨ y = none → z = none) (h : fin z = true) : ∃ a b d, x = some a ∧ y = some b ∧ op (FloatKind.f32.decode a) (FloatKind.f32.decode b) = some d ∧ (∀ s, d ≠ .infinity s) := by
  cases x with
  | none => rw [hn (.inl rfl)] at h; cases h
  | some a =>
    cases y with
    | none => rw [hn (.inr rfl)] at h; cases h
    | some b =>
      rw [hz a b rfl rfl] at h
      cases ho : op (FloatKind.f32.decode a) (FloatKind.f32.decode b) with
      | none => rw [ho] at h; cases h
      | some d =>
        refine ⟨a, b, d, rfl, rfl, ho, fun s hs => ?_⟩
        rw [ho, hs] at h
        rw [show Option.map FloatKind.f32.format.write (some (Ieee.Datum.infinity s)) = some (FloatKind.f32.format.write (.infinity s)) from rfl, inf_fin] at h
        cases h
theorem fin_add {x y : Option Nat} (h : fin (fadd x y) = true) : fin x = true ∧ fin y = true := by
  obtain ⟨a, b, d, rfl, rfl, ho, hd⟩ := fin_cop (x := x) (y := y) (op := Ieee.Datum.sum) (fun a b hx hy => by subst hx; subst hy; rfl) (by rintro (rfl | rfl); exact rfl; cases x <;> rfl) h
  rw [fin_dec, fin_dec]
  generalize FloatKind.f32.decode a = A at ho ⊢
  generalize FloatKind.f32.decode b = B at ho ⊢
  cases A <;> cases B <;> simp only [Ieee.Datum.sum] at ho
  · exact ⟨⟨_, _, _, rfl⟩, _, _, _, rfl⟩
  all_goals first
    | (cases ho; exact absurd rfl (hd _))
    | (split at ho <;> cases ho; exact absurd rfl (hd _))
    | cases ho
theorem fin_mul {x y : Option Nat} (h : fin (fmul x y) = true) : fin x = true ∧ fin y = true := by
  obtain ⟨a, b, d, rfl, rfl, ho, hd⟩ := fin_cop (x := x) (y := y) (op := Ieee.Datum.product) (fun a b hx hy => by subst hx; subst hy; rfl) (by rintro (rfl | rfl); exact rfl; cases x <;> rfl) h
  rw [fin_dec, fin_dec]
  generalize FloatKind.f32.decode a = A at ho ⊢
  generalize FloatKind.f32.decode b = B at ho ⊢
  cases A <;> cases B <;> simp only [Ieee.Datum.product] at ho
  · exact ⟨⟨_, _, _, rfl⟩, _, _, _, rfl⟩
  all_goals first
    | (cases ho; exact absurd rfl (hd _))
    | (split at ho <;> cases ho; exact absurd rfl (hd _))
    | cases ho
/-- A finite quotient: what is divided is finite; what it is divided by is a number that is not 0, or an infinity. -/
theorem fin_div {x y : Option Nat} (h : fin (fdiv x y) = true) : fin x = true ∧ ∃ b, y = some b ∧ ((∃ v, Is .f32 y v ∧ v ≠ 0) ∨ ∃ s, FloatKind.f32.decode b = .infinity s) := by
  obtain ⟨a, b, d, rfl, rfl, ho, hd⟩ := fin_cop (x := x) (y := y) (op := Ieee.Datum.quotient (FloatKind.f32.format.fractionBits + 2)) (fun a b hx hy => by subst hx; subst hy; rfl) (by rintro (rfl | rfl); exact rfl; cases x <;> rfl) h
  rw [fin_dec]
  have hI : ∀ s m e, FloatKind.f32.decode b = .number s m e → Is .f32 (some b) (sg s ((m : Rat) * p2 e)) := fun s m e hd => ⟨b, s, m, e, rfl, hd, rfl⟩
  generalize FloatKind.f32.decode a = A at ho ⊢
  generalize hB : FloatKind.f32.decode b = B at ho hI ⊢
  cases A with
  | number s m i =>
    refine ⟨⟨_, _, _, rfl⟩, b, rfl, ?_⟩
    cases B with
    | number t n j =>
      simp only [Ieee.Datum.quotient] at ho
      by_cases hn : n = 0
      · rw [if_pos hn] at ho
        split at ho
        · cases ho
        · cases ho
          exact absurd rfl (hd _)
      · refine .inl ⟨_, hI t n j rfl, ?_⟩
        have h1 : (0 : Rat) < (n : Rat) := cast_lt (Nat.pos_of_ne_zero hn)
        have h2 := Rat.mul_pos h1 (p2_pos j)
        cases t <;> simp only [sg] <;> grind
    | infinity t => exact .inr ⟨t, hB⟩
    | nan t f => cases ho
  | infinity s =>
    cases B <;> simp only [Ieee.Datum.quotient] at ho <;> first | (cases ho; exact absurd rfl (hd _)) | cases ho
  | nan s f => cases B <;> cases ho
theorem rung32_top : rungV Ieee.single 2139095040 = p2 128 := by
  have h := rungV_form Ieee.single 254 8388608 (.inr (by decide)) (by decide)
  have e1 : 254 * Ieee.single.binade + 8388608 = 2139095040 := by decide
  rw [e1] at h
  rw [h]
  decide +kernel
theorem nearest_cases (s : Bool) (m : Nat) (p : Int) : (∃ r, r < Ieee.single.infRung ∧ Ieee.single.nearest s m p = Ieee.single.word s r ∧ (m : Rat) * p2 p < p2 128 ∧ ∀ R, rungV Ieee.single R ≤ (m : Rat) * p2 p → rungV Ieee.single R ≤ rungV Ieee.single r) ∨
    Ieee.single.nearest s m p = FloatKind.f32.format.write (.infinity s) := by
  have hI : Ieee.single.infRung = 2139095040 := by decide
  by_cases hm : m = 0
  · subst hm
    left
    have hz : ((0 : Nat) : Rat) * p2 p = 0 := by simp
    rw [hz]
    refine ⟨0, by omega, by unfold Ieee.Format.nearest; rw [if_pos rfl], p2_pos _, fun R h => ?_⟩
    rw [rungV_zero]
    exact h
  · obtain ⟨r, h1, h2, h3, _⟩ := nearest_spec Ieee.single s m p hm
    by_cases hr : r < Ieee.single.infRung
    · left
      refine ⟨r, hr, by rw [h1, Nat.min_eq_left (by omega)], ?_, fun R h => rungV_le _ (h3 R h)⟩
      apply Rat.not_le.1
      intro h4
      rw [← rung32_top] at h4
      have := h3 _ h4
      omega
    · right
      rw [h1, Nat.min_eq_right (by omega)]
      rfl
theorem mul_parts {x y : Option Nat} {u v : Rat} (hx : Is .f32 x u) (hy : Is .f32 y v) :
    ∃ (s : Bool) (m : Nat) (p : Int), u * v = sg s ((m : Rat) * p2 p) ∧ fmul x y = some (Ieee.single.nearest s m p) := by
  obtain ⟨a, s, m, i, rfl, hd, rfl⟩ := hx
  obtain ⟨b, t, n, j, rfl, hd', rfl⟩ := hy
  refine ⟨s ^^ t, m * n, i + j, ?_, ?_⟩
  · rw [← sg_mul, Rat.natCast_mul, p2_add]
    congr 1
    grind
  · show Option.map FloatKind.f32.format.write ((FloatKind.f32.decode a).product (FloatKind.f32.decode b)) = _
    rw [hd, hd']
    rfl
theorem mul_fin_lt {x y : Option Nat} {u v : Rat} (hx : Is .f32 x u) (hy : Is .f32 y v) (h : fin (fmul x y) = true) : u * v < p2 128 ∧ -(u * v) < p2 128 := by
  obtain ⟨s, m, p, h1, h2⟩ := mul_parts hx hy
  rcases nearest_cases s m p with ⟨r, hr, h3, h4, h5⟩ | h3
  · have h6 : (0 : Rat) ≤ (m : Rat) * p2 p := Rat.mul_nonneg Rat.natCast_nonneg (Rat.le_of_lt (p2_pos _))
    have h7 := p2_pos 128
    rw [h1]
    cases s <;> simp only [sg] <;> grind
  · rw [h2, h3, inf_fin] at h
    cases h
theorem sq_lo {x : Option Nat} {v : Rat} (hx : Is .f32 x v) (e : Int) (he : -149 ≤ e) (he2 : e ≤ 127) (hc : p2 e ≤ v * v) : fmul x x = some (FloatKind.f32.format.write (.infinity false)) ∨ ∃ w, Is .f32 (fmul x x) w ∧ p2 e ≤ w := by
  obtain ⟨b, t, n, j, rfl, hd, rfl⟩ := hx
  have h2 : fmul (some b) (some b) = some (Ieee.single.nearest false (n * n) (j + j)) := by
    show Option.map FloatKind.f32.format.write ((FloatKind.f32.decode b).product (FloatKind.f32.decode b)) = _
    rw [hd]
    show some (Ieee.single.nearest (t ^^ t) (n * n) (j + j)) = _
    rw [Bool.xor_self]
  have h1 : sg t ((n : Rat) * p2 j) * sg t ((n : Rat) * p2 j) = ((n * n : Nat) : Rat) * p2 (j + j) := by
    rw [Rat.natCast_mul, p2_add]
    cases t <;> simp only [sg] <;> grind
  rw [h1] at hc
  rcases nearest_cases false (n * n) (j + j) with ⟨r, hr, h3, h4, h5⟩ | h3
  · right
    rw [h2, h3]
    refine ⟨_, Is.of_word false hr, ?_⟩
    obtain ⟨R, hR, h6⟩ := rep32_p2 e he he2
    have h7 := rungV_nonneg Ieee.single R
    have h8 := p2_pos e
    rcases h6 with h6 | h6
    · rw [h6] at hc ⊢
      exact h5 R hc
    · grind
  · left
    rw [h2, h3]
/-- A finite number divided by an infinity. -/
theorem div_inf {x : Option Nat} {v : Rat} {b : Nat} {s : Bool} (hx : Is .f32 x v) (hb : FloatKind.f32.decode b = .infinity s) : Is .f32 (fdiv x (some b)) 0 := by
  obtain ⟨a, t, m, i, rfl, hd, rfl⟩ := hx
  have h2 : fdiv (some a) (some b) = some (Ieee.single.nearest (t ^^ s) 0 0) := by
    show Option.map FloatKind.f32.format.write ((FloatKind.f32.decode a).quotient (FloatKind.f32.format.fractionBits + 2) (FloatKind.f32.decode b)) = _
    rw [hd, hb]
    rfl
  rw [h2]
  cases (t ^^ s)
  · exact ⟨_, false, 0, -149, rfl, by decide, by simp [sg]⟩
  · exact ⟨_, true, 0, -149, rfl, by decide, by simp [sg]⟩
/-- A quotient as it is written: no less than half the exact one. -/
theorem div_parts {x y : Option Nat} {u v : Rat} (hx : Is .f32 x u) (hy : Is .f32 y v) (hv0 : v ≠ 0) :
    ∃ (s : Bool) (m : Nat) (p : Int), fdiv x y = some (Ieee.single.nearest s m p) ∧ (u / v ≤ 2 * ((m : Rat) * p2 p) ∧ -(u / v) ≤ 2 * ((m : Rat) * p2 p)) ∧ ∃ V, 0 ≤ V ∧ u / v = sg s V := by
  obtain ⟨a, s, m, i, rfl, hd, rfl⟩ := hx
  obtain ⟨b, t, n, j, rfl, hd', rfl⟩ := hy
  have h1 : fdiv (some a) (some b) = Option.map FloatKind.f32.format.write ((FloatKind.f32.decode a).quotient (FloatKind.f32.format.fractionBits + 2) (FloatKind.f32.decode b)) := rfl
  have hn : n ≠ 0 := by
    intro h
    subst h
    apply hv0
    cases t <;> simp [sg]
  rw [h1, hd, hd']
  simp only [Ieee.Datum.quotient, hn, if_false]
  obtain ⟨more, hmore⟩ : ∃ more, more = FloatKind.f32.format.fractionBits + 2 + n.log2 - m.log2 := ⟨_, rfl⟩
  rw [← hmore]
  generalize hq : (m <<< more) / n = q
  generalize ht : (m <<< more) % n = c
  have e0 : m * 2 ^ more = n * q + c := by rw [← hq, ← ht, ← Nat.shiftLeft_eq, Nat.div_add_mod]
  have hc : c < n := by rw [← ht]; exact Nat.mod_lt _ (Nat.pos_of_ne_zero hn)
  refine ⟨s ^^ t, 2 * q + (c != 0).toNat, i - j - (more : Int) - 1, rfl, ?_⟩
  have hbig : m ≠ 0 → 1 ≤ q := by
    intro hm
    have h2 : 2 ^ m.log2 ≤ m := Nat.log2_self_le hm
    have h3 : n < 2 ^ (n.log2 + 1) := Nat.lt_log2_self
    have h4 : 2 ^ (n.log2 + 1) ≤ m * 2 ^ more := by
      calc 2 ^ (n.log2 + 1) ≤ 2 ^ (m.log2 + more) := Nat.pow_le_pow_right (by omega) (by omega)
        _ = 2 ^ m.log2 * 2 ^ more := Nat.pow_add ..
        _ ≤ m * 2 ^ more := Nat.mul_le_mul_right _ h2
    apply Nat.pos_of_ne_zero
    intro h0
    subst h0
    omega
  have hle : m * 2 ^ more ≤ n * (2 * q) := by
    by_cases hm : m = 0
    · subst hm; simp
    · have := Nat.mul_le_mul_left n (hbig hm)
      rw [Nat.two_mul, Nat.mul_add]
      omega
  obtain ⟨place, hplace⟩ : ∃ place, place = i - j - (more : Int) - 1 := ⟨_, rfl⟩
  rw [← hplace]
  have hn0 : (0 : Rat) < (n : Rat) := by have := cast_lt (Nat.pos_of_ne_zero hn); exact this
  have hP := p2_pos place
  have hJ := p2_pos j
  obtain ⟨V, hV⟩ : ∃ V : Rat, V = ((m : Rat) * p2 i) / ((n : Rat) * p2 j) := ⟨_, rfl⟩
  have hnj := Rat.mul_pos hn0 hJ
  have e2 : V * ((n : Rat) * p2 j) = (m : Rat) * p2 i := by
    rw [hV, Rat.div_mul_cancel]
    grind
  have e1 : p2 i = p2 place * (2 * ((2 ^ more : Nat) : Rat)) * p2 j := by
    rw [← p2_nat, ← p2_one, ← p2_add, ← p2_add, ← p2_add]
    congr 1
    omega
  have e3 : ((m * 2 ^ more : Nat) : Rat) ≤ ((n * (2 * q) : Nat) : Rat) := cast_le hle
  rw [Rat.natCast_mul, Rat.natCast_mul, Rat.natCast_mul] at e3
  have e4 : ((2 : Nat) : Rat) = 2 := rfl
  rw [e4] at e3
  have hVle : V ≤ 4 * ((q : Rat) * p2 place) := by
    apply Rat.le_of_mul_le_mul_right (c := (n : Rat) * p2 j) _ hnj
    rw [e2, e1]
    have h5 := mul_le_r e3 (Rat.le_of_lt (Rat.mul_pos hP hJ))
    grind
  have hV0 : 0 ≤ V := by
    apply Rat.le_of_mul_le_mul_right (c := (n : Rat) * p2 j) _ hnj
    rw [e2]
    have := Rat.mul_nonneg (show (0 : Rat) ≤ (m : Rat) from Rat.natCast_nonneg) (Rat.le_of_lt (p2_pos i))
    grind
  have hM : (((2 * q : Nat)) : Rat) * p2 place ≤ ((2 * q + (c != 0).toNat : Nat) : Rat) * p2 place := mul_le_r (cast_le (by omega)) (Rat.le_of_lt hP)
  rw [Rat.natCast_mul, e4] at hM
  rw [← sg_div, ← hV]
  generalize ((2 * q + (c != 0).toNat : Nat) : Rat) = D at *
  refine ⟨?_, V, hV0, rfl⟩
  cases (s ^^ t) <;> simp only [sg] <;> grind
theorem div_lt {x y : Option Nat} {u v w : Rat} (hx : Is .f32 x u) (hy : Is .f32 y v) (hv0 : v ≠ 0) (hw : Is .f32 (fdiv x y) w) (e : Int) (he : -149 ≤ e) (he2 : e ≤ 127) (h1 : w < p2 e) (h2 : -w < p2 e) : u / v ≤ p2 (e + 1) ∧ -(u / v) ≤ p2 (e + 1) := by
  obtain ⟨s, m, p, h3, ⟨h4, h5⟩, _⟩ := div_parts hx hy hv0
  have hlt : (m : Rat) * p2 p < p2 e := by
    rcases nearest_cases s m p with ⟨r, hr, h6, h7, h8⟩ | h6
    · apply Rat.not_le.1
      intro h9
      obtain ⟨R, hR, h10⟩ := rep32_p2 e he he2
      have h11 := rungV_nonneg Ieee.single R
      have h12 := p2_pos e
      have h13 : p2 e = rungV Ieee.single R := by rcases h10 with h10 | h10 <;> grind
      have h14 := h8 R (by rw [← h13]; exact h9)
      rw [h3, h6] at hw
      have h15 := hw.uniq (Is.of_word (k := .f32) s hr)
      have h16 : FloatKind.f32.format = Ieee.single := rfl
      rw [h16] at h15
      rw [h13] at h1 h2
      cases s <;> simp only [sg] at h15 <;> grind
    · rw [h3, h6] at hw
      have := fin_is.2 ⟨_, hw⟩
      rw [inf_fin] at this
      cases this
  rw [p2_succ]
  constructor <;> grind
theorem quot_bound {n d q a B : Rat} (hq : q * d = n) (ha : 0 < a) (hd : d ≤ -a ∨ a ≤ d) (hn : n ≤ a * B) (hn' : -n ≤ a * B) : q ≤ B ∧ -q ≤ B := by
  constructor
  · apply Rat.not_lt.1
    intro h
    rcases hd with hd | hd
    · have h1 := mul_lt_r h ha
      by_cases h0 : 0 ≤ q
      · have h2 := Rat.mul_nonneg h0 (show 0 ≤ -a - d by grind)
        grind
      · have h2 := Rat.mul_nonneg (show 0 ≤ -q by grind) (show 0 ≤ -d by grind)
        have h3 : B < 0 := by grind
        have h4 := Rat.mul_pos (show 0 < -B by grind) ha
        grind
    · have h1 := mul_lt_r h ha
      by_cases h0 : 0 ≤ q
      · have h2 := Rat.mul_nonneg h0 (show 0 ≤ d - a by grind)
        grind
      · have h3 : B < 0 := by grind
        have h4 := Rat.mul_pos (show 0 < -B by grind) ha
        grind
  · apply Rat.not_lt.1
    intro h
    have h1 := mul_lt_r h ha
    rcases hd with hd | hd
    · by_cases h0 : 0 ≤ -q
      · have h2 := Rat.mul_nonneg h0 (show 0 ≤ -a - d by grind)
        grind
      · have h3 : B < 0 := by grind
        have h4 := Rat.mul_pos (show 0 < -B by grind) ha
        grind
    · by_cases h0 : 0 ≤ -q
      · have h2 := Rat.mul_nonneg h0 (show 0 ≤ d - a by grind)
        grind
      · have h3 : B < 0 := by grind
        have h4 := Rat.mul_pos (show 0 < -B by grind) ha
        grind
theorem add_parts {x y : Option Nat} {u v : Rat} (hx : Is .f32 x u) (hy : Is .f32 y v) :
    ∃ (s : Bool) (m : Nat) (p : Int), u + v = sg s ((m : Rat) * p2 p) ∧ fadd x y = some (Ieee.single.nearest s m p) := by
  obtain ⟨a, s, m, i, rfl, hd, rfl⟩ := hx
  obtain ⟨b, t, n, j, rfl, hd', rfl⟩ := hy
  have h1 : fadd (some a) (some b) = Option.map FloatKind.f32.format.write ((FloatKind.f32.decode a).sum (FloatKind.f32.decode b)) := rfl
  rw [h1, hd, hd']
  simp only [Ieee.Datum.sum]
  generalize hT : Ieee.signed s m (i - min i j).toNat + Ieee.signed t n (j - min i j).toNat = T
  have hv : (T : Rat) * p2 (min i j) = sg s ((m : Rat) * p2 i) + sg t ((n : Rat) * p2 j) := by
    rw [← hT, Rat.intCast_add, Rat.add_mul, signed_dq s m i _ (by omega), signed_dq t n j _ (by omega)]
  generalize hS : (if T = 0 then s && t else decide (T < 0)) = S
  refine ⟨S, T.natAbs, min i j, ?_, rfl⟩
  rw [← hv, ← hS]
  by_cases h0 : T = 0
  · subst h0
    unfold sg
    simp
  · rw [if_neg h0]
    by_cases h2 : T < 0
    · obtain ⟨q, hq⟩ : ∃ q : Nat, T = -(q : Int) := ⟨T.natAbs, by omega⟩
      subst hq
      unfold sg
      simp only [h2, decide_true, if_true, Int.natAbs_neg, Int.natAbs_natCast, Rat.intCast_neg, Rat.intCast_natCast]
      grind
    · obtain ⟨q, hq⟩ : ∃ q : Nat, T = (q : Int) := ⟨T.natAbs, by omega⟩
      subst hq
      unfold sg
      simp only [h2, decide_false, Bool.false_eq_true, if_false, Int.natAbs_natCast, Rat.intCast_natCast]
theorem plus_word {z : Option Nat} {m : Nat} {p : Int} {w : Rat} (hz : z = some (Ieee.single.nearest false m p)) (hw : Is .f32 z w) : 0 ≤ w := by
  subst hz
  rcases nearest_cases false m p with ⟨r, hr, h6, _⟩ | h6
  · rw [h6] at hw
    have h15 := hw.uniq (Is.of_word (k := .f32) false hr)
    rw [h15]
    exact rungV_nonneg _ _
  · rw [h6] at hw
    have := fin_is.2 ⟨_, hw⟩
    rw [inf_fin] at this
    cases this
theorem add_plus {x y : Option Nat} {u v w : Rat} (hx : Is .f32 x u) (hy : Is .f32 y v) (hw : Is .f32 (fadd x y) w) (h : 0 < u + v) : 0 ≤ w := by
  obtain ⟨s, m, p, h1, h2⟩ := add_parts hx hy
  have h6 : (0 : Rat) ≤ (m : Rat) * p2 p := Rat.mul_nonneg Rat.natCast_nonneg (Rat.le_of_lt (p2_pos _))
  cases s with
  | false => exact plus_word h2 hw
  | true => simp only [sg] at h1; grind
theorem mul_plus {x y : Option Nat} {u v w : Rat} (hx : Is .f32 x u) (hy : Is .f32 y v) (hw : Is .f32 (fmul x y) w) (h : 0 ≤ u * v) : 0 ≤ w := by
  by_cases h0 : u * v = 0
  · obtain ⟨w', h1, h2⟩ := is_mul hx hy (k := .f32) (fit32 (by have := p2_pos 127; grind) (by have := p2_pos 127; grind))
    rw [hw.uniq h1]
    exact h2.dn 0 zero32.rep h
  · obtain ⟨s, m, p, h1, h2⟩ := mul_parts hx hy
    have h6 : (0 : Rat) ≤ (m : Rat) * p2 p := Rat.mul_nonneg Rat.natCast_nonneg (Rat.le_of_lt (p2_pos _))
    cases s with
    | false => exact plus_word h2 hw
    | true => simp only [sg] at h1; grind
theorem div_plus {x y : Option Nat} {u v w : Rat} (hx : Is .f32 x u) (hy : Is .f32 y v) (hw : Is .f32 (fdiv x y) w) (h : 0 ≤ u) (hv : 0 < v) : 0 ≤ w := by
  have hv0 : v ≠ 0 := by grind
  have hq : u / v * v = u := Rat.div_mul_cancel hv0
  have h7 : 0 ≤ u / v := by
    apply Rat.not_lt.1
    intro h8
    have := Rat.mul_pos (show 0 < -(u / v) by grind) hv
    grind
  by_cases h0 : u / v = 0
  · obtain ⟨w', h1, h2⟩ := is_div hx hy hv0 (k := .f32) (fit32 (by have := p2_pos 127; grind) (by have := p2_pos 127; grind))
    rw [hw.uniq h1]
    exact h2.dn 0 zero32.rep h7
  · obtain ⟨s, m, p, h1, _, V, h2, h3⟩ := div_parts hx hy hv0
    cases s with
    | false => exact plus_word h1 hw
    | true => simp only [sg] at h3; grind
end Go.Proofs.Ytcmamfpcdhhboaa
