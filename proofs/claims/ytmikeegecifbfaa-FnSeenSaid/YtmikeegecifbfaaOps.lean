/- The operations of floats, on the numbers that words stand for: each gives a number next to the exact one. No program is named here. -/
import Derived.Test.YtmikeegecifbfaaVal
import Derived.Test.YtmikeegecifbfaaKit
namespace Go.Proofs.Ytmikeegecifbfaa

/-- What a datum stands for. -/
def sg (s : Bool) (x : Rat) : Rat := if s then -x else x
def dq : Ieee.Datum → Rat
  | .number s m e => sg s ((m : Rat) * p2 e)
  | _ => 0

theorem word_parts (f : Ieee.Format) (s : Bool) {r : Nat} (h : r < f.signWeight) : f.word s r % f.signWeight = r ∧ (f.word s r / f.signWeight % 2 == 1) = s := by
  unfold Ieee.Format.word
  cases s
  · simp [Nat.mod_eq_of_lt h, Nat.div_eq_of_lt h]
  · simp [Nat.add_mod_left, Nat.mod_eq_of_lt h, Nat.add_div_left _ (Nat.zero_lt_of_lt h), Nat.div_eq_of_lt h]

theorem read_fin (f : Ieee.Format) (x : Nat) (h : x % f.signWeight < f.infRung) :
    ∃ m e, f.read x = .number (x / f.signWeight % 2 == 1) m e ∧ (m : Rat) * p2 e = rungV f (x % f.signWeight) := by
  unfold Ieee.Format.read rungV
  dsimp only
  generalize x % f.signWeight = r at *
  by_cases h1 : r < f.binade
  · rw [if_pos h1, if_pos h1]; exact ⟨_, _, rfl, rfl⟩
  · rw [if_neg h1, if_neg h1, if_pos h]; exact ⟨_, _, rfl, rfl⟩
theorem fin_read (f : Ieee.Format) (hb : f.binade ≤ f.infRung) {x : Nat} {s : Bool} {m : Nat} {e : Int} (h : f.read x = .number s m e) :
    x % f.signWeight < f.infRung ∧ (m : Rat) * p2 e = rungV f (x % f.signWeight) := by
  have hlt : x % f.signWeight < f.infRung := by
    have h1 := isNaN_read f hb x
    have h2 := isInf_read f hb x
    rw [h] at h1 h2
    have h3 := of_decide_eq_false h1.symm
    have h4 := of_decide_eq_false h2.symm
    omega
  obtain ⟨m', e', h1, h2⟩ := read_fin f x hlt
  rw [h] at h1
  injection h1 with h3 h4 h5
  subst h4; subst h5
  exact ⟨hlt, h2⟩

/-- A number of the format. -/
def Rep (f : Ieee.Format) (c : Rat) : Prop := ∃ r, r < f.infRung ∧ (c = rungV f r ∨ c = -rungV f r)
/-- 'w' is what 'v' is rounded to. -/
structure Rnd (f : Ieee.Format) (v w : Rat) : Prop where
  rep : Rep f w
  up : ∀ c, Rep f c → v ≤ c → w ≤ c
  dn : ∀ c, Rep f c → c ≤ v → c ≤ w
/-- No greater than the greatest number of the format. -/
def Fit (f : Ieee.Format) (v : Rat) : Prop := ∃ r, r < f.infRung ∧ v ≤ rungV f r ∧ -v ≤ rungV f r

theorem Rep.neg {f : Ieee.Format} {c : Rat} (h : Rep f c) : Rep f (-c) := by
  obtain ⟨r, h1, h2⟩ := h
  exact ⟨r, h1, by grind⟩
theorem Rep.fit {f : Ieee.Format} {c : Rat} (h : Rep f c) : Fit f c := by
  obtain ⟨r, h1, h2⟩ := h
  have := rungV_nonneg f r
  exact ⟨r, h1, by grind, by grind⟩
theorem Rnd.of_rep {f : Ieee.Format} {v w : Rat} (h : Rnd f v w) (hv : Rep f v) : w = v := Rat.le_antisymm (h.up v hv Rat.le_refl) (h.dn v hv Rat.le_refl)
theorem Rnd.neg {f : Ieee.Format} {v w : Rat} (h : Rnd f v w) : Rnd f (-v) (-w) := by
  refine ⟨h.rep.neg, fun c hc hv => ?_, fun c hc hv => ?_⟩
  · have := h.dn (-c) hc.neg (by grind); grind
  · have := h.up (-c) hc.neg (by grind); grind
theorem Rnd.sg {f : Ieee.Format} {v w : Rat} (h : Rnd f v w) (s : Bool) : Rnd f (sg s v) (sg s w) := by
  cases s
  · exact h
  · exact h.neg
theorem Fit.sg {f : Ieee.Format} {v : Rat} {s : Bool} (h : Fit f (sg s v)) : Fit f v := by
  obtain ⟨r, h1, h2, h3⟩ := h
  cases s
  · exact ⟨r, h1, h2, h3⟩
  · unfold Go.Proofs.Ytmikeegecifbfaa.sg at h2 h3; simp at h2 h3; exact ⟨r, h1, by grind, by grind⟩
theorem rungV_gap (f : Ieee.Format) (r : Nat) : rungV f (r + 1) ≤ rungV f r + rungV f r * p2 (-f.fractionBits) + p2 f.leastPlace := by
  obtain ⟨j, kept, rfl, h1, h2⟩ := rung_split f r
  rw [Nat.add_assoc, rungV_form f j kept h1 (by omega), rungV_form f j (kept + 1) (by omega) (by omega)]
  have h0 := p2_pos f.leastPlace
  have h3 : (0 : Rat) ≤ (kept : Rat) * p2 (f.leastPlace + j) * p2 (-f.fractionBits) := Rat.mul_nonneg (Rat.mul_nonneg Rat.natCast_nonneg (Rat.le_of_lt (p2_pos _))) (Rat.le_of_lt (p2_pos _))
  by_cases hj : j = 0
  · subst hj
    rw [Rat.natCast_add]
    simp
    grind
  · have h4 : f.binade ≤ kept := by omega
    have h5 : (1 : Rat) ≤ (kept : Rat) * p2 (-f.fractionBits) := by
      have h6 := mul_le_r (cast_le h4) (Rat.le_of_lt (p2_pos (-f.fractionBits)))
      have h7 : ((f.binade : Nat) : Rat) * p2 (-f.fractionBits) = 1 := by
        unfold Ieee.Format.binade
        rw [← p2_nat, ← p2_add, show (f.fractionBits : Int) + -f.fractionBits = 0 by omega, p2_zero]
      grind
    have h8 := mul_le_r h5 (Rat.le_of_lt (p2_pos (f.leastPlace + j)))
    rw [Rat.natCast_add]
    grind

/-- A number lies between two rungs. -/
theorem between (f : Ieee.Format) {V : Rat} (hV : 0 ≤ V) : ∀ R, V ≤ rungV f R → V = rungV f R ∨ ∃ r, r < R ∧ rungV f r ≤ V ∧ V ≤ rungV f (r + 1)
  | 0, h => by rw [rungV_zero] at h ⊢; left; grind
  | R + 1, h => by
    by_cases h1 : V ≤ rungV f R
    · rcases between f hV R h1 with h2 | ⟨r, h2, h3⟩
      · exact .inr ⟨R, by omega, by grind, h⟩
      · exact .inr ⟨r, by omega, h3⟩
    · exact .inr ⟨R, by omega, by grind, h⟩

/-- The error of a rounding. -/
theorem Rnd.near0 {f : Ieee.Format} {v w : Rat} (h : Rnd f v w) (hf : Fit f v) (hv : 0 ≤ v) :
    w ≤ v + v * p2 (-f.fractionBits) + p2 f.leastPlace ∧ v ≤ w + v * p2 (-f.fractionBits) + p2 f.leastPlace := by
  have h0 := p2_pos f.leastPlace
  have h1 := Rat.mul_nonneg hv (Rat.le_of_lt (p2_pos (-f.fractionBits)))
  obtain ⟨R, hR, h2, _⟩ := hf
  rcases between f hv R h2 with h3 | ⟨r, h3, h4, h5⟩
  · have := h.of_rep ⟨R, hR, .inl h3⟩
    grind
  · have h6 := h.dn _ ⟨r, by omega, .inl rfl⟩ h4
    have h7 := h.up _ ⟨r + 1, by omega, .inl rfl⟩ h5
    have h8 := rungV_gap f r
    have h9 := mul_le_r h4 (Rat.le_of_lt (p2_pos (-f.fractionBits)))
    grind
theorem Rnd.near {f : Ieee.Format} {v w : Rat} (h : Rnd f v w) (hf : Fit f v) {b : Rat} (h1 : v ≤ b) (h2 : -v ≤ b) :
    w ≤ v + b * p2 (-f.fractionBits) + p2 f.leastPlace ∧ v ≤ w + b * p2 (-f.fractionBits) + p2 f.leastPlace := by
  by_cases hv : 0 ≤ v
  · have := h.near0 hf hv
    have := mul_le_r h1 (Rat.le_of_lt (p2_pos (-f.fractionBits)))
    grind
  · have := h.neg.near0 (Fit.sg (s := true) (show Fit f (Go.Proofs.Ytmikeegecifbfaa.sg true (-v)) by unfold Go.Proofs.Ytmikeegecifbfaa.sg; simpa using hf)) (by grind)
    have := mul_le_r h2 (Rat.le_of_lt (p2_pos (-f.fractionBits)))
    grind

/-- Rounding, for what lies near a datum: all that is asked is that the numbers of the format lie on the same side of both. -/
theorem write_core (f : Ieee.Format) (s : Bool) (m : Nat) (p : Int) (A B : Nat → Prop) (hup : ∀ R, A R → (m : Rat) * p2 p ≤ rungV f R) (hdn : ∀ R, B R → rungV f R ≤ (m : Rat) * p2 p) {R0 : Nat} (hR0 : R0 < f.infRung) (hfit : A R0) :
    ∃ r, r < f.infRung ∧ f.nearest s m p = f.word s r ∧ (∀ R, A R → r ≤ R) ∧ (∀ R, B R → R ≤ r) := by
  by_cases hm : m = 0
  · subst hm
    have hz : ((0 : Nat) : Rat) * p2 p = 0 := by simp
    rw [hz] at hup hdn
    refine ⟨0, by omega, ?_, fun R _ => Nat.zero_le _, ?_⟩
    · unfold Ieee.Format.nearest; rw [if_pos rfl]
    · intro R hR
      apply Nat.le_of_not_lt
      intro hlt
      have h1 := hdn R hR
      have h2 := rungV_lt f hlt
      rw [rungV_zero] at h2
      grind
  · obtain ⟨r, h1, h2, h3, _⟩ := nearest_spec f s m p hm
    have hr : r ≤ R0 := h2 R0 (hup R0 hfit)
    exact ⟨r, by omega, by rw [h1, Nat.min_eq_left (by omega)], fun R hR => h2 R (hup R hR), fun R hR => h3 R (hdn R hR)⟩
theorem rungV_eq_zero {f : Ieee.Format} {R : Nat} (h : rungV f R ≤ 0) : R = 0 := by
  apply Nat.eq_zero_of_not_pos
  intro h2
  have := rungV_lt f h2
  rw [rungV_zero] at this
  grind
theorem write_near (f : Ieee.Format) (s : Bool) (m : Nat) (p : Int) (V : Rat) (hV : 0 ≤ V)
    (hup : ∀ R, V ≤ rungV f R → (m : Rat) * p2 p ≤ rungV f R) (hdn : ∀ R, rungV f R ≤ V → rungV f R ≤ (m : Rat) * p2 p) (hf : Fit f V) :
    ∃ r, r < f.infRung ∧ f.nearest s m p = f.word s r ∧ Rnd f (sg s V) (sg s (rungV f r)) := by
  obtain ⟨R0, hR0, hfit, _⟩ := hf
  obtain ⟨r, h1, h2, h3, h4⟩ := write_core f s m p (fun R => V ≤ rungV f R) (fun R => rungV f R ≤ V) hup hdn hR0 hfit
  refine ⟨r, h1, h2, Rnd.sg ⟨⟨r, h1, .inl rfl⟩, ?_, ?_⟩ s⟩
  · rintro c ⟨R, hR, rfl | rfl⟩ hc
    · exact rungV_le f (h3 R hc)
    · have h5 := rungV_nonneg f R
      have h6 : R = 0 := rungV_eq_zero (f := f) (by grind)
      subst h6
      rw [rungV_zero] at hc ⊢
      have := rungV_le f (h3 0 (by rw [rungV_zero]; grind))
      rw [rungV_zero] at this
      grind
  · rintro c ⟨R, hR, rfl | rfl⟩ hc
    · exact rungV_le f (h4 R hc)
    · have := rungV_nonneg f R
      have := rungV_nonneg f r
      grind
/-- An exact datum is written. -/
theorem write_rnd (f : Ieee.Format) (s : Bool) (m : Nat) (p : Int) (hf : Fit f (sg s ((m : Rat) * p2 p))) :
    ∃ r, r < f.infRung ∧ f.nearest s m p = f.word s r ∧ Rnd f (sg s ((m : Rat) * p2 p)) (sg s (rungV f r)) :=
  write_near f s m p _ (Rat.mul_nonneg Rat.natCast_nonneg (Rat.le_of_lt (p2_pos _))) (fun _ h => h) (fun _ h => h) (Fit.sg hf)

/-- A word that stands for a finite number. -/
def Is (k : FloatKind) (x : Option Nat) (v : Rat) : Prop := ∃ b s m e, x = some b ∧ k.decode b = .number s m e ∧ sg s ((m : Rat) * p2 e) = v

theorem Is.of_word {k : FloatKind} (s : Bool) {r : Nat} (h : r < k.format.infRung) : Is k (some (k.format.word s r)) (sg s (rungV k.format r)) := by
  have hi := k.format.infRung_lt
  obtain ⟨h1, h2⟩ := word_parts k.format s (show r < k.format.signWeight by omega)
  obtain ⟨m, e, h3, h4⟩ := read_fin k.format (k.format.word s r) (by rw [h1]; exact h)
  rw [h1] at h4
  rw [h2] at h3
  exact ⟨_, s, m, e, rfl, h3, by rw [h4]⟩
theorem Is.rep {k : FloatKind} {x : Option Nat} {v : Rat} (h : Is k x v) : Rep k.format v := by
  obtain ⟨b, s, m, e, rfl, hd, rfl⟩ := h
  obtain ⟨h1, h2⟩ := fin_read k.format (binade_le k) hd
  refine ⟨_, h1, ?_⟩
  rw [h2]
  cases s
  · exact .inl rfl
  · exact .inr rfl

theorem signed_dq (s : Bool) (m : Nat) (e base : Int) (h : base ≤ e) : ((Ieee.signed s m (e - base).toNat : Int) : Rat) * p2 base = sg s ((m : Rat) * p2 e) := by
  obtain ⟨d, rfl⟩ := Int.le.dest h
  have e1 : (base + (d : Int) - base).toNat = d := by omega
  rw [e1, p2_add, p2_nat]
  unfold Ieee.signed sg
  cases s
  · simp only [Bool.false_eq_true, if_false]
    rw [Nat.shiftLeft_eq, Rat.intCast_natCast, Rat.natCast_mul]
    grind
  · simp only [if_true]
    rw [Nat.shiftLeft_eq, Rat.intCast_neg, Rat.intCast_natCast, Rat.natCast_mul]
    grind

theorem is_add {k : FloatKind} {x y : Option Nat} {u v : Rat} (hx : Is k x u) (hy : Is k y v) (hf : Fit k.format (u + v)) : ∃ w, Is k (cop .add k x y) w ∧ Rnd k.format (u + v) w := by
  obtain ⟨a, s, m, i, rfl, hd, rfl⟩ := hx
  obtain ⟨b, t, n, j, rfl, hd', rfl⟩ := hy
  have h1 : cop .add k (some a) (some b) = Option.map k.format.write ((k.decode a).sum (k.decode b)) := rfl
  rw [h1, hd, hd']
  simp only [Ieee.Datum.sum]
  generalize hT : Ieee.signed s m (i - min i j).toNat + Ieee.signed t n (j - min i j).toNat = T
  have hv : (T : Rat) * p2 (min i j) = sg s ((m : Rat) * p2 i) + sg t ((n : Rat) * p2 j) := by
    rw [← hT, Rat.intCast_add, Rat.add_mul, signed_dq s m i _ (by omega), signed_dq t n j _ (by omega)]
  generalize hS : (if T = 0 then s && t else decide (T < 0)) = S
  have hw : sg S ((T.natAbs : Rat) * p2 (min i j)) = sg s ((m : Rat) * p2 i) + sg t ((n : Rat) * p2 j) := by
    rw [← hv, ← hS]
    by_cases h0 : T = 0
    · subst h0
      unfold sg
      simp
    · rw [if_neg h0]
      by_cases h2 : T < 0
      · obtain ⟨q, hq⟩ : ∃ q : Nat, T = -(q : Int) := ⟨T.natAbs, by omega⟩
        subst hq
        unfold sg
        simp only [h2, decide_true, if_true, Int.natAbs_neg, Int.natAbs_natCast, Rat.intCast_neg, Rat.intCast_natCast]
        grind
      · obtain ⟨q, hq⟩ : ∃ q : Nat, T = (q : Int) := ⟨T.natAbs, by omega⟩
        subst hq
        unfold sg
        simp only [h2, decide_false, Bool.false_eq_true, if_false, Int.natAbs_natCast, Rat.intCast_natCast]
  rw [← hw] at hf ⊢
  obtain ⟨r, h2, h3, h4⟩ := write_rnd k.format S T.natAbs (min i j) hf
  refine ⟨_, ?_, h4⟩
  show Is k (some (k.format.nearest S T.natAbs (min i j))) _
  rw [h3]
  exact Is.of_word S h2
theorem sg_not (s : Bool) (x : Rat) : sg (!s) x = -sg s x := by cases s <;> simp [sg]
theorem is_sub {k : FloatKind} {x y : Option Nat} {u v : Rat} (hx : Is k x u) (hy : Is k y v) (hf : Fit k.format (u - v)) : ∃ w, Is k (cop .sub k x y) w ∧ Rnd k.format (u - v) w := by
  obtain ⟨a, s, m, i, rfl, hd, rfl⟩ := hx
  obtain ⟨b, t, n, j, rfl, hd', rfl⟩ := hy
  have h1 : cop .sub k (some a) (some b) = Option.map k.format.write ((k.decode a).sum (k.decode b).opposite) := rfl
  rw [h1, hd, hd']
  simp only [Ieee.Datum.opposite, Ieee.Datum.sum]
  generalize hT : Ieee.signed s m (i - min i j).toNat + Ieee.signed (!t) n (j - min i j).toNat = T
  have hv : (T : Rat) * p2 (min i j) = sg s ((m : Rat) * p2 i) - sg t ((n : Rat) * p2 j) := by
    rw [← hT, Rat.intCast_add, Rat.add_mul, signed_dq s m i _ (by omega), signed_dq (!t) n j _ (by omega), sg_not]
    grind
  generalize hS : (if T = 0 then s && !t else decide (T < 0)) = S
  have hw : sg S ((T.natAbs : Rat) * p2 (min i j)) = sg s ((m : Rat) * p2 i) - sg t ((n : Rat) * p2 j) := by
    rw [← hv, ← hS]
    by_cases h0 : T = 0
    · subst h0
      unfold sg
      simp
    · rw [if_neg h0]
      by_cases h2 : T < 0
      · obtain ⟨q, hq⟩ : ∃ q : Nat, T = -(q : Int) := ⟨T.natAbs, by omega⟩
        subst hq
        unfold sg
        simp only [h2, decide_true, if_true, Int.natAbs_neg, Int.natAbs_natCast, Rat.intCast_neg, Rat.intCast_natCast]
        grind
      · obtain ⟨q, hq⟩ : ∃ q : Nat, T = (q : Int) := ⟨T.natAbs, by omega⟩
        subst hq
        unfold sg
        simp only [h2, decide_false, Bool.false_eq_true, if_false, Int.natAbs_natCast, Rat.intCast_natCast]
  rw [← hw] at hf ⊢
  obtain ⟨r, h2, h3, h4⟩ := write_rnd k.format S T.natAbs (min i j) hf
  refine ⟨_, ?_, h4⟩
  show Is k (some (k.format.nearest S T.natAbs (min i j))) _
  rw [h3]
  exact Is.of_word S h2
theorem sg_mul (s t : Bool) (x y : Rat) : sg (s ^^ t) (x * y) = sg s x * sg t y := by cases s <;> cases t <;> simp [sg] <;> grind
theorem is_mul {k : FloatKind} {x y : Option Nat} {u v : Rat} (hx : Is k x u) (hy : Is k y v) (hf : Fit k.format (u * v)) : ∃ w, Is k (cop .mul k x y) w ∧ Rnd k.format (u * v) w := by
  obtain ⟨a, s, m, i, rfl, hd, rfl⟩ := hx
  obtain ⟨b, t, n, j, rfl, hd', rfl⟩ := hy
  have h1 : cop .mul k (some a) (some b) = Option.map k.format.write ((k.decode a).product (k.decode b)) := rfl
  rw [h1, hd, hd']
  simp only [Ieee.Datum.product]
  have hw : sg (s ^^ t) (((m * n : Nat) : Rat) * p2 (i + j)) = sg s ((m : Rat) * p2 i) * sg t ((n : Rat) * p2 j) := by
    rw [← sg_mul, Rat.natCast_mul, p2_add]
    congr 1
    grind
  rw [← hw] at hf ⊢
  obtain ⟨r, h2, h3, h4⟩ := write_rnd k.format (s ^^ t) (m * n) (i + j) hf
  refine ⟨_, ?_, h4⟩
  show Is k (some (k.format.nearest (s ^^ t) (m * n) (i + j))) _
  rw [h3]
  exact Is.of_word _ h2

/-! ### Quotients -/
theorem sg_div (s t : Bool) (x y : Rat) : sg (s ^^ t) (x / y) = sg s x / sg t y := by cases s <;> cases t <;> simp [sg, Rat.div_def] <;> grind
/-- A number of the format is an even number of very small units, or small. -/
theorem rung_units (f : Ieee.Format) (R : Nat) (place : Int) : (∃ K : Nat, rungV f R = ((2 * K : Nat) : Rat) * p2 place) ∨ rungV f R < ((2 ^ (f.fractionBits + 1) : Nat) : Rat) * p2 place := by
  obtain ⟨j, kept, rfl, h1, h2⟩ := rung_split f R
  rw [rungV_form f j kept h1 (by omega)]
  by_cases h : place < f.leastPlace + j
  · left
    obtain ⟨d, hd⟩ := Int.le.dest (show place + 1 ≤ f.leastPlace + j by omega)
    refine ⟨kept * 2 ^ d, ?_⟩
    rw [← hd, p2_add, p2_succ, p2_nat, Rat.natCast_mul, Rat.natCast_mul]
    have : ((2 : Nat) : Rat) = 2 := rfl
    rw [this]
    grind
  · right
    have h3 : ((kept : Nat) : Rat) < ((2 ^ (f.fractionBits + 1) : Nat) : Rat) := cast_lt (by rw [Nat.pow_succ]; unfold Ieee.Format.binade at h2; omega)
    have h4 := mul_lt_r h3 (p2_pos (f.leastPlace + j))
    have h5 := Rat.mul_le_mul_of_nonneg_left (p2_mono (show f.leastPlace + j ≤ place by omega)) (show (0 : Rat) ≤ ((2 ^ (f.fractionBits + 1) : Nat) : Rat) from Rat.natCast_nonneg)
    grind
theorem is_div {k : FloatKind} {x y : Option Nat} {u v : Rat} (hx : Is k x u) (hy : Is k y v) (hv0 : v ≠ 0) (hf : Fit k.format (u / v)) : ∃ w, Is k (cop .quo k x y) w ∧ Rnd k.format (u / v) w := by
  obtain ⟨a, s, m, i, rfl, hd, rfl⟩ := hx
  obtain ⟨b, t, n, j, rfl, hd', rfl⟩ := hy
  have h1 : cop .quo k (some a) (some b) = Option.map k.format.write ((k.decode a).quotient (k.format.fractionBits + 2) (k.decode b)) := rfl
  have hn : n ≠ 0 := by
    intro h
    subst h
    apply hv0
    cases t <;> simp [sg]
  rw [h1, hd, hd']
  simp only [Ieee.Datum.quotient, hn, if_false]
  obtain ⟨more, hmore⟩ : ∃ more, more = k.format.fractionBits + 2 + n.log2 - m.log2 := ⟨_, rfl⟩
  rw [← hmore]
  generalize hq : (m <<< more) / n = q
  generalize ht : (m <<< more) % n = c
  have e0 : m * 2 ^ more = n * q + c := by rw [← hq, ← ht, ← Nat.shiftLeft_eq, Nat.div_add_mod]
  have hc : c < n := by rw [← ht]; exact Nat.mod_lt _ (Nat.pos_of_ne_zero hn)
  -- the exact quotient in units
  obtain ⟨place, hplace⟩ : ∃ place, place = i - j - (more : Int) - 1 := ⟨_, rfl⟩
  rw [← hplace]
  have hnq : (n : Rat) ≠ 0 := by
    intro h
    exact hn (Rat.natCast_eq_zero_iff.1 h)
  have hn0 : (0 : Rat) < (n : Rat) := by have := cast_lt (Nat.pos_of_ne_zero hn); exact this
  have hP := p2_pos place
  obtain ⟨V, hV⟩ : ∃ V : Rat, V = ((m : Rat) * p2 i) / ((n : Rat) * p2 j) := ⟨_, rfl⟩
  have eV : V * (n : Rat) = 2 * ((m : Rat) * ((2 ^ more : Nat) : Rat)) * p2 place := by
    have hpj := p2_pos j
    have e1 : p2 i = p2 place * (2 * ((2 ^ more : Nat) : Rat)) * p2 j := by
      rw [← p2_nat, ← p2_one, ← p2_add, ← p2_add, ← p2_add]
      congr 1
      omega
    have e2 : V * ((n : Rat) * p2 j) = (m : Rat) * p2 i := by
      rw [hV, Rat.div_mul_cancel]
      intro h
      rcases Rat.mul_eq_zero.1 h with h | h <;> grind
    rw [e1] at e2
    have e3 : (V * (n : Rat)) * p2 j = (2 * ((m : Rat) * ((2 ^ more : Nat) : Rat)) * p2 place) * p2 j := by grind
    have e4 : p2 j ≠ 0 := by grind
    have e5 : (V * (n : Rat) - 2 * ((m : Rat) * ((2 ^ more : Nat) : Rat)) * p2 place) * p2 j = 0 := by grind
    rcases Rat.mul_eq_zero.1 e5 with h | h <;> grind
  have eN : ((m : Rat) * ((2 ^ more : Nat) : Rat)) = (n : Rat) * (q : Rat) + (c : Rat) := by
    rw [← Rat.natCast_mul, e0, Rat.natCast_add, Rat.natCast_mul]
  rw [eN] at eV
  have hu : V = (((m : Rat) * p2 i) / ((n : Rat) * p2 j)) := hV
  rw [← sg_div, ← hu] at hf ⊢
  have hV0 : 0 ≤ V := by
    apply Rat.le_of_mul_le_mul_right (c := (n : Rat)) _ hn0
    rw [eV]
    have : (0 : Rat) ≤ (n : Rat) * (q : Rat) := Rat.mul_nonneg Rat.natCast_nonneg Rat.natCast_nonneg
    have : (0 : Rat) ≤ (c : Rat) := Rat.natCast_nonneg
    have := Rat.mul_nonneg (show (0 : Rat) ≤ 2 * ((n : Rat) * (q : Rat) + (c : Rat)) by grind) (Rat.le_of_lt hP)
    grind
  have hlo : ((2 * q : Nat) : Rat) * p2 place ≤ V := by
    apply Rat.le_of_mul_le_mul_right (c := (n : Rat)) _ hn0
    rw [eV, Rat.natCast_mul]
    have : (0 : Rat) ≤ (c : Rat) * p2 place := Rat.mul_nonneg Rat.natCast_nonneg (Rat.le_of_lt hP)
    have e2 : ((2 : Nat) : Rat) = 2 := rfl
    rw [e2]
    grind
  have hhi : V < ((2 * q + 2 : Nat) : Rat) * p2 place := by
    apply Rat.lt_of_mul_lt_mul_right (c := (n : Rat)) _ (Rat.le_of_lt hn0)
    rw [eV, Rat.natCast_add, Rat.natCast_mul]
    have := mul_lt_r (cast_lt hc) hP
    have e2 : ((2 : Nat) : Rat) = 2 := rfl
    rw [e2]
    grind
  obtain ⟨D, hD⟩ : ∃ D, D = 2 * q + (c != 0).toNat := ⟨_, rfl⟩
  rw [← hD]
  have hD1 : 2 * q ≤ D ∧ D < 2 * q + 2 := by rw [hD]; cases hc0 : (c != 0) <;> simp
  have hD2 : ∀ K : Nat, V ≤ ((2 * K : Nat) : Rat) * p2 place → D ≤ 2 * K := by
    intro K hK
    by_cases hc0 : c = 0
    · have : D = 2 * q := by rw [hD, hc0]; simp
      rw [this]
      apply Nat.le_of_not_lt
      intro h
      have := mul_lt_r (cast_lt h) hP
      grind
    · have hlt : ((2 * q : Nat) : Rat) * p2 place < V := by
        apply Rat.lt_of_mul_lt_mul_right (c := (n : Rat)) _ (Rat.le_of_lt hn0)
        rw [eV, Rat.natCast_mul]
        have := mul_lt_r (cast_lt (Nat.pos_of_ne_zero hc0)) hP
        have e2 : ((2 : Nat) : Rat) = 2 := rfl
        have e3 : ((0 : Nat) : Rat) = 0 := rfl
        rw [e3] at this
        rw [e2]
        grind
      have : 2 * q < 2 * K := by
        apply Nat.lt_of_not_le
        intro h
        have := mul_le_r (cast_le h) (Rat.le_of_lt hP)
        grind
      omega
  have hbig : m ≠ 0 → 2 ^ (k.format.fractionBits + 1) ≤ 2 * q := by
    intro hm
    have h2 : 2 ^ m.log2 ≤ m := Nat.log2_self_le hm
    have h3 : n < 2 ^ (n.log2 + 1) := Nat.lt_log2_self
    have h4 : 2 ^ (k.format.fractionBits + 2 + n.log2) ≤ m * 2 ^ more := by
      calc 2 ^ (k.format.fractionBits + 2 + n.log2) ≤ 2 ^ (m.log2 + more) := Nat.pow_le_pow_right (by omega) (by omega)
        _ = 2 ^ m.log2 * 2 ^ more := Nat.pow_add ..
        _ ≤ m * 2 ^ more := Nat.mul_le_mul_right _ h2
    have h5 : 2 ^ (k.format.fractionBits + 2 + n.log2) = 2 ^ (n.log2 + 1) * 2 ^ (k.format.fractionBits + 1) := by rw [← Nat.pow_add]; congr 1; omega
    have h6 : n * 2 ^ (k.format.fractionBits + 1) ≤ 2 ^ (n.log2 + 1) * 2 ^ (k.format.fractionBits + 1) := Nat.mul_le_mul_right _ (by omega)
    have h7 : n * 2 ^ (k.format.fractionBits + 1) < n * (q + 1) := by rw [Nat.mul_add]; omega
    have h8 := Nat.lt_of_mul_lt_mul_left h7
    omega
  obtain ⟨r, h2, h3, h4⟩ := write_near k.format (s ^^ t) D place V hV0 (by
    intro R hR
    rcases rung_units k.format R place with ⟨K, hK⟩ | hlt
    · rw [hK] at hR ⊢
      exact mul_le_r (cast_le (hD2 K hR)) (Rat.le_of_lt hP)
    · by_cases hm : m = 0
      · subst hm
        have e1 : c = 0 ∧ q = 0 := by
          have : n * q + c = 0 := by rw [← e0]; simp
          have h9 : n * q = 0 := by omega
          rcases Nat.mul_eq_zero.1 h9 with h | h
          · exact absurd h hn
          · exact ⟨by omega, h⟩
        have : D = 0 := by rw [hD, e1.1, e1.2]; rfl
        rw [this]
        have := rungV_nonneg k.format R
        simpa using this
      · have := mul_le_r (cast_le (hbig hm)) (Rat.le_of_lt hP)
        grind) (by
    intro R hR
    rcases rung_units k.format R place with ⟨K, hK⟩ | hlt
    · rw [hK] at hR ⊢
      have : 2 * K < 2 * q + 2 := by
        apply Nat.lt_of_not_le
        intro h
        have := mul_le_r (cast_le h) (Rat.le_of_lt hP)
        grind
      exact mul_le_r (cast_le (by omega)) (Rat.le_of_lt hP)
    · by_cases hm : m = 0
      · subst hm
        have e1 : c = 0 ∧ q = 0 := by
          have : n * q + c = 0 := by rw [← e0]; simp
          have h9 : n * q = 0 := by omega
          rcases Nat.mul_eq_zero.1 h9 with h | h
          · exact absurd h hn
          · exact ⟨by omega, h⟩
        have hVz : V ≤ 0 := by rw [hu]; simp [Rat.div_def]
        have : (0 : Rat) ≤ (D : Rat) * p2 place := Rat.mul_nonneg Rat.natCast_nonneg (Rat.le_of_lt hP)
        grind
      · have := mul_le_r (cast_le (hbig hm)) (Rat.le_of_lt hP)
        have := mul_le_r (cast_le hD1.1) (Rat.le_of_lt hP)
        grind) (Fit.sg hf)
  refine ⟨_, ?_, h4⟩
  show Is k (some (k.format.nearest (s ^^ t) D place)) _
  rw [h3]
  exact Is.of_word _ h2
end Go.Proofs.Ytmikeegecifbfaa
