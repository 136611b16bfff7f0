/- What the walk of the law of hidden backings asks, said of words. No program is named here. -/
import Derived.Test.YtfpjiclkhjdihaaFlF
import Derived.Test.YtfpjiclkhjdihaaCN
import Derived.Test.YtfpjiclkhjdihaaCR
import Derived.Test.YtfpjiclkhjdihaaGen
namespace Go.Proofs.Ytfpjiclkhjdihaa
open Go.RowKit
set_option maxRecDepth 100000

section
variable {A : Nat → Nat} {K S : Nat → Rat} {n : Nat}
def kOf (A : Nat → Nat) : Nat → Option Nat := fun i => canon .f32 (rowAt A 0 i)
def sOf (A : Nat → Nat) : Nat → Option Nat := fun i => canon .f32 (rowAt A 16 i)
theorem kOf_is (h : Lay (fun i => canon .f32 (A i)) K S n) : ∀ i, i < 16 → Is .f32 (kOf A i) (K i) ∧ 0 ≤ K i ∧ K i ≤ 1 := fun i hi => by
  have := h.k i hi
  simpa [kOf, rowAt] using this
theorem sOf_is (h : Lay (fun i => canon .f32 (A i)) K S n) : ∀ i, i < 16 → Is .f32 (sOf A i) (S i) ∧ 0 ≤ S i ∧ S i ≤ 8 := fun i hi => h.s i hi
theorem hid_thick (h : Lay (fun i => canon .f32 (A i)) K S n) {m : Nat} (hm : m < 32) {con : Option Nat} (hc : con = fdiv (fint (1 + (m : Nat))) (canon .f32 1115684864)) :
    thickForRes (kOf A) (sOf A) con = (fzero, 6) ∨ ∃ m, 1 ≤ m ∧ m ≤ 256 ∧ thickForRes (kOf A) (sOf A) con = (eighth m, 0) ∧ (conAt (kOf A) (sOf A) m).2 = 0 ∧ fle (conAt (kOf A) (sOf A) m).1 con = true ∧ (2 ≤ m → (conAt (kOf A) (sOf A) (m - 1)).2 = 0 ∧ fle (conAt (kOf A) (sOf A) (m - 1)).1 con = false) :=
  thick_for (kOf_is h) (sOf_is h) (by rw [hc]; exact (bound_ok m hm).1)
/-- The layer with another thickness. -/
theorem layer_words {x m : Nat} (hx : canon .f32 x = eighth m) (i : Nat) : canon .f32 (layer3 (rowAt A 0) (rowAt A 16) x i) = layP (kOf A) (sOf A) (eighth m) i := by
  unfold layer3 layP kOf sOf
  split
  · rfl
  · split
    · rfl
    · exact hx
theorem Lay.to {a b : Nat → Option Nat} {m : Nat} (h : Lay a K S m) (e : ∀ i, i < 33 → b i = a i) : Lay b K S m :=
  ⟨fun i hi => by rw [e i (by omega)]; exact h.k i hi, fun i hi => by rw [e (16 + i) (by omega)]; exact h.s i hi, by rw [e 32 (by omega)]; exact h.x⟩
theorem hid_layer (h : Lay (fun i => canon .f32 (A i)) K S n) {x m : Nat} (hm : m ≤ 256) (hx : canon .f32 x = eighth m) : layerRes (rowAt A 0) (rowAt A 16) x = (layP (kOf A) (sOf A) (eighth m), 0) := by
  have hL := lay_P (kOf_is h) (sOf_is h) m hm
  have hL2 : Lay (fun i => canon .f32 (layer3 (rowAt A 0) (rowAt A 16) x i)) K S m := hL.to fun i _ => layer_words hx i
  unfold layerRes
  rw [if_pos (layer_ok hL2)]
  exact congrArg (fun p => (p, (0 : Int))) (funext fun i => layer_words hx i)
/-- The contrast of that layer. -/
theorem hid_con (h : Lay (fun i => canon .f32 (A i)) K S n) {Y : Nat → Nat} {m : Nat} (hm : m ≤ 256) (hY : ∀ i, i < 33 → canon .f32 (Y i) = layP (kOf A) (sOf A) (eighth m) i) : conMade (filmOfRes Y) = conAt (kOf A) (sOf A) m := by
  have hL := lay_P (kOf_is h) (sOf_is h) m hm
  unfold filmOfRes
  rw [if_pos (layer_ok (hL.to hY))]
  exact conMade_congr hY
theorem hid_less {Y : Nat → Nat} {v m : Nat} (hm : m < 255) (hY : ∀ i, i < 33 → canon .f32 (Y i) = layP (kOf A) (sOf A) (eighth (m + 2)) i) {d : Nat} (hd : canon .f32 d = eighth (m + 2)) (hv : canon .f32 v = fsub (canon .f32 d) (canon .f32 1040187392)) : ∀ i, i < 33 → canon .f32 (upd Y 32 v i) = layP (kOf A) (sOf A) (eighth (m + 1)) i := by
  intro i hi
  unfold upd
  by_cases h : i = 32
  · subst h
    rw [if_pos rfl, hv, hd, eighth_less m hm]
    simp [layP]
  · rw [if_neg h, hY i hi]
    unfold layP
    split
    · rfl
    · rw [if_pos (by omega), if_pos (by omega)]
/-- A film of words. -/
def HFilm (F : Nat → Nat) : Prop := ∃ R T : Nat → Rat, Made (fun i => canon .f32 (F i)) R T (if 0 ≤ 32 then 29 / 1000 else 1 / 400)
theorem Made.to {p q : Nat → Option Nat} {R T : Nat → Rat} {c : Rat} (h : Made p R T c) (e : ∀ i, i < 48 → q i = p i) : Made q R T c :=
  ⟨fun i hi => by rw [e i (by omega), e (16 + i) (by omega), e (32 + i) (by omega)]; exact h.r i hi, h.r0, h.t0, h.sum, h.small, fun i hi => by rw [e i (by omega), e (16 + i) (by omega)]; exact h.back i hi, fun i hi b => by rw [e i (by omega)]; exact h.lt i hi b⟩
theorem hid_film (h : Lay (fun i => canon .f32 (A i)) K S n) (hn : n < 33) : filmOfRes A = (filmAt fun i => canon .f32 (A i), 0) ∧ ∀ F : Nat → Nat, (∀ i, i < 48 → canon .f32 (F i) = filmAt (fun i => canon .f32 (A i)) i) → HFilm F := by
  refine ⟨film_res h (by omega), fun F hF => ?_⟩
  obtain ⟨R, T, hM⟩ := (film_made h (by omega)).2
  rw [if_pos (by omega)] at hM
  exact ⟨R, T, hM.to hF⟩
end
/-- A flat backing. -/
theorem hid_over {F Q : Nat → Nat} (h : HFilm F) {b : Rat} (hq : ∀ i, i < 16 → Is .f32 (canon .f32 (Q i)) b) (b0 : 0 ≤ b) (b1 : b ≤ 1) : overBackingRes F Q = (overAt (fun i => canon .f32 (F i)) fun i => canon .f32 (Q i), 0) := by
  obtain ⟨R, T, hM⟩ := h
  unfold overBackingRes
  rw [if_pos (film_ok (fun _ _ => rfl) hM (by decide +kernel))]
  exact (over_res hM hq b0 b1).1
theorem back_is : ∀ m, m < 4 → ∃ b : Rat, Is .f32 (fdiv (fint (1 + (m : Nat))) (canon .f32 1082130432)) b ∧ 1 / 4 ≤ b ∧ b ≤ 1 := by
  intro m hm
  have V0 : (0 : Rat) ≤ (m : Rat) := Rat.natCast_nonneg
  have V1 : (m : Rat) ≤ 3 := by have := cast_le (show m ≤ 3 by omega); rw [show ((3 : Nat) : Rat) = 3 from rfl] at this; exact this
  have ii : Is .f32 (fint (1 + (m : Int))) (1 + (m : Rat)) := by have := fint_is (1 + (m : Int)) (by omega) (by omega); rw [Rat.intCast_add, Rat.intCast_natCast] at this; exact this
  have i4' : Is .f32 (canon .f32 1082130432) 4 := ⟨_, false, 8388608, -21, rfl, by decide, by decide +kernel⟩
  obtain ⟨q, iq, rq⟩ := nr_div (q := (1 + (m : Rat)) / 4) 0 k_0.1 k_0.2 (by decide) (by decide) ii i4' (by decide) (by grind) (by grind) (by grind)
  exact ⟨q, iq, rq.rnd.dn _ rep_quarter.1 (by grind), rq.top⟩
theorem zero_back : Is .f32 (canon .f32 0) 0 := ⟨0, false, 0, -149, by decide, by decide, by decide +kernel⟩
section
variable {F Z Q B O : Nat → Nat} (h : HFilm F) (hz : ∀ i, i < 16 → canon .f32 (Z i) = canon .f32 0) {b : Rat} (hq : ∀ i, i < 16 → Is .f32 (canon .f32 (Q i)) b) (b0 : 1 / 4 ≤ b) (b1 : b ≤ 1)
  (hB : ∀ i, i < 16 → canon .f32 (B i) = overAt (fun i => canon .f32 (F i)) (fun i => canon .f32 (Z i)) i) (hO : ∀ i, i < 16 → canon .f32 (O i) = overAt (fun i => canon .f32 (F i)) (fun i => canon .f32 (Q i)) i)
include h hz hq b0 b1 hB
theorem hid_black {i : Nat} (hi : i < 16) : FloatKind.f32.format.order (B i) (F i) = some .eq := by
  obtain ⟨R, T, hM⟩ := h
  apply order_eq
  rw [hB i hi]
  exact (found_again (n := 0) hM (fun i hi => by rw [hz i hi]; exact zero_back) hq b0 b1 hi).2
include hO
theorem hid_again {G : Nat → Nat} (hG : ∀ i, i < 48 → canon .f32 (G i) = twoAt (fun i => canon .f32 (B i)) (fun i => canon .f32 (O i)) (fun i => canon .f32 (Q i)) i) {i : Nat} (hi : i < 16) : near (canon .f32 (G (32 + i))) (canon .f32 (F (32 + i))) (canon .f32 1008981770) = true := by
  obtain ⟨R, T, hM⟩ := h
  have e : canon .f32 (G (32 + i)) = twoAt (overAt (fun i => canon .f32 (F i)) fun i => canon .f32 (Z i)) (overAt (fun i => canon .f32 (F i)) fun i => canon .f32 (Q i)) (fun i => canon .f32 (Q i)) (32 + i) := by
    rw [hG _ (by omega)]
    unfold twoAt
    rw [if_neg (by omega), if_neg (by omega), if_neg (by omega), if_neg (by omega), show 32 + i - 32 = i by omega]; show twoT (canon .f32 (B i)) (canon .f32 (O i)) (canon .f32 (Q i)) = _; rw [hB i hi, hO i hi]
  rw [e]
  exact (found_again (n := 0) hM (fun i hi => by rw [hz i hi]; exact zero_back) hq b0 b1 hi).1
end
theorem le_not_gt {x y : Nat} (h : fle (canon .f32 x) (canon .f32 y) = true) : (FloatKind.f32.format.order x y == some .gt) = false := by
  rw [o_gt]
  unfold fle at h
  unfold fgt
  generalize cord .f32 (canon .f32 x) (canon .f32 y) = c at *
  cases c with
  | none => rfl
  | some o => cases o <;> first | rfl | exact absurd h (by decide)
theorem not_le_order {x y : Nat} (h : fle (canon .f32 x) (canon .f32 y) = false) : (FloatKind.f32.format.order x y == some .lt || FloatKind.f32.format.order x y == some .eq) = false := by
  rw [o_le]
  exact h
theorem con_pair {A : Nat → Nat} {K S : Nat → Rat} {n m : Nat} (h : Lay (fun i => canon .f32 (A i)) K S n) (hm : m ≤ 256) {Y : Nat → Nat} (hY : ∀ i, i < 33 → canon .f32 (Y i) = layP (kOf A) (sOf A) (eighth m) i) (h2 : (conAt (kOf A) (sOf A) m).2 = 0) : conMade (filmOfRes Y) = ((conAt (kOf A) (sOf A) m).1, 0) := by
  rw [hid_con h hm hY, ← h2]
theorem word_of {x : Nat} {m : Nat} (hm : m < 257) (h : canon .f32 x = eighth m) : FloatKind.f32.format.order x x = some .eq := order_eq (by rw [h]; exact (eighth_same m hm).1)
theorem word_same {x y : Nat} {m : Nat} (hm : m < 257) (h : canon .f32 x = eighth m) (h2 : canon .f32 y = eighth m) : y = x := by
  obtain ⟨b, hb⟩ := Option.isSome_iff_exists.1 (eighth_same m hm).2
  rw [hb] at h h2
  rw [(canon_eq_some h).1, (canon_eq_some h2).1]
theorem thick_word {q : Option Nat × Int} {P : Nat → Prop} {D E : Nat} (h : q = (fzero, 6) ∨ ∃ m, 1 ≤ m ∧ m ≤ 256 ∧ q = (eighth m, 0) ∧ P m) (hD : canon .f32 D = q.1) (hE : canon .f32 E = q.1) : E = D ∧ FloatKind.f32.format.order D D = some .eq := by
  have key : ∃ b, q.1 = some b := by
    rcases h with rfl | ⟨m, _, h2, rfl, _⟩
    · exact ⟨0, rfl⟩
    · exact Option.isSome_iff_exists.1 (eighth_same m (by omega)).2
  obtain ⟨b, hb⟩ := key
  rw [hb] at hD hE
  exact ⟨by rw [(canon_eq_some hD).1, (canon_eq_some hE).1], order_refl (by rw [hD]; rfl)⟩
theorem over_flat {p : Nat → Option Nat} {r : Nat → Nat} {c : Option Nat} (h : ∀ i, i < 16 → canon .f32 (r i) = c) : ∀ i, i < 16 → overAt p (fun i => canon .f32 (r i)) i = overAt p (fun _ => c) i := by
  intro i hi
  have e := h i hi
  simp only [overAt, e]
theorem two_code {b o q : Nat → Option Nat} (h : (twoRes b o q).2 = 0) : twoRes b o q = (twoAt b o q, 0) := by
  unfold twoRes at h ⊢
  split at h
  · split at h
    · rename_i h1 h2; rw [if_pos h1, if_pos h2]
    · exact absurd h (by decide)
  · exact absurd h (by decide)
theorem same_words {a b : Nat → Nat} (h : ∀ i, i < 48 → canon .f32 (a i) = canon .f32 (b i)) : sameFilm a b = true := by
  have key : ∀ o, o + 16 ≤ 48 → same16 (rowAt a o) (rowAt b o) = true := fun o ho => allTo_true fun i hi => by unfold rowAt; rw [h (o + i) (by omega)]; exact beq_self_eq_true _
  unfold sameFilm
  rw [key 0 (by omega), key 16 (by omega), key 32 (by omega)]
  rfl
end Go.Proofs.Ytfpjiclkhjdihaa
