/- Ratios: the contracts at the numbers that the law draws. -/
import Derived.Test.YtmikeegecifbfaaRatB
import Derived.Test.YtmikeegecifbfaaRatC
import Derived.Test.YtmikeegecifbfaaRatD
import Derived.Test.YtmikeegecifbfaaRatE
import Derived.Test.YtmikeegecifbfaaEqa
import Derived.Test.YtmikeegecifbfaaCI
import Derived.Test.YtmikeegecifbfaaCG
namespace Go.Proofs.Ytmikeegecifbfaa
open Go.RowKit
set_option maxRecDepth 100000

theorem rat_all {u v : Nat} (hu : u < 65) (hv : v < 65) : ratChk u v = true := by
  have key : ∀ {a n : Nat}, ratRows a n = true → a ≤ u → u < a + n → ratChk u v = true := by
    intro a n h h1 h2
    unfold ratRows at h
    rw [List.all_eq_true] at h
    have h3 := h (u - a) (by simp; omega)
    rw [List.all_eq_true] at h3
    have h4 := h3 v (by simpa using hv)
    rwa [show a + (u - a) = u by omega] at h4
  by_cases h0 : u < 4
  · exact key rat_b0 (by omega) (by omega)
  by_cases h4 : u < 8
  · exact key rat_b1 (by omega) (by omega)
  by_cases h8 : u < 12
  · exact key rat_b2 (by omega) (by omega)
  by_cases h12 : u < 16
  · exact key rat_b3 (by omega) (by omega)
  by_cases h16 : u < 20
  · exact key rat_c0 (by omega) (by omega)
  by_cases h20 : u < 24
  · exact key rat_c1 (by omega) (by omega)
  by_cases h24 : u < 28
  · exact key rat_c2 (by omega) (by omega)
  by_cases h28 : u < 32
  · exact key rat_c3 (by omega) (by omega)
  by_cases h32 : u < 36
  · exact key rat_d0 (by omega) (by omega)
  by_cases h36 : u < 40
  · exact key rat_d1 (by omega) (by omega)
  by_cases h40 : u < 44
  · exact key rat_d2 (by omega) (by omega)
  by_cases h44 : u < 48
  · exact key rat_d3 (by omega) (by omega)
  by_cases h48 : u < 52
  · exact key rat_e0 (by omega) (by omega)
  by_cases h52 : u < 56
  · exact key rat_e1 (by omega) (by omega)
  by_cases h56 : u < 60
  · exact key rat_e2 (by omega) (by omega)
  by_cases h60 : u < 65
  · exact key rat_e3 (by omega) (by omega)
  · omega
theorem force_is {n : Option Nat} {f : Option Nat → Bool} : forceB n f = f n := by
  unfold forceB
  split <;> rfl
structure RatOk (k s : Option Nat) : Prop where
  hk : amount k = true
  hs : amount s = true
  pos : fgt s (canon .f32 0) = true
  finq : fin (ratioAt k s) = true
  q : amount (ratioAt k s) = true
  finr : fin (reflectAt (ratioAt k s)) = true
  litr : lit (reflectAt (ratioAt k s)) = true
  finb : fin (unratio (reflectAt (ratioAt k s))) = true
  close : near (unratio (reflectAt (ratioAt k s))) (ratioAt k s) (canon .f32 981668463) = true
  q2 : amount (fadd (ratioAt k s) (canon .f32 1056964608)) = true
  finp : fin (reflectAt (fadd (ratioAt k s) (canon .f32 1056964608))) = true
  less : fgt (reflectAt (ratioAt k s)) (reflectAt (fadd (ratioAt k s) (canon .f32 1056964608))) = true
theorem rat_ok {u v : Nat} (hu : u < 65) (hv : v < 65) : RatOk (kOf u) (sOf v) := by
  have h := rat_all hu hv
  unfold ratChk at h
  simp only [force_is, ratTest, qOf, Bool.and_eq_true] at h
  obtain ⟨⟨⟨⟨h1, h2⟩, h3⟩, h4⟩, ⟨⟨⟨⟨⟨⟨h5, h6⟩, h7⟩, h8⟩, h9⟩, h10⟩, h11⟩, h12⟩ := h
  exact ⟨h1, h2, h3, h4, h5, h6, h7, h8, h9, h10, h11, h12⟩
theorem thick_dark : thickAt (canon .f32 1065353216) (canon .f32 0) = canon .f32 0 := by decide +kernel
theorem ratio_dark : fin (ratioAt (canon .f32 1065353216) (canon .f32 0)) = false := by decide +kernel
theorem amount01 : amount (canon .f32 1065353216) = true ∧ amount (canon .f32 0) = true ∧ fin (canon .f32 0) = true ∧ feq (canon .f32 0) (canon .f32 0) = true := by decide +kernel
theorem fA_of {n : Nat} {r W : Nat → Nat} (h : ∀ i, i < n → canon .f32 (r i) = some (W i)) : fA n r = fA n W :=
  fA_congr fun i hi => (canon_eq_some (h i hi)).1
theorem canon_fin {x : Nat} (h : fin (canon .f32 x) = true) : (canon .f32 x).isSome = true := by
  cases hq : canon .f32 x with
  | none => rw [hq] at h; cases h
  | some _ => rfl
/-- All pairs are good. -/
def RatAll (c d : Nat → Option Nat) : Prop := ∀ i, i < 16 → RatOk (c i) (d i)
section
variable {c d q r : Nat → Option Nat}
theorem res_ratio (H : RatAll c d) : ratioRes c d = (fun i => ratioAt (c i) (d i), 0) := by
  unfold ratioRes
  rw [if_pos (by rw [allTo_true fun i hi => (H i hi).hk, allTo_true fun i hi => (H i hi).hs]; rfl)]
  unfold finRes
  rw [if_pos (allTo_true fun i hi => (H i hi).finq)]
theorem res_of (H : RatAll c d) (hq : ∀ i, i < 16 → q i = ratioAt (c i) (d i)) : ofRatioRes q = (fun i => reflectAt (q i), 0) := by
  unfold ofRatioRes
  rw [if_pos (allTo_true fun i hi => by rw [hq i hi]; exact (H i hi).q)]
  unfold finRes
  rw [if_pos (allTo_true fun i hi => by dsimp only; rw [hq i hi]; exact (H i hi).finr)]
theorem res_of2 (H : RatAll c d) (hq : ∀ i, i < 16 → q i = fadd (ratioAt (c i) (d i)) (canon .f32 1056964608)) : ofRatioRes q = (fun i => reflectAt (q i), 0) := by
  unfold ofRatioRes
  rw [if_pos (allTo_true fun i hi => by rw [hq i hi]; exact (H i hi).q2)]
  unfold finRes
  rw [if_pos (allTo_true fun i hi => by dsimp only; rw [hq i hi]; exact (H i hi).finp)]
theorem not_zero_s {k s : Option Nat} (H : RatOk k s) : feq s (canon .f32 0) = false := by
  have h := H.pos
  unfold fgt at h
  unfold feq
  cases ho : cord .f32 s (canon .f32 0) with
  | none => rfl
  | some o => rw [ho] at h; cases o <;> first | rfl | cases h
theorem thick_is {k s : Option Nat} (H : RatOk k s) : thickAt k s = reflectAt (ratioAt k s) := by unfold thickAt; rw [not_zero_s H]; rfl
theorem res_thick (H : RatAll c d) : thickRes c d = (fun i => thickAt (c i) (d i), 0) := by
  unfold thickRes
  rw [if_pos (by rw [allTo_true fun i hi => (H i hi).hk, allTo_true fun i hi => (H i hi).hs]; rfl), if_pos (allTo_true fun i hi => by unfold thickOk; rw [(H i hi).finq, Bool.or_true])]
  unfold finRes
  rw [if_pos (allTo_true fun i hi => by dsimp only; rw [thick_is (H i hi)]; exact (H i hi).finr)]
theorem res_back (H : RatAll c d) (hr : ∀ i, i < 16 → r i = reflectAt (ratioAt (c i) (d i))) : ratioOfRes r = (fun i => unratio (r i), 0) := by
  unfold ratioOfRes
  rw [if_pos (allTo_true fun i hi => by rw [hr i hi]; exact (H i hi).litr)]
  unfold finRes
  rw [if_pos (allTo_true fun i hi => by dsimp only; rw [hr i hi]; exact (H i hi).finb)]
end
/-- A curve with the code 0. -/
def RetOk (n : Nat) (w : World) (p : Nat → Option Nat) (e : Ending) (w' : World) : Prop := ∃ r, e = .returned (.tuple #[.agg (fA n r), .int .i64 0]) ∧ (∀ i, i < n → canon .f32 (r i) = p i) ∧ Below w.heap.size w w'
theorem RetCC.ok {n : Nat} {w : World} {q : (Nat → Option Nat) × Int} {p p' : Nat → Option Nat} {e : Ending} {w' : World} (h : RetCC n w q.1 q.2 e w') (hq : q = (p, 0)) (hp : ∀ i, i < n → p i = p' i) : RetOk n w p' e w' := by
  subst hq
  obtain ⟨r, h1, h2, h3⟩ := h
  exact ⟨r, h1, fun i hi => (h2 i hi).trans (hp i hi), h3⟩
def IsOk (n : Nat) (p : Nat → Option Nat) (u : Value) : Prop := ∃ r, u = .tuple #[.agg (fA n r), .int .i64 0] ∧ Hid (∀ i, i < n → canon .f32 (r i) = p i)
theorem RetOk.is {n : Nat} {w : World} {p : Nat → Option Nat} {e : Ending} {w' : World} (h : RetOk n w p e w') : ∃ u, e = .returned u ∧ IsOk n p u ∧ Below w.heap.size w w' := by
  obtain ⟨r, h1, h2, h3⟩ := h; exact ⟨_, h1, ⟨r, rfl, h2⟩, h3⟩
/-- Of curves with the same numbers. -/
theorem same_any (a b : Nat → Nat) (h : ∀ i, i < 16 → canon .f32 (a i) = canon .f32 (b i)) (w : World) : Calls Try.prog 14 #[.agg (fA 16 a), .agg (fA 16 b)] w (RetB w true) := by
  have h1 := sSameCurve_any a b w
  rw [show (allTo 16 fun i => canon .f32 (a i) == canon .f32 (b i)) = true from allTo_true fun i hi => by rw [h i hi]; exact beq_self_eq_true _] at h1
  exact h1
/-- What the calls of one region give: three functions, by their numbers. -/
def G3 (F1 F2 : FuncId) (Q1 Q2 Q3 : Value → Prop) (f : FuncId) (_ : Array Value) (u : Value) : Prop := if f == F1 then Q1 u else if f == F2 then Q2 u else Q3 u
section
variable {F1 F2 f : FuncId} {Q1 Q2 Q3 : Value → Prop} {args : Array Value} {u : Value}
theorem G3.mk1 (h1 : (f == F1) = true) (h : Q1 u) : G3 F1 F2 Q1 Q2 Q3 f args u := by unfold G3; rw [if_pos h1]; exact h
theorem G3.mk2 (h1 : (f == F1) ≠ true) (h2 : (f == F2) = true) (h : Q2 u) : G3 F1 F2 Q1 Q2 Q3 f args u := by unfold G3; rw [if_neg h1, if_pos h2]; exact h
theorem G3.mk3 (h1 : (f == F1) ≠ true) (h2 : (f == F2) ≠ true) (h : Q3 u) : G3 F1 F2 Q1 Q2 Q3 f args u := by unfold G3; rw [if_neg h1, if_neg h2]; exact h
theorem G3.of1 (h1 : (f == F1) = true) (h : G3 F1 F2 Q1 Q2 Q3 f args u) : Q1 u := by unfold G3 at h; rw [if_pos h1] at h; exact h
theorem G3.of2 (h1 : (f == F1) ≠ true) (h2 : (f == F2) = true) (h : G3 F1 F2 Q1 Q2 Q3 f args u) : Q2 u := by unfold G3 at h; rw [if_neg h1, if_pos h2] at h; exact h
theorem G3.of3 (h1 : (f == F1) ≠ true) (h2 : (f == F2) ≠ true) (h : G3 F1 F2 Q1 Q2 Q3 f args u) : Q3 u := by unfold G3 at h; rw [if_neg h1, if_neg h2] at h; exact h
end
end Go.Proofs.Ytmikeegecifbfaa
