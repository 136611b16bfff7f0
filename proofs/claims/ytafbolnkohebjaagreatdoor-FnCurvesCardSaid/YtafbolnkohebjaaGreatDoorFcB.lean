/- Curves of sixty-fourths: their sums are exact; their ends; texts read back. No program is named here. -/
import Derived.Test.YtafbolnkohebjaaGreatDoorFcA
import Derived.Test.YtafbolnkohebjaaGreatDoorHR
import Derived.Test.YtafbolnkohebjaaGreatDoorCon
import Derived.Test.YtafbolnkohebjaaGreatDoorFnt
namespace Go.Proofs.YtafbolnkohebjaaGreatDoor
open Go.RowKit
set_option maxRecDepth 100000

/-! ### Exact sums -/
def sumN (N : Nat → Nat) : Nat → Nat
  | 0 => 0
  | k + 1 => sumN N k + N k
theorem sumN_le {N : Nat → Nat} {B : Nat} : ∀ {n : Nat}, (∀ i, i < n → N i ≤ B) → sumN N n ≤ n * B
  | 0, _ => by simp [sumN]
  | k + 1, h => by
    have h1 := sumN_le (n := k) fun i hi => h i (by omega)
    have h2 := h k (by omega)
    simp only [sumN, Nat.add_mul, Nat.one_mul]
    omega
theorem sumN_add (N M : Nat → Nat) : ∀ n, sumN (fun i => N i + M i) n = sumN N n + sumN M n
  | 0 => rfl
  | k + 1 => by simp only [sumN, sumN_add N M k]; omega
/-- A whole number of parts. -/
def Prt (q : Nat) (x : Option Nat) (N : Nat) : Prop := Is .f32 x ((N : Rat) * p2 (-(q : Int)))
theorem prt_rep {N q : Nat} (h : N ≤ 16777216) (hq : q ≤ 100) : Rep Ieee.single ((N : Rat) * p2 (-(q : Int))) := by
  have := rep_parts (N : Int) (by omega) (by omega) q hq
  rwa [Rat.intCast_natCast] at this
theorem Prt.add {q N M : Nat} {x y : Option Nat} (hx : Prt q x N) (hy : Prt q y M) (h : N + M ≤ 16777216) (hq : q ≤ 100) : Prt q (fadd x y) (N + M) := by
  have e : (N : Rat) * p2 (-(q : Int)) + (M : Rat) * p2 (-(q : Int)) = ((N + M : Nat) : Rat) * p2 (-(q : Int)) := by rw [Rat.natCast_add]; grind
  have r := prt_rep h hq
  unfold Prt at *
  obtain ⟨w, iw, rw'⟩ := is_add hx hy (by rw [e]; exact r.fit)
  rw [e] at rw'
  rw [rw'.of_rep r] at iw
  exact iw
theorem Prt.mul {q s N M : Nat} {x y : Option Nat} (hx : Prt q x N) (hy : Prt s y M) (h : N * M ≤ 16777216) (hq : q + s ≤ 100) : Prt (q + s) (fmul x y) (N * M) := by
  have e2 : p2 (-((q + s : Nat) : Int)) = p2 (-(q : Int)) * p2 (-(s : Int)) := by rw [← p2_add]; congr 1; omega
  have e : ((N : Rat) * p2 (-(q : Int))) * ((M : Rat) * p2 (-(s : Int))) = ((N * M : Nat) : Rat) * p2 (-((q + s : Nat) : Int)) := by rw [Rat.natCast_mul, e2]; grind
  have r := prt_rep h hq
  unfold Prt at *
  obtain ⟨w, iw, rw'⟩ := is_mul hx hy (by rw [e]; exact r.fit)
  rw [e] at rw'
  rw [rw'.of_rep r] at iw
  exact iw
theorem Prt.sub {q N M : Nat} {x y : Option Nat} (hx : Prt q x N) (hy : Prt q y M) (h : N ≤ 16777216) (hm : M ≤ N) (hq : q ≤ 100) : Prt q (fsub x y) (N - M) := by
  have e : (N : Rat) * p2 (-(q : Int)) - (M : Rat) * p2 (-(q : Int)) = ((N - M : Nat) : Rat) * p2 (-(q : Int)) := by
    have h2 : ((N - M : Nat) : Rat) + (M : Rat) = (N : Rat) := by rw [← Rat.natCast_add, Nat.sub_add_cancel hm]
    grind
  have r := prt_rep (show N - M ≤ 16777216 by omega) hq
  unfold Prt at *
  obtain ⟨w, iw, rw'⟩ := is_sub hx hy (by rw [e]; exact r.fit)
  rw [e] at rw'
  rw [rw'.of_rep r] at iw
  exact iw
theorem Prt.more {q N : Nat} {x : Option Nat} (h : Prt q x N) (s : Nat) : Prt (q + s) x (N * 2 ^ s) := by
  unfold Prt at *
  have e : ((N * 2 ^ s : Nat) : Rat) * p2 (-((q + s : Nat) : Int)) = (N : Rat) * p2 (-(q : Int)) := by
    rw [Rat.natCast_mul, ← p2_nat s, Rat.mul_assoc, ← p2_add]
    congr 2
    omega
  rw [e]
  exact h
theorem prt_zero (q : Nat) : Prt q (canon .f32 0) 0 := by
  unfold Prt
  have e : ((0 : Nat) : Rat) * p2 (-(q : Int)) = 0 := by
    have : ((0 : Nat) : Rat) = 0 := rfl
    rw [this]; grind
  rw [e]
  exact ⟨0, false, 0, -149, by decide, by decide, by decide +kernel⟩
theorem fsum_prt {p : Nat → Option Nat} {N : Nat → Nat} {q B : Nat} (hq : q ≤ 100) : ∀ {n : Nat}, (∀ i, i < n → Prt q (p i) (N i) ∧ N i ≤ B) → n * B ≤ 16777216 → Prt q (fsumTo p n) (sumN N n)
  | 0, _, _ => prt_zero q
  | 1, h, _ => by
    show Prt q (p 0) (0 + N 0)
    rw [Nat.zero_add]
    exact (h 0 (by omega)).1
  | k + 2, h, hB => by
    have ih := fsum_prt hq (n := k + 1) (fun i hi => h i (by omega)) (Nat.le_trans (Nat.mul_le_mul_right B (by omega)) hB)
    have hs := sumN_le (N := N) (B := B) (n := k + 2) fun i hi => (h i hi).2
    exact ih.add (h (k + 1) (by omega)).1 (Nat.le_trans hs hB) hq
theorem prt_eq {q N : Nat} {x y : Nat} (hx : Prt q (canon .f32 x) N) (hy : Prt q (canon .f32 y) N) : FloatKind.f32.format.order x y = some .eq := order_eq (by rw [feq_is hx hy]; simp)
theorem p2_neg_pos (q : Nat) : 0 < p2 (-(q : Int)) := p2_pos _
theorem prt_lt {q N M : Nat} {x y : Option Nat} (hx : Prt q x N) (hy : Prt q y M) : flt x y = decide (N < M) := by
  rw [flt_is hx hy, decide_eq_decide]
  have hp := p2_neg_pos q
  constructor
  · intro h
    refine Nat.lt_of_not_le fun h2 => ?_
    have := Rat.mul_le_mul_of_nonneg_right (cast_le h2) (Rat.le_of_lt hp)
    grind
  · intro h
    exact Rat.mul_lt_mul_of_pos_right (cast_lt h) hp
theorem prt_gt {q N M : Nat} {x y : Option Nat} (hx : Prt q x N) (hy : Prt q y M) : fgt x y = decide (M < N) := by
  rw [fgt_is hx hy]
  have := prt_lt hy hx
  rwa [flt_is hy hx] at this
theorem prt_feq {q N M : Nat} {x y : Option Nat} (hx : Prt q x N) (hy : Prt q y M) : feq x y = decide (N = M) := by
  rw [feq_is hx hy, decide_eq_decide]
  have h1 := prt_lt hx hy
  have h2 := prt_lt hy hx
  rw [flt_is hx hy, decide_eq_decide] at h1
  rw [flt_is hy hx, decide_eq_decide] at h2
  constructor
  · intro h
    refine Nat.le_antisymm (Nat.le_of_not_lt fun hc => ?_) (Nat.le_of_not_lt fun hc => ?_)
    · have := h2.2 hc; rw [h] at this; exact absurd this (Rat.lt_irrefl)
    · have := h1.2 hc; rw [h] at this; exact absurd this (Rat.lt_irrefl)
  · rintro rfl
    rfl
/-! ### What is drawn -/
theorem pw_prt {v : Nat} (h : v < 65) : Prt 6 (canon .f32 (pw v)) v := by
  have e : p2 (-((6 : Nat) : Int)) = 1 / 64 := by decide +kernel
  have i64 : Is .f32 (canon .f32 1115684864) 64 := ⟨_, false, 8388608, -17, rfl, by decide, by decide +kernel⟩
  have := part_is (v : Int) (by omega) (by omega) 6 (by omega) i64 (by rw [e]; decide +kernel)
  rw [Rat.intCast_natCast] at this
  unfold Prt
  rw [pw_canon h, ← plain_word v h]
  exact this
theorem one_prt : Prt 6 (canon .f32 1065353216) 64 := by
  unfold Prt
  have e : ((64 : Nat) : Rat) * p2 (-((6 : Nat) : Int)) = 1 := by decide +kernel
  rw [e]
  exact i1
/-- A mixed number. -/
theorem mix_prt {v u k : Nat} (hv : v < 65) (hu : u < 65) (hk : k ≤ 64) {s : Option Nat} (hs : Prt 6 s k) : Prt 12 (mixOf s (canon .f32 (pw v)) (canon .f32 (pw u))) (v * (64 - k) + u * k) := by
  have h1 := one_prt.sub hs (by omega) hk (by omega)
  have m1 : v * (64 - k) ≤ 64 * 64 := Nat.mul_le_mul (by omega) (by omega)
  have m2 : u * k ≤ 64 * 64 := Nat.mul_le_mul (by omega) hk
  exact ((pw_prt hv).mul h1 (by omega) (by omega)).add ((pw_prt hu).mul hs (by omega) (by omega)) (by omega) (by omega)
theorem mix_between {v u k : Nat} (hk : k ≤ 64) : ¬ (v * (64 - k) + u * k < v * 64 ∧ v * (64 - k) + u * k < u * 64) ∧ ¬ (v * 64 < v * (64 - k) + u * k ∧ u * 64 < v * (64 - k) + u * k) := by
  have e1 : v * 64 = v * (64 - k) + v * k := by rw [← Nat.mul_add]; congr 1; omega
  have e2 : u * 64 = u * (64 - k) + u * k := by rw [← Nat.mul_add]; congr 1; omega
  rcases Nat.le_total v u with h | h
  · have h1 := Nat.mul_le_mul_right k h
    have h2 := Nat.mul_le_mul_right (64 - k) h
    omega
  · have h1 := Nat.mul_le_mul_right k h
    have h2 := Nat.mul_le_mul_right (64 - k) h
    omega
/-! ### Ends -/
theorem best_key {lt : Option Nat → Option Nat → Bool} {c : Nat → Option Nat} {K : Nat → Nat} {n : Nat} (hs : ∀ i, i < n → (c i).isSome = true) (hl : ∀ i j, i < n → j < n → lt (c i) (c j) = decide (K i < K j)) :
    ∀ k, k < n → ∃ b, bestTo lt c (k + 1) = some b ∧ b < k + 1 ∧ (∀ j, j < k + 1 → K b ≤ K j) ∧ ∀ j, j < b → K b < K j
  | 0, h => ⟨0, by show stepTo lt c 0 (bestTo lt c 0) = _; simp [stepTo, bestTo, hs 0 (by omega)], by omega, fun j hj => (by have e : j = 0 := (by omega); subst e; exact Nat.le_refl _), fun j hj => absurd hj (by omega)⟩
  | k + 1, h => by
    obtain ⟨b, e, hb, h1, h2⟩ := best_key hs hl k (by omega)
    have e2 : bestTo lt c (k + 1 + 1) = if lt (c (k + 1)) (c b) then some (k + 1) else some b := by
      show stepTo lt c (k + 1) (bestTo lt c (k + 1)) = _
      rw [e]
      simp [stepTo, hs (k + 1) h]
    rw [e2, hl (k + 1) b h (by omega)]
    by_cases hc : K (k + 1) < K b
    · refine ⟨k + 1, by simp [hc], by omega, fun j hj => ?_, fun j hj => ?_⟩
      · by_cases ej : j = k + 1
        · subst ej; exact Nat.le_refl _
        · have := h1 j (by omega); omega
      · have := h1 j (by omega); omega
    · refine ⟨b, by simp [hc], by omega, fun j hj => ?_, h2⟩
      by_cases ej : j = k + 1
      · subst ej; omega
      · exact h1 j (by omega)
theorem least_of {V : Nat → Nat} (hV : ∀ i, V i < 65) : ∃ b, bestTo flt (fun i => canon .f32 (pw (V i))) 16 = some b ∧ b < 16 ∧ (∀ j, j < 16 → V b ≤ V j) ∧ ∀ j, j < b → V b < V j :=
  best_key (n := 16) (fun i _ => by rw [pw_canon (hV i)]; rfl) (fun i j _ _ => prt_lt (pw_prt (hV i)) (pw_prt (hV j))) 15 (by omega)
theorem greatest_of {V : Nat → Nat} (hV : ∀ i, V i < 65) : ∃ b, bestTo fgt (fun i => canon .f32 (pw (V i))) 16 = some b ∧ b < 16 ∧ (∀ j, j < 16 → V j ≤ V b) ∧ ∀ j, j < b → V j < V b := by
  obtain ⟨b, h1, h2, h3, h4⟩ := best_key (lt := fgt) (c := fun i => canon .f32 (pw (V i))) (K := fun i => 64 - V i) (n := 16) (fun i _ => by rw [pw_canon (hV i)]; rfl) (fun i j _ _ => by
    rw [prt_gt (pw_prt (hV i)) (pw_prt (hV j)), decide_eq_decide]
    have := hV i
    have := hV j
    omega) 15 (by omega)
  refine ⟨b, h1, h2, fun j hj => ?_, fun j hj => ?_⟩
  · have := h3 j hj; have := hV j; have := hV b; omega
  · have := h4 j hj; have := hV j; have := hV b; omega
/-! ### Texts -/
theorem canon_bits (a : Nat) : canon .f32 (bitsOf (canon .f32 a)) = canon .f32 a := by
  cases h : canon .f32 a with
  | none => decide
  | some y =>
    obtain ⟨rfl, _⟩ := canon_eq_some h
    exact h
theorem read_number {a : Nat} (ha : Wd a) {e : Ending} (h : ReadN (hexT (bitsOf (canon .f32 a))) e) : e = .returned (.tuple #[.float .f32 (bitsOf (canon .f32 a)), .int .i64 0]) := by
  rcases h with ⟨x, hx, ht, _, rfl⟩ | ⟨hno, _⟩
  · rw [hexT_inj ha hx ht]
  · exact absurd rfl (hno _ ha (bits_idem _))
theorem read_curve {c : Nat → Nat} (hc : ∀ i, i < 16 → Wd (c i)) {e : Ending} (h : ReadC (rowT (fun i => bitsOf (canon .f32 (c i))) 16) e) : ∃ y, e = .returned (.tuple #[.agg (fA 16 y), .int .i64 0]) ∧ ∀ i, i < 16 → canon .f32 (y i) = canon .f32 (c i) := by
  have hg := good_rowT c hc
  rcases h with ⟨x, hx, rfl⟩ | ⟨hno, _⟩
  · exact ⟨x, rfl, fun i hi => by rw [hx.uniq hg i hi]; exact canon_bits _⟩
  · exact absurd hg (hno _)
end Go.Proofs.YtafbolnkohebjaaGreatDoor
