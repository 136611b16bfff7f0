/- What the law of roots asks: third roots, powers of powers, powers of greater numbers. No program is named here. -/
import Derived.Test.YtghmonkoleegjaaPlt
import Derived.Test.YtghmonkoleegjaaFnt
import Derived.Test.YtghmonkoleegjaaCbr
namespace Go.Proofs.Ytghmonkoleegjaa
open Go.RowKit
set_option maxRecDepth 100000

def aOf (n : Int) : Option Nat := fdiv (fint n) (canon .f32 1115684864)
def bOf (m : Nat) : Option Nat := fdiv (fint (1 + (m : Int))) (canon .f32 1098907648)
def xOf (i : Nat) : Option Nat := fdiv (fint (i : Int)) (canon .f32 1090519040)
theorem p4 : p2 (-((4 : Nat) : Int)) = 1 / 16 := by decide +kernel
theorem p3 : p2 (-((3 : Nat) : Int)) = 1 / 8 := by decide +kernel
theorem p6 : p2 (-((6 : Nat) : Int)) = 1 / 64 := by decide +kernel
theorem aOf_is (n : Int) (h1 : -32768 ≤ n) (h2 : n ≤ 32767) : Is .f32 (aOf n) ((n : Rat) * (1 / 64)) := by
  have h := part_is n (by omega) (by omega) 6 (by omega) i64 (by rw [p6]; grind)
  rw [p6] at h
  exact h
theorem bOf_is (m : Nat) (h : m < 64) : Is .f32 (bOf m) (((m : Rat) + 1) * (1 / 16)) := by
  have h := part_is (1 + (m : Int)) (by omega) (by omega) 4 (by omega) i16 (by rw [p4]; grind)
  rw [p4, Rat.intCast_add, Rat.intCast_natCast] at h
  have e : ((1 : Int) : Rat) = 1 := rfl
  rw [e, Rat.add_comm] at h
  exact h
theorem xOf_is (i : Nat) (h : i < 17) : Is .f32 (xOf i) ((i : Rat) * (1 / 8)) := by
  have h := part_is (i : Int) (by omega) (by omega) 3 (by omega) i8 (by rw [p3]; grind)
  rw [p3, Rat.intCast_natCast] at h
  exact h
/-- The size of a number. -/
def sizeOf' (a : Option Nat) : Option Nat := if flt a (canon .f32 0) then cneg .f32 a else a
structure CubeOk (a r s : Option Nat) : Prop where
  root : cubeRes a = (r, 0)
  other : cubeRes (cneg .f32 a) = (s, 0)
  same : feq r r = true
  neg : feq s (cneg .f32 r) = true
  near : near (fmul (fmul r r) r) a (fadd (fmul (sizeOf' a) (canon .f32 925353388)) (canon .f32 925353388)) = true
theorem cube_ok (n : Int) (h1 : -32768 ≤ n) (h2 : n ≤ 32767) : ∃ r s, CubeOk (aOf n) r s := by
  have ia := aOf_is n h1 h2
  obtain ⟨v, hv⟩ : ∃ v, v = (n : Rat) * (1 / 64) := ⟨_, rfl⟩
  rw [← hv] at ia
  have n1 : (-32768 : Rat) ≤ (n : Rat) := by have := Rat.intCast_le_intCast.2 h1; simpa using this
  have n2 : (n : Rat) ≤ 32767 := by have := Rat.intCast_le_intCast.2 h2; simpa using this
  have n3 : (n : Rat) = 0 ∨ 1 ≤ (n : Rat) ∨ (n : Rat) ≤ -1 := by
    rcases Int.lt_trichotomy n 0 with h | h | h
    · right; right
      have := Rat.intCast_le_intCast.2 (show n ≤ -1 by omega); simpa using this
    · left; rw [h]; rfl
    · right; left
      have := Rat.intCast_le_intCast.2 (show 1 ≤ n by omega); simpa using this
  obtain ⟨R, E, iR, iS, R4, R5, E0, hE, c1, c2⟩ := cbrt_all ia (by grind) (by grind) (by grind)
  refine ⟨cbrt (aOf n), cbrt (cneg .f32 (aOf n)), ⟨by unfold cubeRes; rw [fin_is.2 ⟨v, ia⟩]; rfl, by unfold cubeRes; rw [fin_is.2 ⟨_, is_cneg ia⟩]; rfl, by rw [feq_is iR iR]; simp, by rw [feq_is iS (is_cneg iR)]; simp, ?_⟩⟩
  -- the size
  obtain ⟨z, hz⟩ : ∃ z : Rat, z = if v < 0 then -v else v := ⟨_, rfl⟩
  have isz : Is .f32 (sizeOf' (aOf n)) z := by
    unfold sizeOf'
    rw [flt_is ia zero32, hz]
    by_cases h : v < 0
    · simp only [h, decide_true, if_true]; exact is_cneg ia
    · simp only [h, decide_false, Bool.false_eq_true, if_false]; exact ia
  rw [← hz] at hE
  have z0 : 0 ≤ z := by rw [hz]; split <;> grind
  have z1 : z ≤ 512 := by rw [hz]; split <;> grind
  have zv : v ≤ z ∧ -v ≤ z := by rw [hz]; split <;> grind
  obtain ⟨k1, k2⟩ := e5_near
  obtain ⟨B0, E0'⟩ := k_0
  have m1 := Rat.mul_nonneg z0 (show 0 ≤ e5V - 999999 / 100000000000 by grind)
  have m2 := Rat.mul_nonneg z0 (show 0 ≤ 1 / 100000 - e5V by grind)
  obtain ⟨w1, i1', r1⟩ := is_mul isz ie5 (fit_k 0 B0 (by decide) (by grind) (by grind))
  have tiny : p2 (-149) ≤ 1 / 1000000000000 := by decide +kernel
  have p127 : (1024 : Rat) ≤ p2 127 := by have := p2_mono (show (10 : Int) ≤ 127 by decide); have e := k_10.1; grind
  have q1 := r1.rel (by grind) (by grind)
  obtain ⟨w2, i2', r2⟩ := is_add i1' ie5 (fit_k 0 B0 (by decide) (by grind) (by grind))
  have q2 := r2.rel (by grind) (by grind)
  have bnd : z * (9 / 1000000) + 9 / 1000000 ≤ w2 := by grind
  -- the third power
  have hc1 : R * R * R ≤ v + E := c1
  have s0 : 0 ≤ R * R := by
    rcases Rat.le_total (a := 0) (b := R) with h | h
    · exact Rat.mul_nonneg h h
    · have := Rat.mul_nonneg (show 0 ≤ -R by grind) (show 0 ≤ -R by grind); grind
  have s1 : R * R ≤ 160000 := by have := Rat.mul_nonneg (show 0 ≤ 400 - R by grind) (show 0 ≤ 400 + R by grind); grind
  have p18 : p2 18 = 262144 := by decide +kernel
  have p18' : (262144 : Rat) ≤ p2 127 := by have := p2_mono (show (18 : Int) ≤ 127 by decide); grind
  obtain ⟨w3, i3', r3⟩ := is_mul iR iR (fit_k 18 p18 (by decide) (by grind) (by grind))
  have q3 := r3.rel s0 (by grind)
  -- the size of R, and of its third power
  obtain ⟨Z, hZ⟩ : ∃ Z, Z = R * R * R := ⟨_, rfl⟩
  have zz : Z ≤ 513 ∧ -513 ≤ Z := by rw [hZ]; grind
  have hw3 : w3 * R ≤ Z + (if 0 ≤ R then Z else -Z) * (1 / 4000000) + 1 / 1000000000 ∧ Z ≤ w3 * R + (if 0 ≤ R then Z else -Z) * (1 / 4000000) + 1 / 1000000000 := by
    by_cases h : 0 ≤ R
    · rw [if_pos h]
      have a1 := Rat.mul_nonneg (show 0 ≤ R * R + R * R * (1 / 8388608) + 1 / 1000000000000 - w3 by grind) h
      have a2 := Rat.mul_nonneg (show 0 ≤ w3 + R * R * (1 / 8388608) + 1 / 1000000000000 - R * R by grind) h
      have a3 := Rat.mul_nonneg s0 h
      constructor <;> grind
    · rw [if_neg h]
      have a1 := Rat.mul_nonneg (show 0 ≤ R * R + R * R * (1 / 8388608) + 1 / 1000000000000 - w3 by grind) (show 0 ≤ -R by grind)
      have a2 := Rat.mul_nonneg (show 0 ≤ w3 + R * R * (1 / 8388608) + 1 / 1000000000000 - R * R by grind) (show 0 ≤ -R by grind)
      have a3 := Rat.mul_nonneg s0 (show 0 ≤ -R by grind)
      constructor <;> grind
  obtain ⟨B10, E10⟩ := k_10
  have aZ : (if 0 ≤ R then Z else -Z) ≤ z + E := by split <;> grind
  obtain ⟨w4, i4', r4⟩ := is_mul i3' iR (fit_k 10 B10 (by decide) (by grind) (by grind))
  have q4 : w4 ≤ w3 * R + (z + E) * (1 / 4000000) + 1 / 100000000 ∧ w3 * R ≤ w4 + (z + E) * (1 / 4000000) + 1 / 100000000 := by
    by_cases h : 0 ≤ w3 * R
    · have := r4.rel h (by grind)
      constructor <;> grind
    · have := r4.neg.rel (by grind) (by grind)
      constructor <;> grind
  exact near_of i4' ia i2' (by grind) (by grind)
end Go.Proofs.Ytghmonkoleegjaa
