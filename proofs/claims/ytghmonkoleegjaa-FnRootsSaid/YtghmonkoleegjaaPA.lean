/- Contracts: math.Frexp, math.Ldexp and math.Floor of positive normal numbers. -/
import Derived.Test.YtghmonkoleegjaaCL
import Derived.Test.YtghmonkoleegjaaPw
import Derived.IntWalk
namespace Go.Proofs.Ytghmonkoleegjaa
open Go.RowKit
set_option maxRecDepth 100000

theorem u64_nat (y : Nat) (h : y < 18446744073709551616) : IntKind.u64.wrap (y : Int) = (y : Int) := by
  simp [IntKind.wrap, IntKind.signed, IntKind.bits]
  omega
theorem bits_and (x y : Nat) (hx : x < 18446744073709551616) (hy : y < 18446744073709551616) : bits .and .u64 (x : Int) (y : Int) = ((x &&& y : Nat) : Int) := by
  have h : (BitVec.ofInt 64 (x : Int) &&& BitVec.ofInt 64 (y : Int)).toNat = x &&& y := by
    rw [BitVec.toNat_and, BitVec.toNat_ofInt, BitVec.toNat_ofInt]
    congr 1 <;> omega
  show IntKind.u64.wrap ((BitVec.ofInt 64 (x : Int) &&& BitVec.ofInt 64 (y : Int)).toNat : Int) = _
  rw [h]
  exact u64_nat _ (Nat.lt_of_le_of_lt Nat.and_le_left hx)
theorem bits_or (x y : Nat) (hx : x < 18446744073709551616) (hy : y < 18446744073709551616) : bits .or .u64 (x : Int) (y : Int) = ((x ||| y : Nat) : Int) := by
  have h : (BitVec.ofInt 64 (x : Int) ||| BitVec.ofInt 64 (y : Int)).toNat = x ||| y := by
    rw [BitVec.toNat_or, BitVec.toNat_ofInt, BitVec.toNat_ofInt]
    congr 1 <;> omega
  show IntKind.u64.wrap ((BitVec.ofInt 64 (x : Int) ||| BitVec.ofInt 64 (y : Int)).toNat : Int) = _
  rw [h]
  exact u64_nat _ (Nat.or_lt_two_pow (n := 64) hx hy)
theorem bits_clear (x : Nat) (hx : x < 9223372036854775808) : bits .andNot .u64 (x : Int) 9218868437227405312 = ((x % 4503599627370496 : Nat) : Int) := by
  have h : (BitVec.ofInt 64 (x : Int) &&& ~~~ BitVec.ofInt 64 9218868437227405312).toNat = x % 4503599627370496 := by
    rw [BitVec.toNat_and, show (~~~ BitVec.ofInt 64 9218868437227405312).toNat = 2 ^ 63 ||| (2 ^ 52 - 1) by decide, Nat.and_or_distrib_left, Nat.and_two_pow_sub_one_eq_mod, BitVec.toNat_ofInt]
    have e : ((x : Int) % ((2 ^ 64 : Nat) : Int)).toNat = x := by omega
    rw [e]
    have e2 : x &&& 2 ^ 63 = 0 := by
      apply Nat.eq_of_testBit_eq
      intro i
      rw [Nat.testBit_and, Nat.testBit_two_pow, Nat.zero_testBit]
      by_cases h : 63 = i
      · subst h
        rw [Nat.testBit_lt_two_pow hx]
        rfl
      · simp [h]
    rw [e2, Nat.zero_or]
  show IntKind.u64.wrap ((BitVec.ofInt 64 (x : Int) &&& ~~~ BitVec.ofInt 64 9218868437227405312).toNat : Int) = _
  rw [h]
  exact u64_nat _ (by omega)
theorem or_high (a b : Nat) (hb : b < 4503599627370496) : b ||| a * 4503599627370496 = a * 4503599627370496 + b := by
  have := Nat.two_pow_add_eq_or_of_lt (i := 52) hb a
  rw [Nat.or_comm, Nat.mul_comm a]
  exact this.symm

theorem not_zero {B : Nat} (h1 : 0 < B) (h2 : B < 9218868437227405312) : (FloatKind.f64.format.order B 0 == some .eq) = false := by
  have h3 : Is .f64 (canon .f64 B) (rungV Ieee.double B) := by rw [canon_word h2]; exact is_rung (k := .f64) (by rw [show FloatKind.f64.format = Ieee.double from rfl, e64.2.1]; exact h2)
  have h4 : Is .f64 (canon .f64 0) 0 := zero_is64
  have h5 := is_eq h3 h4
  have h6 : (FloatKind.f64.format.order B 0 == some .eq) = (cord .f64 (canon .f64 B) (canon .f64 0) == some .eq) := by rw [order_canon]
  rw [h6, h5]
  have h7 := rungV_lt Ieee.double (h1)
  rw [rungV_zero] at h7
  simp
  grind
theorem normalize_any (B : Nat) (h1 : 4503599627370496 ≤ B) (h2 : B < 9218868437227405312) (w : World) : Calls Try.prog 93 #[.float .f64 B] w fun e w' => e = .returned (.tuple #[.float .f64 B, .int .i64 0]) ∧ Drawn w w' := by
  have hc : (FloatKind.f64.format.order B 4503599627370496 == some .lt) = false := by rw [od_lt_w h2 (by omega)]; simpa using h1
  have hm : B % 9223372036854775808 = B := Nat.mod_eq_of_lt (by omega)
  go_enter Try.func93, Try.ntmps93
  go_wp2_with fail
  refine (abs64_any _ _).mono ?_
  rintro e w1 ⟨rfl, n, rfl⟩
  rw [hm]
  clear hm
  go_wp2
  go_ret2
  exact ⟨rfl, _, rfl⟩
theorem frexp_any (B : Nat) (h1 : 4503599627370496 ≤ B) (h2 : B < 9218868437227405312) (w : World) : Calls Try.prog 75 #[.float .f64 B] w fun e w' => e = .returned (.tuple #[.float .f64 (4602678819172646912 + B % 4503599627370496), .int .i64 (((B / 4503599627370496 : Nat) : Int) - 1022)]) ∧ Drawn w w' := by
  have hz : (FloatKind.f64.format.order B 0 == some .eq) = false := not_zero (by omega) h2
  have hi : decide (B % 9223372036854775808 = 9218868437227405312) = false := by simp; omega
  have hn : (FloatKind.f64.format.order B B != some .eq) = false := by rw [order_self, canon_word h2]; rfl
  have b1 := bits64
  have b2 := from64
  go_enter Try.func75, Try.ntmps75
  go_wp2_with fail
  refine (isInf_any _ _).mono ?_
  rintro e w1 ⟨rfl, n, rfl⟩
  rw [hi]
  go_wp2_with fail
  refine (isNaN_any _ _).mono ?_
  rintro e w1 ⟨rfl, n2, rfl⟩
  rw [hn]
  go_wp2_with fail
  refine (normalize_any B h1 h2 _).mono ?_
  rintro e w1 ⟨rfl, n3, rfl⟩
  have e1 : bits .and .u64 ((B : Int) / 4503599627370496) 2047 = ((B / 4503599627370496 : Nat) : Int) := by
    have h := bits_and (B / 4503599627370496) 2047 (by omega) (by omega)
    rw [show 2047 = 2 ^ 11 - 1 from rfl, Nat.and_two_pow_sub_one_eq_mod, Nat.mod_eq_of_lt (by omega)] at h
    exact h
  have e2 := bits_clear B (by omega)
  have e3 : bits .or .u64 ((B % 4503599627370496 : Nat) : Int) 4602678819172646912 = ((4602678819172646912 + B % 4503599627370496 : Nat) : Int) := by
    have h := bits_or (B % 4503599627370496) 4602678819172646912 (by omega) (by omega)
    rw [show 4602678819172646912 = 1022 * 4503599627370496 from rfl, or_high _ _ (Nat.mod_lt _ (by omega))] at h
    exact h
  have q1 : B / 4503599627370496 < 2048 := by omega
  have q2 : B % 4503599627370496 < 4503599627370496 := Nat.mod_lt _ (by omega)
  clear h1 h2 hz hi hn
  obtain ⟨E, hE⟩ : ∃ E, B / 4503599627370496 = E := ⟨_, rfl⟩
  obtain ⟨M, hM⟩ : ∃ M, B % 4503599627370496 = M := ⟨_, rfl⟩
  rw [hE] at e1 q1
  rw [hM] at e2 e3 q2
  have HE := Lib.hid hE
  have HM := Lib.hid hM
  clear hE hM
  go_wp2
  go_ret2
  have hE := HE.out
  have hM := HM.out
  rw [hE, hM]
  exact ⟨congrArg (fun x => Ending.returned (.tuple #[.float .f64 (4602678819172646912 + M), .int .i64 x])) (show (E : Int) - 1023 + 1 = (E : Int) - 1022 by omega), _, rfl⟩
/-- A number between a half and 1, and a power of two. -/
def RetFr (w : World) (B : Nat) (e : Ending) (w' : World) : Prop := e = .returned (.tuple #[.float .f64 (4602678819172646912 + B % 4503599627370496), .int .i64 (((B / 4503599627370496 : Nat) : Int) - 1022)]) ∧ Drawn w w'
theorem Frexp_any (B : Nat) (h1 : 4503599627370496 ≤ B) (h2 : B < 9218868437227405312) (w : World) : Calls Try.prog 43 #[.float .f64 B] w (RetFr w B) := by
  go_enter Try.func43, Try.ntmps43
  go_wp2_with fail
  refine (frexp_any B h1 h2 _).mono ?_
  rintro e w1 ⟨rfl, n, rfl⟩
  go_wp2
  go_ret2
  exact ⟨rfl, _, rfl⟩
theorem one_mul64 {R : Nat} (h0 : 0 < R) (hR : R < 9218868437227405312) : dmul (some 4607182418800017408) (some R) = some R := by
  have h1 := one_is
  have h2 : Is .f64 (some R) (rungV Ieee.double R) := is_rung (k := .f64) (by rw [show FloatKind.f64.format = Ieee.double from rfl, e64.2.1]; exact hR)
  have h3 : (1 : Rat) * rungV Ieee.double R = rungV Ieee.double R := by grind
  obtain ⟨w, h4, h5⟩ := is_mul h1 h2 (by rw [h3]; exact h2.rep.fit)
  rw [h3] at h5
  rw [h5.of_rep h2.rep] at h4
  exact word_of_is h4 (fun b h => cop_lt h) h0
/-- Two to a power times a number: its word goes up by so many binades. -/
def upBy (B : Nat) (K : Int) : Nat := ((B : Int) + K * 4503599627370496).toNat
theorem ldexp_any (B : Nat) (K : Int) (hK1 : -200 ≤ K) (hK2 : K ≤ 200) (h1 : 300 * 4503599627370496 ≤ B) (h2 : B < 1800 * 4503599627370496) (w : World) : Calls Try.prog 79 #[.float .f64 B, .int .i64 K] w fun e w' => e = .returned (.float .f64 (upBy B K)) ∧ Drawn w w' := by
  have hz : (FloatKind.f64.format.order B 0 == some .eq) = false := not_zero (by omega) (by omega)
  have hi : decide (B % 9223372036854775808 = 9218868437227405312) = false := by simp; omega
  have hn : (FloatKind.f64.format.order B B != some .eq) = false := by rw [order_self, canon_word (by omega)]; rfl
  have b1 := bits64
  have b2 := from64
  go_enter Try.func79, Try.ntmps79
  go_wp2_with fail
  refine (isInf_any _ _).mono ?_
  rintro e w1 ⟨rfl, n, rfl⟩
  rw [hi]
  go_wp2_with fail
  refine (isNaN_any _ _).mono ?_
  rintro e w1 ⟨rfl, n2, rfl⟩
  rw [hn]
  go_wp2_with fail
  refine (normalize_any B (by omega) (by omega) _).mono ?_
  rintro e w1 ⟨rfl, n3, rfl⟩
  obtain ⟨E, hE⟩ : ∃ E, B / 4503599627370496 = E := ⟨_, rfl⟩
  obtain ⟨M, hM⟩ : ∃ M, B % 4503599627370496 = M := ⟨_, rfl⟩
  have e1 : bits .and .i64 ((B : Int) / 4503599627370496) 2047 = (E : Int) := by
    have h : (BitVec.ofInt 64 ((B : Int) / 4503599627370496) &&& BitVec.ofInt 64 2047).toNat = E := by
      rw [BitVec.toNat_and, BitVec.toNat_ofInt, show (BitVec.ofInt 64 2047).toNat = 2 ^ 11 - 1 by decide, Nat.and_two_pow_sub_one_eq_mod]
      omega
    show IntKind.i64.wrap ((BitVec.ofInt 64 ((B : Int) / 4503599627370496) &&& BitVec.ofInt 64 2047).toNat : Int) = _
    rw [h]
    exact IntWalk.i64_in _ (by omega)
  have e2 := bits_clear B (by omega)
  rw [hM] at e2
  have q0 : 300 ≤ E := by omega
  have q1 : E < 1800 := by omega
  have q2 : M < 4503599627370496 := by omega
  have q3 : (B : Int) / 4503599627370496 < 1800 := by omega
  obtain ⟨N, hN⟩ : ∃ N : Nat, (N : Int) = K + E := ⟨(K + E).toNat, by omega⟩
  have e3 : bits .or .u64 (M : Int) ((K + ((E : Int) - 1023) + 1023) * 4503599627370496) = ((N * 4503599627370496 + M : Nat) : Int) := by
    have h := bits_or M (N * 4503599627370496) (by omega) (by omega)
    rw [or_high _ _ q2] at h
    rw [show (K + ((E : Int) - 1023) + 1023) * 4503599627370496 = ((N * 4503599627370496 : Nat) : Int) by omega]
    exact h
  have e4 : upBy B K = N * 4503599627370496 + M := by unfold upBy; omega
  have e5 : dmul (some 4607182418800017408) (some (N * 4503599627370496 + M)) = some (N * 4503599627370496 + M) := one_mul64 (by omega) (by omega)
  obtain ⟨e6, e7⟩ := fval_of (op := .mul) e5
  clear e5
  have HE := Lib.hid e4
  clear hE hM h1 h2 hz hi hn e4
  generalize N * 4503599627370496 + M = R at *
  have HN := Lib.hid hN
  have q4 : 0 ≤ K + (E : Int) := by omega
  clear hN
  go_wp2
  go_ret
  exact ⟨congrArg (fun x => Ending.returned (Value.float .f64 x)) HE.out.symm, _, rfl⟩
def RetDw (w : World) (B : Nat) (e : Ending) (w' : World) : Prop := e = .returned (.float .f64 B) ∧ Drawn w w'
theorem Ldexp_any (B : Nat) (K : Int) (hK1 : -200 ≤ K) (hK2 : K ≤ 200) (h1 : 300 * 4503599627370496 ≤ B) (h2 : B < 1800 * 4503599627370496) (w : World) : Calls Try.prog 46 #[.float .f64 B, .int .i64 K] w (RetDw w (upBy B K)) := by
  go_enter Try.func46, Try.ntmps46
  go_wp2_with fail
  refine (ldexp_any B K hK1 hK2 h1 h2 _).mono ?_
  rintro e w1 ⟨rfl, n, rfl⟩
  go_wp2
  go_ret
  exact ⟨rfl, _, rfl⟩
/-- The greatest whole number that is no greater. -/
def RetFl (w : World) (b : Nat) (e : Ending) (w' : World) : Prop := ∃ k, e = .returned (.float .f64 k) ∧ flr (some b) = some k ∧ Drawn w w'
theorem floor_run (b : Nat) (w : World) (h : (FloatKind.f64.decode b).isNaN = false) : (callFunc 76 #[.float .f64 b]).run Try.prog w = .ok (.value (.float .f64 (FloatKind.f64.encode ((FloatKind.f64.decode b).integral .down)))) w := by
  have h0 : (callFunc 76 #[.float .f64 b]).run Try.prog w = ((match FloatKind.f64.decode b with
      | .nan s t => if FloatKind.f64.format.quiet t = t then pure (Value.float .f64 b) else do
        let kept ← choose (.extern "math.Floor,Ceil,Trunc,RoundToEven.signallingNaN kept" 2)
        pure (Value.float .f64 (if kept == 1 then b else FloatKind.f64.encode (.nan s (FloatKind.f64.format.quiet t))))
      | d => pure (Value.float .f64 (FloatKind.f64.encode (d.integral .down)))) >>= fun v => pure (Next.value v)).run Try.prog w := by kernel_rfl
  rw [h0]
  cases hd : FloatKind.f64.decode b with
  | nan s t => rw [hd] at h; cases h
  | infinity s => simp
  | number s m e => simp
theorem Floor_any (b : Nat) (h : (FloatKind.f64.decode b).isNaN = false) (w : World) : Calls Try.prog 45 #[.float .f64 b] w (RetFl w b) := by
  have h1 := fun w => floor_run b w h
  go_enter Try.func45, Try.ntmps45
  go_wp2
  go_ret
  exact ⟨_, rfl, rfl, 0, rfl⟩
end Go.Proofs.Ytghmonkoleegjaa
