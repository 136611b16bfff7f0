/- Contracts: whether numbers are finite, amounts, shares; a test of each number of a row. -/
import Derived.Test.YtmlbbfopccmlbaaFin
import Derived.Test.YtmlbbfopccmlbaaCB
import Derived.Laws.EntriesVeiled
namespace Go.Proofs.Ytmlbbfopccmlbaa
open Go.RowKit
set_option maxRecDepth 100000

/-- A number that may be an amount; a share. -/
def amount (x : Option Nat) : Bool := fge x (canon .f32 0) && fin x
def share (x : Option Nat) : Bool := fge x (canon .f32 0) && fle x (canon .f32 1065353216)

theorem l01Finite_any (a : Nat) (w : World) : Calls Try.prog 36 #[.float .f32 a] w (RetBq w (fin (canon .f32 a))) := by
  go_enter Try.func36, Try.ntmps36
  go_wp2
  go_ret
  exact ⟨congrArg (fun x => Ending.returned (Value.bool x)) (by rw [o_eq, c_sub]; exact fin_sub _), _, rfl⟩
theorem isNaN_any (x : Nat) (w : World) : Calls Try.prog 51 #[.float .f64 x] w (RetBq w (FloatKind.f64.format.order x x != some .eq)) := by
  go_enter Try.func51, Try.ntmps51
  go_wp2
  go_ret
  exact ⟨rfl, 0, rfl⟩
theorem bits64 (b : Nat) (w : World) : (callFunc 71 #[.float .f64 b]).run Try.prog w = .ok (.value (.int .u64 b)) w := by kernel_rfl
theorem from64 (i : Int) (w : World) : (callFunc 72 #[.int .u64 i]).run Try.prog w = .ok (.value (.float .f64 i.toNat)) w := by kernel_rfl
theorem abs64_any (x : Nat) (w : World) : Calls Try.prog 59 #[.float .f64 x] w fun e w' => e = .returned (.float .f64 (x % 9223372036854775808)) ∧ Drawn w w' := by
  have h1 := bits64
  have h2 := from64
  go_enter Try.func59, Try.ntmps59
  go_wp2
  go_ret
  exact ⟨congrArg (fun x => Ending.returned (Value.float .f64 x)) (abs_bits x), 0, rfl⟩
theorem isInf_any (x : Nat) (w : World) : Calls Try.prog 52 #[.float .f64 x, .int .i64 0] w (RetBq w (decide (x % 9223372036854775808 = 9218868437227405312))) := by
  go_enter Try.func52, Try.ntmps52
  go_wp2_with fail
  refine (abs64_any _ _).mono ?_
  rintro e w1 ⟨rfl, n, rfl⟩
  go_wp2
  go_ret
  exact ⟨congrArg (fun x => Ending.returned (Value.bool x)) (abs_gt x), _, rfl⟩
theorem wide_inf (a : Nat) (w w' : World) (h : (FloatKind.f64.format.order (cval .f32 .f64 a w) (cval .f32 .f64 a w) != some .eq) = false) : decide (cval .f32 .f64 a w' % 9223372036854775808 = 9218868437227405312) = !fin (canon .f32 a) := by
  have h2 := wide_kind a w'
  rw [order_self, canon_cval (by decide) a w (fits_wide a)] at h
  rw [order_self, canon_cval (by decide) a w' (fits_wide a), h, Bool.false_or] at h2
  exact h2
theorem iFinOne_any (a : Nat) (w : World) : Calls Try.prog 50 #[.float .f32 a] w (RetBq w (!fin (canon .f32 a))) := by
  have hk := Lib.hid (wide_kind a w)
  go_enter Try.func50, Try.ntmps50
  go_wp2_with fail
  refine (isNaN_any _ _).mono ?_
  rintro e w1 ⟨rfl, n, rfl⟩
  cases h1 : (FloatKind.f64.format.order (cval .f32 .f64 a w) (cval .f32 .f64 a w) != some .eq) with
  | true =>
    have Hf : Hid (fin (canon .f32 a) = false) := by have h2 := hk.out; rw [h1] at h2; exact Lib.hid (by simpa using h2)
    clear h1 hk
    go_wp2
    go_ret
    exact ⟨congrArg (fun x => Ending.returned (Value.bool x)) (by rw [Hf.out]; rfl), _, rfl⟩
  | false =>
    have H1 := Lib.hid h1
    clear h1 hk
    go_wp2_with fail
    refine (isInf_any _ _).mono ?_
    rintro e w2 ⟨rfl, m, rfl⟩
    go_wp2
    go_ret
    exact ⟨congrArg (fun x => Ending.returned (Value.bool x)) (wide_inf a _ _ H1.out), _, rfl⟩
/-- Whether a test holds of one number of a row in one block. -/
theorem indexFunc_any (F : Nat) (caps : Array Value) (p : Option Nat → Bool) (g n : Nat) (T : TypeId) (b : Nat → Nat) (w : World) (hB : Blk w g T (fA n b)) (hn : n ≤ 1000) (he : Enters Try.prog F)
    (hF : ∀ (x : Nat) (w1 : World), Below w.heap.size w w1 → Calls Try.prog F (#[.float .f32 x] ++ caps) w1 (RetB w1 (p (canon .f32 x)))) :
    Calls Try.prog 69 #[.slice (some ⟨g, 0, none⟩) n n, .func (.func F) #[] caps] w fun e w' => ∃ i : Int, e = .returned (.int .i64 i) ∧ decide (0 ≤ i) = !(allTo n fun j => !p (canon .f32 (b j))) ∧ Below w.heap.size w w' := by
  have HF := Lib.hid hF
  have he' := he
  unfold Enters at he'
  clear hF he
  go_enter Try.func69, Try.ntmps69
  go_wp2
  go_loopw [5, 8] (fun _ i wr => ∃ (k : Nat), k ≤ n ∧ i = .int .i64 k ∧ (∀ j, j < k → (!p (canon .f32 (b j))) = true) ∧ Below w.heap.size w wr) (fun _ i _ => n - (intOf i).toNat)
  case atStart => exact ⟨0, by omega, rfl, fun j h => absurd h (by omega), (by repeat (first | assumption | exact Below.refl _ _ | refine bDrew ?_ _ | refine Below.alloc ?_ (by first | omega | (simp; done) | (simp; omega)) _ | refine Below.setCell ?_ (by first | omega | (simp; done) | (simp; omega)) _ | refine bRow ?_ (by first | omega | (simp; done) | (simp; omega)) _))⟩
  case round =>
    obtain ⟨k, hk, rfl, hc, hb⟩ := hrel
    have Hc := Lib.hid hc
    clear hc
    by_cases hlt : k < n
    · have c1 := ((hB.below hb hB.lt).cell k).trans (get_fA_lt b hlt)
      go_wp2_with fail
      refine (HF.out _ _ hb).mono ?_
      rintro e w1 ⟨rfl, hb1⟩
      have hb := bCall hb hb1 hb.size
      clear c1
      cases hq : p (canon .f32 (b k)) with
      | true =>
        have Hq := Lib.hid hq
        clear hq
        go_wp2
        go_ret
        exact ⟨_, rfl, by rw [allTo_false hlt (by rw [Hq.out]; rfl)]; simp, hb⟩
      | false =>
        have Hq := Lib.hid hq
        clear hq
        go_wp2
        go_roundw
        case rel =>
          refine ⟨k + 1, by omega, by go_num, ?_, hb⟩
          intro j hj
          by_cases e : j = k
          · subst e; rw [Hq.out]; rfl
          · exact Hc.out j (by omega)
        case measure => simp [intOf]; omega
    · obtain rfl : k = n := by omega
      go_wp2
      go_ret
      exact ⟨_, rfl, by rw [allTo_true Hc.out]; rfl, hb⟩
theorem containsFunc_any (F : Nat) (caps : Array Value) (p : Option Nat → Bool) (g n : Nat) (T : TypeId) (b : Nat → Nat) (w : World) (hB : Blk w g T (fA n b)) (hn : n ≤ 1000) (he : Enters Try.prog F)
    (hF : ∀ (x : Nat) (w1 : World), Below w.heap.size w w1 → Calls Try.prog F (#[.float .f32 x] ++ caps) w1 (RetB w1 (p (canon .f32 x)))) :
    Calls Try.prog 49 #[.slice (some ⟨g, 0, none⟩) n n, .func (.func F) #[] caps] w (RetB w (!(allTo n fun j => !p (canon .f32 (b j))))) := by
  go_enter Try.func49, Try.ntmps49
  go_wp2_with fail
  refine (indexFunc_any F caps p g n T b w hB hn he hF).mono ?_
  rintro e w1 ⟨i, rfl, hi, hb⟩
  have Hi := Lib.hid hi
  clear hi hF
  go_wp2
  go_ret
  exact ⟨congrArg (fun x => Ending.returned (Value.bool x)) Hi.out, hb⟩
theorem isFinite_any (g n : Nat) (T : TypeId) (b : Nat → Nat) (w : World) (hB : Blk w g T (fA n b)) (hn : n ≤ 1000) :
    Calls Try.prog 30 #[.slice (some ⟨g, 0, none⟩) n n] w (RetB w (allTo n fun j => fin (canon .f32 (b j)))) := by
  go_enter Try.func30, Try.ntmps30
  go_wp2_with fail
  refine (containsFunc_any 50 #[] (fun x => !fin x) g n T b _ hB hn (fun _ _ => by kernel_rfl) (fun x w1 _ => (iFinOne_any x w1).mono fun _ _ h => h.to)).mono ?_
  rintro e w1 ⟨rfl, hb⟩
  go_wp2
  go_ret
  exact ⟨congrArg (fun x => Ending.returned (Value.bool x)) (by simp only), hb⟩
end Go.Proofs.Ytmlbbfopccmlbaa
