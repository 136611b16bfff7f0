/- Contracts: whether numbers are finite, amounts, shares; a test of each number of a row. -/
import Derived.Test.YtmikeegecifbfaaFin
import Derived.Test.YtmikeegecifbfaaCB
import Derived.Laws.EntriesVeiled
namespace Go.Proofs.Ytmikeegecifbfaa
open Go.RowKit
set_option maxRecDepth 100000

/-- A number that may be an amount; a share. -/
def amount (x : Option Nat) : Bool := fge x (canon .f32 0) && fin x
def share (x : Option Nat) : Bool := fge x (canon .f32 0) && fle x (canon .f32 1065353216)

theorem l01Finite_any (a : Nat) (w : World) : Calls Try.prog 65 #[.float .f32 a] w (RetBq w (fin (canon .f32 a))) := by
  go_enter Try.func65, Try.ntmps65
  go_wp2
  go_ret
  exact ⟨congrArg (fun x => Ending.returned (Value.bool x)) (by rw [o_eq, c_sub]; exact fin_sub _), _, rfl⟩
theorem l01Curve_any (a : Nat → Nat) (w : World) : Calls Try.prog 83 #[.agg (fA 16 a)] w (RetB w (allTo 16 fun i => fin (canon .f32 (a i)))) := by
  go_enter Try.func83, Try.ntmps83
  go_wp2
  go_loopw [3] (fun i wr => ∃ (k : Nat), k ≤ 16 ∧ i = .int .i64 k ∧ Below w.heap.size w wr ∧ Blk wr w.heap.size 26 (fA 16 a) ∧ ∀ j, j < k → (fun j => fin (canon .f32 (a j))) j = true) (fun i _ => 16 - (intOf i).toNat)
  case atStart => exact ⟨0, by omega, rfl, (by repeat (first | assumption | exact Below.refl _ _ | refine bDrew ?_ _ | refine Below.alloc ?_ (by first | omega | (simp; done) | (simp; omega)) _ | refine Below.setCell ?_ (by first | omega | (simp; done) | (simp; omega)) _ | refine bRow ?_ (by first | omega | (simp; done) | (simp; omega)) _)), (by first | assumption | (repeat (first | assumption | (apply Blk.new_at; (focus (simp; done)); rfl) | apply Blk.alloc | apply Blk.drewN))), fun j h => absurd h (by omega)⟩
  case round =>
    obtain ⟨k, hk, rfl, hb, hA, hc⟩ := hrel
    have Hc := Lib.hid hc
    clear hc
    by_cases hlt : k < 16
    · have c1 := (hA.cell k).trans (get_fA_lt a hlt)
      go_wp2_with fail
      refine (l01Finite_any _ _).mono ?_
      rintro e w1 ⟨rfl, n1, rfl⟩
      clear c1
      cases hq : fin (canon .f32 (a k)) with
      | false =>
        have Hq := Lib.hid hq
        clear hq
        go_wp2
        go_ret
        exact ⟨congrArg (fun x => Ending.returned (Value.bool x)) (allTo_false (p := fun j => fin (canon .f32 (a j))) hlt Hq.out).symm, (by repeat (first | assumption | exact Below.refl _ _ | refine bDrew ?_ _ | refine Below.alloc ?_ (by first | omega | (simp; done) | (simp; omega)) _ | refine Below.setCell ?_ (by first | omega | (simp; done) | (simp; omega)) _ | refine bRow ?_ (by first | omega | (simp; done) | (simp; omega)) _))⟩
      | true =>
        have Hq := Lib.hid hq
        clear hq
        go_wp2
        go_roundw
        case rel =>
          refine ⟨k + 1, by omega, by go_num, (by repeat (first | assumption | exact Below.refl _ _ | refine bDrew ?_ _ | refine Below.alloc ?_ (by first | omega | (simp; done) | (simp; omega)) _ | refine Below.setCell ?_ (by first | omega | (simp; done) | (simp; omega)) _ | refine bRow ?_ (by first | omega | (simp; done) | (simp; omega)) _)), (by first | assumption | (repeat (first | assumption | (apply Blk.new_at; (focus (simp; done)); rfl) | apply Blk.alloc | apply Blk.drewN))), ?_⟩
          intro j hj
          by_cases e : j = k
          · subst e; exact Hq.out
          · exact Hc.out j (by omega)
        case measure => simp [intOf]; omega
    · obtain rfl : k = 16 := by omega
      go_wp2
      go_ret
      exact ⟨congrArg (fun x => Ending.returned (Value.bool x)) (allTo_true Hc.out).symm, (by repeat (first | assumption | exact Below.refl _ _ | refine bDrew ?_ _ | refine Below.alloc ?_ (by first | omega | (simp; done) | (simp; omega)) _ | refine Below.setCell ?_ (by first | omega | (simp; done) | (simp; omega)) _ | refine bRow ?_ (by first | omega | (simp; done) | (simp; omega)) _))⟩
theorem isNaN_any (x : Nat) (w : World) : Calls Try.prog 62 #[.float .f64 x] w (RetBq w (FloatKind.f64.format.order x x != some .eq)) := by
  go_enter Try.func62, Try.ntmps62
  go_wp2
  go_ret
  exact ⟨rfl, 0, rfl⟩
theorem bits64 (b : Nat) (w : World) : (callFunc 89 #[.float .f64 b]).run Try.prog w = .ok (.value (.int .u64 b)) w := by kernel_rfl
theorem from64 (i : Int) (w : World) : (callFunc 88 #[.int .u64 i]).run Try.prog w = .ok (.value (.float .f64 i.toNat)) w := by kernel_rfl
theorem abs64_any (x : Nat) (w : World) : Calls Try.prog 74 #[.float .f64 x] w fun e w' => e = .returned (.float .f64 (x % 9223372036854775808)) ∧ Drawn w w' := by
  have h1 := bits64
  have h2 := from64
  go_enter Try.func74, Try.ntmps74
  go_wp2
  go_ret
  exact ⟨congrArg (fun x => Ending.returned (Value.float .f64 x)) (abs_bits x), 0, rfl⟩
theorem isInf_any (x : Nat) (w : World) : Calls Try.prog 63 #[.float .f64 x, .int .i64 0] w (RetBq w (decide (x % 9223372036854775808 = 9218868437227405312))) := by
  go_enter Try.func63, Try.ntmps63
  go_wp2_with fail
  refine (abs64_any _ _).mono ?_
  rintro e w1 ⟨rfl, n, rfl⟩
  go_wp2
  go_ret
  exact ⟨congrArg (fun x => Ending.returned (Value.bool x)) (abs_gt x), _, rfl⟩
theorem wide_inf (a : Nat) (w w' : World) (h : (FloatKind.f64.format.order (cval .f32 .f64 a w) (cval .f32 .f64 a w) != some .eq) = false) : decide (cval .f32 .f64 a w' % 9223372036854775808 = 9218868437227405312) = !fin (canon .f32 a) := by
  have h2 := wide_kind a w'
  rw [order_self, canon_cval (by decide) a w (fits_wide a)] at h
  rw [order_self, canon_cval (by decide) a w' (fits_wide a), h, Bool.false_or] at h2
  exact h2
theorem iFinOne_any (a : Nat) (w : World) : Calls Try.prog 61 #[.float .f32 a] w (RetBq w (!fin (canon .f32 a))) := by
  have hk := Lib.hid (wide_kind a w)
  go_enter Try.func61, Try.ntmps61
  go_wp2_with fail
  refine (isNaN_any _ _).mono ?_
  rintro e w1 ⟨rfl, n, rfl⟩
  cases h1 : (FloatKind.f64.format.order (cval .f32 .f64 a w) (cval .f32 .f64 a w) != some .eq) with
  | true =>
    have Hf : Hid (fin (canon .f32 a) = false) := by have h2 := hk.out; rw [h1] at h2; exact Lib.hid (by simpa using h2)
    clear h1 hk
    go_wp2
    go_ret
    exact ⟨congrArg (fun x => Ending.returned (Value.bool x)) (by rw [Hf.out]; rfl), _, rfl⟩
  | false =>
    have H1 := Lib.hid h1
    clear h1 hk
    go_wp2_with fail
    refine (isInf_any _ _).mono ?_
    rintro e w2 ⟨rfl, m, rfl⟩
    go_wp2
    go_ret
    exact ⟨congrArg (fun x => Ending.returned (Value.bool x)) (wide_inf a _ _ H1.out), _, rfl⟩
/-- Whether a test holds of one number of a row in one block. -/
theorem indexFunc_any (F : Nat) (caps : Array Value) (p : Option Nat → Bool) (g n : Nat) (T : TypeId) (b : Nat → Nat) (w : World) (hB : Blk w g T (fA n b)) (hn : n ≤ 1000) (he : Enters Try.prog F)
    (hF : ∀ (x : Nat) (w1 : World), Below w.heap.size w w1 → Calls Try.prog F (#[.float .f32 x] ++ caps) w1 (RetB w1 (p (canon .f32 x)))) :
    Calls Try.prog 81 #[.slice (some ⟨g, 0, none⟩) n n, .func (.func F) #[] caps] w fun e w' => ∃ i : Int, e = .returned (.int .i64 i) ∧ decide (0 ≤ i) = !(allTo n fun j => !p (canon .f32 (b j))) ∧ Below w.heap.size w w' := by
  have HF := Lib.hid hF
  have he' := he
  unfold Enters at he'
  clear hF he
  go_enter Try.func81, Try.ntmps81
  go_wp2
  go_loopw [5, 8] (fun _ i wr => ∃ (k : Nat), k ≤ n ∧ i = .int .i64 k ∧ (∀ j, j < k → (!p (canon .f32 (b j))) = true) ∧ Below w.heap.size w wr) (fun _ i _ => n - (intOf i).toNat)
  case atStart => exact ⟨0, by omega, rfl, fun j h => absurd h (by omega), (by repeat (first | assumption | exact Below.refl _ _ | refine bDrew ?_ _ | refine Below.alloc ?_ (by first | omega | (simp; done) | (simp; omega)) _ | refine Below.setCell ?_ (by first | omega | (simp; done) | (simp; omega)) _ | refine bRow ?_ (by first | omega | (simp; done) | (simp; omega)) _))⟩
  case round =>
    obtain ⟨k, hk, rfl, hc, hb⟩ := hrel
    have Hc := Lib.hid hc
    clear hc
    by_cases hlt : k < n
    · have c1 := ((hB.below hb hB.lt).cell k).trans (get_fA_lt b hlt)
      go_wp2_with fail
      refine (HF.out _ _ hb).mono ?_
      rintro e w1 ⟨rfl, hb1⟩
      have hb := bCall hb hb1 hb.size
      clear c1
      cases hq : p (canon .f32 (b k)) with
      | true =>
        have Hq := Lib.hid hq
        clear hq
        go_wp2
        go_ret
        exact ⟨_, rfl, by rw [allTo_false hlt (by rw [Hq.out]; rfl)]; simp, hb⟩
      | false =>
        have Hq := Lib.hid hq
        clear hq
        go_wp2
        go_roundw
        case rel =>
          refine ⟨k + 1, by omega, by go_num, ?_, hb⟩
          intro j hj
          by_cases e : j = k
          · subst e; rw [Hq.out]; rfl
          · exact Hc.out j (by omega)
        case measure => simp [intOf]; omega
    · obtain rfl : k = n := by omega
      go_wp2
      go_ret
      exact ⟨_, rfl, by rw [allTo_true Hc.out]; rfl, hb⟩
theorem containsFunc_any (F : Nat) (caps : Array Value) (p : Option Nat → Bool) (g n : Nat) (T : TypeId) (b : Nat → Nat) (w : World) (hB : Blk w g T (fA n b)) (hn : n ≤ 1000) (he : Enters Try.prog F)
    (hF : ∀ (x : Nat) (w1 : World), Below w.heap.size w w1 → Calls Try.prog F (#[.float .f32 x] ++ caps) w1 (RetB w1 (p (canon .f32 x)))) :
    Calls Try.prog 58 #[.slice (some ⟨g, 0, none⟩) n n, .func (.func F) #[] caps] w (RetB w (!(allTo n fun j => !p (canon .f32 (b j))))) := by
  go_enter Try.func58, Try.ntmps58
  go_wp2_with fail
  refine (indexFunc_any F caps p g n T b w hB hn he hF).mono ?_
  rintro e w1 ⟨i, rfl, hi, hb⟩
  have Hi := Lib.hid hi
  clear hi hF
  go_wp2
  go_ret
  exact ⟨congrArg (fun x => Ending.returned (Value.bool x)) Hi.out, hb⟩
theorem isFinite_any (g n : Nat) (T : TypeId) (b : Nat → Nat) (w : World) (hB : Blk w g T (fA n b)) (hn : n ≤ 1000) :
    Calls Try.prog 39 #[.slice (some ⟨g, 0, none⟩) n n] w (RetB w (allTo n fun j => fin (canon .f32 (b j)))) := by
  go_enter Try.func39, Try.ntmps39
  go_wp2_with fail
  refine (containsFunc_any 61 #[] (fun x => !fin x) g n T b _ hB hn (fun _ _ => by kernel_rfl) (fun x w1 _ => (iFinOne_any x w1).mono fun _ _ h => h.to)).mono ?_
  rintro e w1 ⟨rfl, hb⟩
  go_wp2
  go_ret
  exact ⟨congrArg (fun x => Ending.returned (Value.bool x)) (by simp only), hb⟩
theorem iIsFiniteCurve_any (a : Nat → Nat) (w : World) : Calls Try.prog 60 #[.agg (fA 16 a)] w (RetB w (allTo 16 fun i => fin (canon .f32 (a i)))) := by
  go_enter Try.func60, Try.ntmps60
  go_wp2_with fail
  refine (isFinite_any _ 16 _ a _ (Blk.new w _ _) (by decide)).mono ?_
  rintro e w1 ⟨rfl, hb⟩
  go_wp2
  go_ret
  exact ⟨rfl, bCall (by repeat (first | assumption | exact Below.refl _ _ | refine bDrew ?_ _ | refine Below.alloc ?_ (by first | omega | (simp; done) | (simp; omega)) _ | refine Below.setCell ?_ (by first | omega | (simp; done) | (simp; omega)) _ | refine bRow ?_ (by first | omega | (simp; done) | (simp; omega)) _)) hb (by first | omega | (simp; done) | (simp; omega))⟩
theorem isAmount_any (a : Nat) (w : World) : Calls Try.prog 35 #[.float .f32 a] w (RetB w (amount (canon .f32 a))) := by
  go_enter Try.func35, Try.ntmps35
  go_wp2_with (refine wpList_buildSlice rfl _ _ _ rfl (.slice (some ⟨w.heap.size, 0, none⟩) 1 1) (w.alloc (.cells (fA 1 fun _ => a) 24)) (by kernel_rfl) ?_)
  refine (isFinite_any w.heap.size 1 24 (fun _ => a) _ (Blk.new w _ _) (by decide)).mono ?_
  rintro e w1 ⟨rfl, hb⟩
  have hB : Below w.heap.size w w1 := bCall (by repeat (first | assumption | exact Below.refl _ _ | refine bDrew ?_ _ | refine Below.alloc ?_ (by first | omega | (simp; done) | (simp; omega)) _ | refine Below.setCell ?_ (by first | omega | (simp; done) | (simp; omega)) _ | refine bRow ?_ (by first | omega | (simp; done) | (simp; omega)) _)) hb (by first | omega | (simp; done) | (simp; omega))
  cases hq : (allTo 1 fun _ => fin (canon .f32 a)) with
  | false =>
    have Hq := Lib.hid hq
    clear hq
    go_wp2
    go_ret
    exact ⟨congrArg (fun x => Ending.returned (Value.bool x)) (by have h := Hq.out; rw [show (allTo 1 fun _ => fin (canon .f32 a)) = fin (canon .f32 a) by simp [allTo]] at h; simp [amount, h]), hB⟩
  | true =>
    have Hq := Lib.hid hq
    clear hq
    go_wp2
    go_ret
    exact ⟨congrArg (fun x => Ending.returned (Value.bool x)) (by have h := Hq.out; rw [show (allTo 1 fun _ => fin (canon .f32 a)) = fin (canon .f32 a) by simp [allTo]] at h; simp only [amount, h, Bool.and_true]; exact o_ge _ _), hB⟩
theorem notOne_any (F x g : Nat) (p : Bool) (w : World) (he : Enters Try.prog F) (hg : w.cell? ⟨g, 0, none⟩ = some (.func (.func F) #[] #[])) (hF : Calls Try.prog F #[.float .f32 x] w (RetB w p)) :
    Calls Try.prog 59 #[.float .f32 x, .pointer (some ⟨g, 0, none⟩)] w (RetB w (!p)) := by
  have HF := Lib.hid hF
  have he' := he
  unfold Enters at he'
  clear hF he
  go_enter Try.func59, Try.ntmps59
  go_wp2_with fail
  refine HF.out.mono ?_
  rintro e w1 ⟨rfl, hb⟩
  go_wp2
  go_ret
  exact ⟨rfl, hb⟩
theorem all_any (F : Nat) (p : Option Nat → Bool) (c : Nat → Nat) (w : World) (he : Enters Try.prog F)
    (hF : ∀ (x : Nat) (w1 : World), Calls Try.prog F #[.float .f32 x] w1 (RetB w1 (p (canon .f32 x)))) :
    Calls Try.prog 34 #[.agg (fA 16 c), .func (.func F) #[] #[]] w (RetB w (allTo 16 fun i => p (canon .f32 (c i)))) := by
  have HF := Lib.hid hF
  clear hF
  go_enter Try.func34, Try.ntmps34
  go_wp2_with fail
  refine (containsFunc_any 59 #[.pointer (some ⟨w.heap.size + 1, 0, none⟩)] (fun x => !p x) w.heap.size 16 26 c _ (by first | assumption | (repeat (first | assumption | (apply Blk.new_at; (focus (simp; done)); rfl) | apply Blk.alloc | apply Blk.drewN))) (by decide) (fun _ _ => by kernel_rfl)
    (fun x w1 hb => notOne_any F x (w.heap.size + 1) _ w1 he (((Blk.below (t := 53) (cs := #[.func (.func F) #[] #[]]) (by first | assumption | (repeat (first | assumption | (apply Blk.new_at; (focus (simp; done)); rfl) | apply Blk.alloc | apply Blk.drewN))) hb (by first | omega | (simp; done) | (simp; omega))).cell 0).trans rfl) (HF.out x w1))).mono ?_
  rintro e w1 ⟨rfl, hb⟩
  go_wp2
  go_ret
  exact ⟨congrArg (fun x => Ending.returned (Value.bool x)) (by simp only), bCall (by repeat (first | assumption | exact Below.refl _ _ | refine bDrew ?_ _ | refine Below.alloc ?_ (by first | omega | (simp; done) | (simp; omega)) _ | refine Below.setCell ?_ (by first | omega | (simp; done) | (simp; omega)) _ | refine bRow ?_ (by first | omega | (simp; done) | (simp; omega)) _)) hb (by first | omega | (simp; done) | (simp; omega))⟩
theorem l02Amount_any (a : Nat) (w : World) : Calls Try.prog 82 #[.float .f32 a] w (RetBq w (amount (canon .f32 a))) := by
  cases h0 : (FloatKind.f32.format.order a 0 == some .gt || FloatKind.f32.format.order a 0 == some .eq) with
  | false =>
    have H0 := Lib.hid h0
    go_enter Try.func82, Try.ntmps82
    go_wp2
    go_ret
    exact ⟨congrArg (fun x => Ending.returned (Value.bool x)) (by have h := H0.out; rw [o_ge] at h; simp [amount, h]), 0, rfl⟩
  | true =>
    have H0 := Lib.hid h0
    go_enter Try.func82, Try.ntmps82
    go_wp2_with fail
    refine (l01Finite_any _ _).mono ?_
    rintro e w1 ⟨rfl, n, rfl⟩
    go_wp2
    go_ret
    exact ⟨congrArg (fun x => Ending.returned (Value.bool x)) (by have h := H0.out; rw [o_ge] at h; simp only [amount, h, Bool.true_and]), _, rfl⟩
theorem l02Amounts_any (a : Nat → Nat) (w : World) : Calls Try.prog 64 #[.agg (fA 16 a)] w (RetB w (allTo 16 fun i => amount (canon .f32 (a i)))) := by
  go_enter Try.func64, Try.ntmps64
  go_wp2
  go_loopw [3] (fun i wr => ∃ (k : Nat), k ≤ 16 ∧ i = .int .i64 k ∧ Below w.heap.size w wr ∧ Blk wr w.heap.size 26 (fA 16 a) ∧ ∀ j, j < k → (fun j => amount (canon .f32 (a j))) j = true) (fun i _ => 16 - (intOf i).toNat)
  case atStart => exact ⟨0, by omega, rfl, (by repeat (first | assumption | exact Below.refl _ _ | refine bDrew ?_ _ | refine Below.alloc ?_ (by first | omega | (simp; done) | (simp; omega)) _ | refine Below.setCell ?_ (by first | omega | (simp; done) | (simp; omega)) _ | refine bRow ?_ (by first | omega | (simp; done) | (simp; omega)) _)), (by first | assumption | (repeat (first | assumption | (apply Blk.new_at; (focus (simp; done)); rfl) | apply Blk.alloc | apply Blk.drewN))), fun j h => absurd h (by omega)⟩
  case round =>
    obtain ⟨k, hk, rfl, hb, hA, hc⟩ := hrel
    have Hc := Lib.hid hc
    clear hc
    by_cases hlt : k < 16
    · have c1 := (hA.cell k).trans (get_fA_lt a hlt)
      go_wp2_with fail
      refine (l02Amount_any _ _).mono ?_
      rintro e w1 ⟨rfl, n1, rfl⟩
      clear c1
      cases hq : amount (canon .f32 (a k)) with
      | false =>
        have Hq := Lib.hid hq
        clear hq
        go_wp2
        go_ret
        exact ⟨congrArg (fun x => Ending.returned (Value.bool x)) (allTo_false (p := fun j => amount (canon .f32 (a j))) hlt Hq.out).symm, (by repeat (first | assumption | exact Below.refl _ _ | refine bDrew ?_ _ | refine Below.alloc ?_ (by first | omega | (simp; done) | (simp; omega)) _ | refine Below.setCell ?_ (by first | omega | (simp; done) | (simp; omega)) _ | refine bRow ?_ (by first | omega | (simp; done) | (simp; omega)) _))⟩
      | true =>
        have Hq := Lib.hid hq
        clear hq
        go_wp2
        go_roundw
        case rel =>
          refine ⟨k + 1, by omega, by go_num, (by repeat (first | assumption | exact Below.refl _ _ | refine bDrew ?_ _ | refine Below.alloc ?_ (by first | omega | (simp; done) | (simp; omega)) _ | refine Below.setCell ?_ (by first | omega | (simp; done) | (simp; omega)) _ | refine bRow ?_ (by first | omega | (simp; done) | (simp; omega)) _)), (by first | assumption | (repeat (first | assumption | (apply Blk.new_at; (focus (simp; done)); rfl) | apply Blk.alloc | apply Blk.drewN))), ?_⟩
          intro j hj
          by_cases e : j = k
          · subst e; exact Hq.out
          · exact Hc.out j (by omega)
        case measure => simp [intOf]; omega
    · obtain rfl : k = 16 := by omega
      go_wp2
      go_ret
      exact ⟨congrArg (fun x => Ending.returned (Value.bool x)) (allTo_true Hc.out).symm, (by repeat (first | assumption | exact Below.refl _ _ | refine bDrew ?_ _ | refine Below.alloc ?_ (by first | omega | (simp; done) | (simp; omega)) _ | refine Below.setCell ?_ (by first | omega | (simp; done) | (simp; omega)) _ | refine bRow ?_ (by first | omega | (simp; done) | (simp; omega)) _))⟩
end Go.Proofs.Ytmikeegecifbfaa
