/- Contracts: whether numbers are finite, amounts, shares; a test of each number of a row. Contracts: the curves' functions of the program and of the reference, each computing the same numbers. A part of a row of float32 that lies in a block: reading it, writing it. No program is named here. Contracts: whether a layer, a film may be one. Contracts: the reference's test of a film. -/
import Derived.Test.YtfpjiclkhjdihaaHlf
import Derived.Test.YtfpjiclkhjdihaaCA
import Derived.Laws.EntriesVeiled
import Derived.Test.YtfpjiclkhjdihaaKit
import Derived.Deep.MidRow
import Derived.Test.YtfpjiclkhjdihaaHeld
namespace Go.Proofs.Ytfpjiclkhjdihaa
open Go.RowKit
set_option maxRecDepth 100000

/-- A number that may be an amount; a share. -/
def amount (x : Option Nat) : Bool := fge x (canon .f32 0) && fin x
def share (x : Option Nat) : Bool := fge x (canon .f32 0) && fle x (canon .f32 1065353216)

theorem l01Finite_any (a : Nat) (w : World) : Calls Try.prog 90 #[.float .f32 a] w (RetBq w (fin (canon .f32 a))) := by
  go_enter Try.func90, Try.ntmps90
  go_wp2
  go_ret
  exact ⟨congrArg (fun x => Ending.returned (Value.bool x)) (by rw [o_eq, c_sub]; exact fin_sub _), _, rfl⟩
theorem l01Curve_any (a : Nat → Nat) (w : World) : Calls Try.prog 85 #[.agg (fA 16 a)] w (RetB w (allTo 16 fun i => fin (canon .f32 (a i)))) := by
  go_enter Try.func85, Try.ntmps85
  go_wp2
  go_loopw [3] (fun i wr => ∃ (k : Nat), k ≤ 16 ∧ i = .int .i64 k ∧ Below w.heap.size w wr ∧ Blk wr w.heap.size 26 (fA 16 a) ∧ ∀ j, j < k → (fun j => fin (canon .f32 (a j))) j = true) (fun i _ => 16 - (intOf i).toNat)
  case atStart => exact ⟨0, by omega, rfl, (by repeat (first | assumption | exact Below.refl _ _ | refine bDrew ?_ _ | refine Below.alloc ?_ (by first | omega | (simp; done) | (simp; omega)) _ | refine Below.setCell ?_ (by first | omega | (simp; done) | (simp; omega)) _ | refine bRow ?_ (by first | omega | (simp; done) | (simp; omega)) _)), (by first | assumption | (repeat (first | assumption | (apply Blk.new_at; (focus (simp; done)); rfl) | apply Blk.alloc | apply Blk.drewN))), fun j h => absurd h (by omega)⟩
  case round =>
    obtain ⟨k, hk, rfl, hb, hA, hc⟩ := hrel
    have Hc := Lib.hid hc
    clear hc
    by_cases hlt : k < 16
    · have c1 := (hA.cell k).trans (get_fA_lt a hlt)
      go_wp2_with fail
      refine (l01Finite_any _ _).mono ?_
      rintro e w1 ⟨rfl, n1, rfl⟩
      clear c1
      cases hq : fin (canon .f32 (a k)) with
      | false =>
        have Hq := Lib.hid hq
        clear hq
        go_wp2
        go_ret
        exact ⟨congrArg (fun x => Ending.returned (Value.bool x)) (allTo_false (p := fun j => fin (canon .f32 (a j))) hlt Hq.out).symm, (by repeat (first | assumption | exact Below.refl _ _ | refine bDrew ?_ _ | refine Below.alloc ?_ (by first | omega | (simp; done) | (simp; omega)) _ | refine Below.setCell ?_ (by first | omega | (simp; done) | (simp; omega)) _ | refine bRow ?_ (by first | omega | (simp; done) | (simp; omega)) _))⟩
      | true =>
        have Hq := Lib.hid hq
        clear hq
        go_wp2
        go_roundw
        case rel =>
          refine ⟨k + 1, by omega, by go_num, (by repeat (first | assumption | exact Below.refl _ _ | refine bDrew ?_ _ | refine Below.alloc ?_ (by first | omega | (simp; done) | (simp; omega)) _ | refine Below.setCell ?_ (by first | omega | (simp; done) | (simp; omega)) _ | refine bRow ?_ (by first | omega | (simp; done) | (simp; omega)) _)), (by first | assumption | (repeat (first | assumption | (apply Blk.new_at; (focus (simp; done)); rfl) | apply Blk.alloc | apply Blk.drewN))), ?_⟩
          intro j hj
          by_cases e : j = k
          · subst e; exact Hq.out
          · exact Hc.out j (by omega)
        case measure => simp [intOf]; omega
    · obtain rfl : k = 16 := by omega
      go_wp2
      go_ret
      exact ⟨congrArg (fun x => Ending.returned (Value.bool x)) (allTo_true Hc.out).symm, (by repeat (first | assumption | exact Below.refl _ _ | refine bDrew ?_ _ | refine Below.alloc ?_ (by first | omega | (simp; done) | (simp; omega)) _ | refine Below.setCell ?_ (by first | omega | (simp; done) | (simp; omega)) _ | refine bRow ?_ (by first | omega | (simp; done) | (simp; omega)) _))⟩
theorem isNaN_any (x : Nat) (w : World) : Calls Try.prog 93 #[.float .f64 x] w (RetBq w (FloatKind.f64.format.order x x != some .eq)) := by
  go_enter Try.func93, Try.ntmps93
  go_wp2
  go_ret
  exact ⟨rfl, 0, rfl⟩
theorem bits64 (b : Nat) (w : World) : (callFunc 98 #[.float .f64 b]).run Try.prog w = .ok (.value (.int .u64 b)) w := by kernel_rfl
theorem from64 (i : Int) (w : World) : (callFunc 96 #[.int .u64 i]).run Try.prog w = .ok (.value (.float .f64 i.toNat)) w := by kernel_rfl
theorem abs64_any (x : Nat) (w : World) : Calls Try.prog 97 #[.float .f64 x] w fun e w' => e = .returned (.float .f64 (x % 9223372036854775808)) ∧ Drawn w w' := by
  have h1 := bits64
  have h2 := from64
  go_enter Try.func97, Try.ntmps97
  go_wp2
  go_ret
  exact ⟨congrArg (fun x => Ending.returned (Value.float .f64 x)) (abs_bits x), 0, rfl⟩
theorem isInf_any (x : Nat) (w : World) : Calls Try.prog 94 #[.float .f64 x, .int .i64 0] w (RetBq w (decide (x % 9223372036854775808 = 9218868437227405312))) := by
  go_enter Try.func94, Try.ntmps94
  go_wp2_with fail
  refine (abs64_any _ _).mono ?_
  rintro e w1 ⟨rfl, n, rfl⟩
  go_wp2
  go_ret
  exact ⟨congrArg (fun x => Ending.returned (Value.bool x)) (abs_gt x), _, rfl⟩
theorem wide_inf (a : Nat) (w w' : World) (h : (FloatKind.f64.format.order (cval .f32 .f64 a w) (cval .f32 .f64 a w) != some .eq) = false) : decide (cval .f32 .f64 a w' % 9223372036854775808 = 9218868437227405312) = !fin (canon .f32 a) := by
  have h2 := wide_kind a w'
  rw [order_self, canon_cval (by decide) a w (fits_wide a)] at h
  rw [order_self, canon_cval (by decide) a w' (fits_wide a), h, Bool.false_or] at h2
  exact h2
theorem iFinOne_any (a : Nat) (w : World) : Calls Try.prog 92 #[.float .f32 a] w (RetBq w (!fin (canon .f32 a))) := by
  have hk := Lib.hid (wide_kind a w)
  go_enter Try.func92, Try.ntmps92
  go_wp2_with fail
  refine (isNaN_any _ _).mono ?_
  rintro e w1 ⟨rfl, n, rfl⟩
  cases h1 : (FloatKind.f64.format.order (cval .f32 .f64 a w) (cval .f32 .f64 a w) != some .eq) with
  | true =>
    have Hf : Hid (fin (canon .f32 a) = false) := by have h2 := hk.out; rw [h1] at h2; exact Lib.hid (by simpa using h2)
    clear h1 hk
    go_wp2
    go_ret
    exact ⟨congrArg (fun x => Ending.returned (Value.bool x)) (by rw [Hf.out]; rfl), _, rfl⟩
  | false =>
    have H1 := Lib.hid h1
    clear h1 hk
    go_wp2_with fail
    refine (isInf_any _ _).mono ?_
    rintro e w2 ⟨rfl, m, rfl⟩
    go_wp2
    go_ret
    exact ⟨congrArg (fun x => Ending.returned (Value.bool x)) (wide_inf a _ _ H1.out), _, rfl⟩
/-- Whether a test holds of one number of a row in one block. -/
theorem indexFunc_any (F : Nat) (caps : Array Value) (p : Option Nat → Bool) (g n : Nat) (T : TypeId) (b : Nat → Nat) (w : World) (hB : Blk w g T (fA n b)) (hn : n ≤ 1000) (he : Enters Try.prog F)
    (hF : ∀ (x : Nat) (w1 : World), Below w.heap.size w w1 → Calls Try.prog F (#[.float .f32 x] ++ caps) w1 (RetB w1 (p (canon .f32 x)))) :
    Calls Try.prog 86 #[.slice (some ⟨g, 0, none⟩) n n, .func (.func F) #[] caps] w fun e w' => ∃ i : Int, e = .returned (.int .i64 i) ∧ decide (0 ≤ i) = !(allTo n fun j => !p (canon .f32 (b j))) ∧ Below w.heap.size w w' := by
  have HF := Lib.hid hF
  have he' := he
  unfold Enters at he'
  clear hF he
  go_enter Try.func86, Try.ntmps86
  go_wp2
  go_loopw [5, 8] (fun _ i wr => ∃ (k : Nat), k ≤ n ∧ i = .int .i64 k ∧ (∀ j, j < k → (!p (canon .f32 (b j))) = true) ∧ Below w.heap.size w wr) (fun _ i _ => n - (intOf i).toNat)
  case atStart => exact ⟨0, by omega, rfl, fun j h => absurd h (by omega), (by repeat (first | assumption | exact Below.refl _ _ | refine bDrew ?_ _ | refine Below.alloc ?_ (by first | omega | (simp; done) | (simp; omega)) _ | refine Below.setCell ?_ (by first | omega | (simp; done) | (simp; omega)) _ | refine bRow ?_ (by first | omega | (simp; done) | (simp; omega)) _))⟩
  case round =>
    obtain ⟨k, hk, rfl, hc, hb⟩ := hrel
    have Hc := Lib.hid hc
    clear hc
    by_cases hlt : k < n
    · have c1 := ((hB.below hb hB.lt).cell k).trans (get_fA_lt b hlt)
      go_wp2_with fail
      refine (HF.out _ _ hb).mono ?_
      rintro e w1 ⟨rfl, hb1⟩
      have hb := bCall hb hb1 hb.size
      clear c1
      cases hq : p (canon .f32 (b k)) with
      | true =>
        have Hq := Lib.hid hq
        clear hq
        go_wp2
        go_ret
        exact ⟨_, rfl, by rw [allTo_false hlt (by rw [Hq.out]; rfl)]; simp, hb⟩
      | false =>
        have Hq := Lib.hid hq
        clear hq
        go_wp2
        go_roundw
        case rel =>
          refine ⟨k + 1, by omega, by go_num, ?_, hb⟩
          intro j hj
          by_cases e : j = k
          · subst e; rw [Hq.out]; rfl
          · exact Hc.out j (by omega)
        case measure => simp [intOf]; omega
    · obtain rfl : k = n := by omega
      go_wp2
      go_ret
      exact ⟨_, rfl, by rw [allTo_true Hc.out]; rfl, hb⟩
theorem containsFunc_any (F : Nat) (caps : Array Value) (p : Option Nat → Bool) (g n : Nat) (T : TypeId) (b : Nat → Nat) (w : World) (hB : Blk w g T (fA n b)) (hn : n ≤ 1000) (he : Enters Try.prog F)
    (hF : ∀ (x : Nat) (w1 : World), Below w.heap.size w w1 → Calls Try.prog F (#[.float .f32 x] ++ caps) w1 (RetB w1 (p (canon .f32 x)))) :
    Calls Try.prog 65 #[.slice (some ⟨g, 0, none⟩) n n, .func (.func F) #[] caps] w (RetB w (!(allTo n fun j => !p (canon .f32 (b j))))) := by
  go_enter Try.func65, Try.ntmps65
  go_wp2_with fail
  refine (indexFunc_any F caps p g n T b w hB hn he hF).mono ?_
  rintro e w1 ⟨i, rfl, hi, hb⟩
  have Hi := Lib.hid hi
  clear hi hF
  go_wp2
  go_ret
  exact ⟨congrArg (fun x => Ending.returned (Value.bool x)) Hi.out, hb⟩
theorem isFinite_any (g n : Nat) (T : TypeId) (b : Nat → Nat) (w : World) (hB : Blk w g T (fA n b)) (hn : n ≤ 1000) :
    Calls Try.prog 81 #[.slice (some ⟨g, 0, none⟩) n n] w (RetB w (allTo n fun j => fin (canon .f32 (b j)))) := by
  go_enter Try.func81, Try.ntmps81
  go_wp2_with fail
  refine (containsFunc_any 92 #[] (fun x => !fin x) g n T b _ hB hn (fun _ _ => by kernel_rfl) (fun x w1 _ => (iFinOne_any x w1).mono fun _ _ h => h.to)).mono ?_
  rintro e w1 ⟨rfl, hb⟩
  go_wp2
  go_ret
  exact ⟨congrArg (fun x => Ending.returned (Value.bool x)) (by simp only), hb⟩
theorem iIsFiniteCurve_any (a : Nat → Nat) (w : World) : Calls Try.prog 82 #[.agg (fA 16 a)] w (RetB w (allTo 16 fun i => fin (canon .f32 (a i)))) := by
  go_enter Try.func82, Try.ntmps82
  go_wp2_with fail
  refine (isFinite_any _ 16 _ a _ (Blk.new w _ _) (by decide)).mono ?_
  rintro e w1 ⟨rfl, hb⟩
  go_wp2
  go_ret
  exact ⟨rfl, bCall (by repeat (first | assumption | exact Below.refl _ _ | refine bDrew ?_ _ | refine Below.alloc ?_ (by first | omega | (simp; done) | (simp; omega)) _ | refine Below.setCell ?_ (by first | omega | (simp; done) | (simp; omega)) _ | refine bRow ?_ (by first | omega | (simp; done) | (simp; omega)) _)) hb (by first | omega | (simp; done) | (simp; omega))⟩
theorem isAmount_any (a : Nat) (w : World) : Calls Try.prog 78 #[.float .f32 a] w (RetB w (amount (canon .f32 a))) := by
  go_enter Try.func78, Try.ntmps78
  go_wp2_with (refine wpList_buildSlice rfl _ _ _ rfl (.slice (some ⟨w.heap.size, 0, none⟩) 1 1) (w.alloc (.cells (fA 1 fun _ => a) 24)) (by kernel_rfl) ?_)
  refine (isFinite_any w.heap.size 1 24 (fun _ => a) _ (Blk.new w _ _) (by decide)).mono ?_
  rintro e w1 ⟨rfl, hb⟩
  have hB : Below w.heap.size w w1 := bCall (by repeat (first | assumption | exact Below.refl _ _ | refine bDrew ?_ _ | refine Below.alloc ?_ (by first | omega | (simp; done) | (simp; omega)) _ | refine Below.setCell ?_ (by first | omega | (simp; done) | (simp; omega)) _ | refine bRow ?_ (by first | omega | (simp; done) | (simp; omega)) _)) hb (by first | omega | (simp; done) | (simp; omega))
  cases hq : (allTo 1 fun _ => fin (canon .f32 a)) with
  | false =>
    have Hq := Lib.hid hq
    clear hq
    go_wp2
    go_ret
    exact ⟨congrArg (fun x => Ending.returned (Value.bool x)) (by have h := Hq.out; rw [show (allTo 1 fun _ => fin (canon .f32 a)) = fin (canon .f32 a) by simp [allTo]] at h; simp [amount, h]), hB⟩
  | true =>
    have Hq := Lib.hid hq
    clear hq
    go_wp2
    go_ret
    exact ⟨congrArg (fun x => Ending.returned (Value.bool x)) (by have h := Hq.out; rw [show (allTo 1 fun _ => fin (canon .f32 a)) = fin (canon .f32 a) by simp [allTo]] at h; simp only [amount, h, Bool.and_true]; exact o_ge _ _), hB⟩
theorem isShare_any (a : Nat) (w : World) : Calls Try.prog 34 #[.float .f32 a] w (RetBq w (share (canon .f32 a))) := by
  cases h0 : (FloatKind.f32.format.order a 0 == some .gt || FloatKind.f32.format.order a 0 == some .eq) with
  | false =>
    have H0 := Lib.hid h0
    go_enter Try.func34, Try.ntmps34
    go_wp2
    go_ret
    exact ⟨congrArg (fun x => Ending.returned (Value.bool x)) (by have h := H0.out; rw [o_ge] at h; simp [share, h]), 0, rfl⟩
  | true =>
    have H0 := Lib.hid h0
    go_enter Try.func34, Try.ntmps34
    go_wp2
    go_ret
    exact ⟨congrArg (fun x => Ending.returned (Value.bool x)) (by have h := H0.out; rw [o_ge] at h; simp only [share, h, Bool.true_and]; exact o_le _ _), 0, rfl⟩
theorem notOne_any (F x g : Nat) (p : Bool) (w : World) (he : Enters Try.prog F) (hg : w.cell? ⟨g, 0, none⟩ = some (.func (.func F) #[] #[])) (hF : Calls Try.prog F #[.float .f32 x] w (RetB w p)) :
    Calls Try.prog 66 #[.float .f32 x, .pointer (some ⟨g, 0, none⟩)] w (RetB w (!p)) := by
  have HF := Lib.hid hF
  have he' := he
  unfold Enters at he'
  clear hF he
  go_enter Try.func66, Try.ntmps66
  go_wp2_with fail
  refine HF.out.mono ?_
  rintro e w1 ⟨rfl, hb⟩
  go_wp2
  go_ret
  exact ⟨rfl, hb⟩
theorem all_any (F : Nat) (p : Option Nat → Bool) (c : Nat → Nat) (w : World) (he : Enters Try.prog F)
    (hF : ∀ (x : Nat) (w1 : World), Calls Try.prog F #[.float .f32 x] w1 (RetB w1 (p (canon .f32 x)))) :
    Calls Try.prog 33 #[.agg (fA 16 c), .func (.func F) #[] #[]] w (RetB w (allTo 16 fun i => p (canon .f32 (c i)))) := by
  have HF := Lib.hid hF
  clear hF
  go_enter Try.func33, Try.ntmps33
  go_wp2_with fail
  refine (containsFunc_any 66 #[.pointer (some ⟨w.heap.size + 1, 0, none⟩)] (fun x => !p x) w.heap.size 16 26 c _ (by first | assumption | (repeat (first | assumption | (apply Blk.new_at; (focus (simp; done)); rfl) | apply Blk.alloc | apply Blk.drewN))) (by decide) (fun _ _ => by kernel_rfl)
    (fun x w1 hb => notOne_any F x (w.heap.size + 1) _ w1 he (((Blk.below (t := 60) (cs := #[.func (.func F) #[] #[]]) (by first | assumption | (repeat (first | assumption | (apply Blk.new_at; (focus (simp; done)); rfl) | apply Blk.alloc | apply Blk.drewN))) hb (by first | omega | (simp; done) | (simp; omega))).cell 0).trans rfl) (HF.out x w1))).mono ?_
  rintro e w1 ⟨rfl, hb⟩
  go_wp2
  go_ret
  exact ⟨congrArg (fun x => Ending.returned (Value.bool x)) (by simp only), bCall (by repeat (first | assumption | exact Below.refl _ _ | refine bDrew ?_ _ | refine Below.alloc ?_ (by first | omega | (simp; done) | (simp; omega)) _ | refine Below.setCell ?_ (by first | omega | (simp; done) | (simp; omega)) _ | refine bRow ?_ (by first | omega | (simp; done) | (simp; omega)) _)) hb (by first | omega | (simp; done) | (simp; omega))⟩
theorem l02Amount_any (a : Nat) (w : World) : Calls Try.prog 74 #[.float .f32 a] w (RetBq w (amount (canon .f32 a))) := by
  cases h0 : (FloatKind.f32.format.order a 0 == some .gt || FloatKind.f32.format.order a 0 == some .eq) with
  | false =>
    have H0 := Lib.hid h0
    go_enter Try.func74, Try.ntmps74
    go_wp2
    go_ret
    exact ⟨congrArg (fun x => Ending.returned (Value.bool x)) (by have h := H0.out; rw [o_ge] at h; simp [amount, h]), 0, rfl⟩
  | true =>
    have H0 := Lib.hid h0
    go_enter Try.func74, Try.ntmps74
    go_wp2_with fail
    refine (l01Finite_any _ _).mono ?_
    rintro e w1 ⟨rfl, n, rfl⟩
    go_wp2
    go_ret
    exact ⟨congrArg (fun x => Ending.returned (Value.bool x)) (by have h := H0.out; rw [o_ge] at h; simp only [amount, h, Bool.true_and]), _, rfl⟩
theorem l02Amounts_any (a : Nat → Nat) (w : World) : Calls Try.prog 40 #[.agg (fA 16 a)] w (RetB w (allTo 16 fun i => amount (canon .f32 (a i)))) := by
  go_enter Try.func40, Try.ntmps40
  go_wp2
  go_loopw [3] (fun i wr => ∃ (k : Nat), k ≤ 16 ∧ i = .int .i64 k ∧ Below w.heap.size w wr ∧ Blk wr w.heap.size 26 (fA 16 a) ∧ ∀ j, j < k → (fun j => amount (canon .f32 (a j))) j = true) (fun i _ => 16 - (intOf i).toNat)
  case atStart => exact ⟨0, by omega, rfl, (by repeat (first | assumption | exact Below.refl _ _ | refine bDrew ?_ _ | refine Below.alloc ?_ (by first | omega | (simp; done) | (simp; omega)) _ | refine Below.setCell ?_ (by first | omega | (simp; done) | (simp; omega)) _ | refine bRow ?_ (by first | omega | (simp; done) | (simp; omega)) _)), (by first | assumption | (repeat (first | assumption | (apply Blk.new_at; (focus (simp; done)); rfl) | apply Blk.alloc | apply Blk.drewN))), fun j h => absurd h (by omega)⟩
  case round =>
    obtain ⟨k, hk, rfl, hb, hA, hc⟩ := hrel
    have Hc := Lib.hid hc
    clear hc
    by_cases hlt : k < 16
    · have c1 := (hA.cell k).trans (get_fA_lt a hlt)
      go_wp2_with fail
      refine (l02Amount_any _ _).mono ?_
      rintro e w1 ⟨rfl, n1, rfl⟩
      clear c1
      cases hq : amount (canon .f32 (a k)) with
      | false =>
        have Hq := Lib.hid hq
        clear hq
        go_wp2
        go_ret
        exact ⟨congrArg (fun x => Ending.returned (Value.bool x)) (allTo_false (p := fun j => amount (canon .f32 (a j))) hlt Hq.out).symm, (by repeat (first | assumption | exact Below.refl _ _ | refine bDrew ?_ _ | refine Below.alloc ?_ (by first | omega | (simp; done) | (simp; omega)) _ | refine Below.setCell ?_ (by first | omega | (simp; done) | (simp; omega)) _ | refine bRow ?_ (by first | omega | (simp; done) | (simp; omega)) _))⟩
      | true =>
        have Hq := Lib.hid hq
        clear hq
        go_wp2
        go_roundw
        case rel =>
          refine ⟨k + 1, by omega, by go_num, (by repeat (first | assumption | exact Below.refl _ _ | refine bDrew ?_ _ | refine Below.alloc ?_ (by first | omega | (simp; done) | (simp; omega)) _ | refine Below.setCell ?_ (by first | omega | (simp; done) | (simp; omega)) _ | refine bRow ?_ (by first | omega | (simp; done) | (simp; omega)) _)), (by first | assumption | (repeat (first | assumption | (apply Blk.new_at; (focus (simp; done)); rfl) | apply Blk.alloc | apply Blk.drewN))), ?_⟩
          intro j hj
          by_cases e : j = k
          · subst e; exact Hq.out
          · exact Hc.out j (by omega)
        case measure => simp [intOf]; omega
    · obtain rfl : k = 16 := by omega
      go_wp2
      go_ret
      exact ⟨congrArg (fun x => Ending.returned (Value.bool x)) (allTo_true Hc.out).symm, (by repeat (first | assumption | exact Below.refl _ _ | refine bDrew ?_ _ | refine Below.alloc ?_ (by first | omega | (simp; done) | (simp; omega)) _ | refine Below.setCell ?_ (by first | omega | (simp; done) | (simp; omega)) _ | refine bRow ?_ (by first | omega | (simp; done) | (simp; omega)) _))⟩
theorem l02Share_any (a : Nat → Nat) (w : World) : Calls Try.prog 55 #[.agg (fA 16 a)] w (RetB w (allTo 16 fun i => share (canon .f32 (a i)))) := by
  go_enter Try.func55, Try.ntmps55
  go_wp2
  go_loopw [3] (fun i wr => ∃ (k : Nat), k ≤ 16 ∧ i = .int .i64 k ∧ Below w.heap.size w wr ∧ Blk wr w.heap.size 26 (fA 16 a) ∧ ∀ j, j < k → share (canon .f32 (a j)) = true) (fun i _ => 16 - (intOf i).toNat)
  case atStart => exact ⟨0, by omega, rfl, (by repeat (first | assumption | exact Below.refl _ _ | refine bDrew ?_ _ | refine Below.alloc ?_ (by first | omega | (simp; done) | (simp; omega)) _ | refine Below.setCell ?_ (by first | omega | (simp; done) | (simp; omega)) _ | refine bRow ?_ (by first | omega | (simp; done) | (simp; omega)) _)), (by first | assumption | (repeat (first | assumption | (apply Blk.new_at; (focus (simp; done)); rfl) | apply Blk.alloc | apply Blk.drewN))), fun j h => absurd h (by omega)⟩
  case round =>
    obtain ⟨k, hk, rfl, hb, hA, hc⟩ := hrel
    have Hc := Lib.hid hc
    clear hc
    by_cases hlt : k < 16
    · have c1 := (hA.cell k).trans (get_fA_lt a hlt)
      cases h0 : (FloatKind.f32.format.order (a k) 0 == some .gt || FloatKind.f32.format.order (a k) 0 == some .eq) with
      | false =>
        have H0 := Lib.hid h0
        go_wp2
        go_ret
        exact ⟨congrArg (fun x => Ending.returned (Value.bool x)) (allTo_false hlt (by have h := H0.out; rw [o_ge] at h; simp [share, h])).symm, (by repeat (first | assumption | exact Below.refl _ _ | refine bDrew ?_ _ | refine Below.alloc ?_ (by first | omega | (simp; done) | (simp; omega)) _ | refine Below.setCell ?_ (by first | omega | (simp; done) | (simp; omega)) _ | refine bRow ?_ (by first | omega | (simp; done) | (simp; omega)) _))⟩
      | true =>
        have H0 := Lib.hid h0
        cases h1 : (FloatKind.f32.format.order (a k) 1065353216 == some .lt || FloatKind.f32.format.order (a k) 1065353216 == some .eq) with
        | false =>
          have H1 := Lib.hid h1
          go_wp2
          go_ret
          exact ⟨congrArg (fun x => Ending.returned (Value.bool x)) (allTo_false hlt (by have h := H1.out; rw [o_le] at h; simp [share, h])).symm, (by repeat (first | assumption | exact Below.refl _ _ | refine bDrew ?_ _ | refine Below.alloc ?_ (by first | omega | (simp; done) | (simp; omega)) _ | refine Below.setCell ?_ (by first | omega | (simp; done) | (simp; omega)) _ | refine bRow ?_ (by first | omega | (simp; done) | (simp; omega)) _))⟩
        | true =>
          have H1 := Lib.hid h1
          go_wp2
          go_roundw
          case rel =>
            refine ⟨k + 1, by omega, by go_num, (by repeat (first | assumption | exact Below.refl _ _ | refine bDrew ?_ _ | refine Below.alloc ?_ (by first | omega | (simp; done) | (simp; omega)) _ | refine Below.setCell ?_ (by first | omega | (simp; done) | (simp; omega)) _ | refine bRow ?_ (by first | omega | (simp; done) | (simp; omega)) _)), (by first | assumption | (repeat (first | assumption | (apply Blk.new_at; (focus (simp; done)); rfl) | apply Blk.alloc | apply Blk.drewN))), ?_⟩
            intro j hj
            by_cases e : j = k
            · subst e
              have h := H0.out
              rw [o_ge] at h
              have h' := H1.out
              rw [o_le] at h'
              simp [share, h, h']
            · exact Hc.out j (by omega)
          case measure => simp [intOf]; omega
    · obtain rfl : k = 16 := by omega
      go_wp2
      go_ret
      exact ⟨congrArg (fun x => Ending.returned (Value.bool x)) (allTo_true Hc.out).symm, (by repeat (first | assumption | exact Below.refl _ _ | refine bDrew ?_ _ | refine Below.alloc ?_ (by first | omega | (simp; done) | (simp; omega)) _ | refine Below.setCell ?_ (by first | omega | (simp; done) | (simp; omega)) _ | refine bRow ?_ (by first | omega | (simp; done) | (simp; omega)) _))⟩
end Go.Proofs.Ytfpjiclkhjdihaa

namespace Go.Proofs.Ytfpjiclkhjdihaa
open Go.RowKit
set_option maxRecDepth 100000

theorem addOne_any (a b : Nat) (w : World) : Calls Try.prog 87 #[.float .f32 a, .float .f32 b] w (RetFq w (fadd (canon .f32 a) (canon .f32 b))) := by
  go_enter Try.func87, Try.ntmps87
  go_wp2
  go_ret
  exact ⟨_, rfl, c_add .., _, rfl⟩
theorem iAddCurves_any (c d : Nat → Nat) (w : World) :
    Calls Try.prog 67 #[.agg (fA 16 c), .agg (fA 16 d)] w (RetC 16 w fun i => fadd (canon .f32 (c i)) (canon .f32 (d i))) := by
  go_enter Try.func67, Try.ntmps67
  go_wp2_with (first | (refine wpList_load_row rfl 26 _ rfl (w.heap.size) rfl 26 (fA 16 c) (0, 0) _ (((Blk.new w _ _).alloc _).alloc _) Try.underlying26 rfl (by kernel_rfl) ?_) | (refine wpList_load_row rfl 26 _ rfl (w.heap.size + 1) rfl 26 (fA 16 d) (0, 0) _ ((Blk.new_at _ _ (by simp) rfl).alloc _) Try.underlying26 rfl (by kernel_rfl) ?_))
  refine (with_any 87 #[] fadd c d _ (fun _ _ => by kernel_rfl) (fun x y w1 _ => (addOne_any x y w1).mono fun _ _ h => h.to)).mono ?_
  rintro e w1 ⟨r, rfl, hr, hb⟩
  have hZ : Blk w1 (w.heap.size + 1 + 1) 26 (fA 16 fun _ => 0) := Blk.below (by first | assumption | (repeat (first | assumption | (apply Blk.new_at; (focus (simp; done)); rfl) | apply Blk.alloc | apply Blk.drewN))) hb (by first | omega | (simp; done) | (simp; omega))
  have hB : Below w.heap.size w w1 := bCall (by repeat (first | assumption | exact Below.refl _ _ | refine bDrew ?_ _ | refine Below.alloc ?_ (by first | omega | (simp; done) | (simp; omega)) _ | refine Below.setCell ?_ (by first | omega | (simp; done) | (simp; omega)) _ | refine bRow ?_ (by first | omega | (simp; done) | (simp; omega)) _)) hb (by first | omega | (simp; done) | (simp; omega))
  have Hr := Lib.hid hr
  clear hr
  go_wp2_with (refine wpList_store_row rfl 26 _ _ rfl _ _ rfl rfl _ _ (by first | assumption | (repeat (first | assumption | (apply Blk.new_at; (focus (simp; done)); rfl) | apply Blk.alloc | apply Blk.drewN))) (by kernel_rfl) (by simp only [size_fA]) (all_fA _ _) ?_)
  exact bodyPost_ret (results_cell_row rfl _ _ (w.heap.size + 1 + 1) _ _ _ _ rfl hZ.setRow Try.underlying26 rfl (by kernel_rfl)) rfl ⟨_, rfl, Hr.out, (by repeat (first | assumption | exact Below.refl _ _ | refine bDrew ?_ _ | refine Below.alloc ?_ (by first | omega | (simp; done) | (simp; omega)) _ | refine Below.setCell ?_ (by first | omega | (simp; done) | (simp; omega)) _ | refine bRow ?_ (by first | omega | (simp; done) | (simp; omega)) _))⟩
end Go.Proofs.Ytfpjiclkhjdihaa

namespace Go.Proofs.Ytfpjiclkhjdihaa
open Go.RowKit

/-- The row from an offset on. -/
def rowAt (b : Nat → Nat) (o : Nat) : Nat → Nat := fun j => b (o + j)
/-- A row with m numbers put in from an offset on. -/
def putAt (b : Nat → Nat) (o m : Nat) (c : Nat → Nat) : Nat → Nat := fun j => if o ≤ j ∧ j < o + m then c (j - o) else b j

section
variable {P : Program} {w : World} {g n : Nat} {t : TypeId} {b : Nat → Nat}
theorem rangeAt_part (h : Blk w g t (fA n b)) {o m : Nat} (hm : o + m ≤ n) : w.rangeAt g o (fA m (rowAt b o)).toList := by
  intro j v hv
  rw [h.cell, get_fA]
  rw [Array.getElem?_toList, get_fA] at hv
  by_cases hj : j < m
  · rw [if_pos hj] at hv
    rw [if_pos (by omega)]
    exact hv
  · rw [if_neg hj] at hv
    cases hv
theorem load_part (ty : TypeId) {d : TypeDesc} (h : Blk w g t (fA n b)) (o m : Nat) (hm : o + m ≤ n) (hu : P.underlying ty = some d) (hd : d.isRow = true) (hi : (P.info? ty).map (·.size) = some m) :
    (Instr.loadAt ty (.pointer (some ⟨g, o, none⟩))).run P w = .ok (.agg (fA m (rowAt b o))) w :=
  run_loadAt_mid w g o ty (fA m (rowAt b o)).toList d (rangeAt_part h hm) hu hd (by simpa using hi)

/-- A part is read. -/
theorem wpList_load_part {ops : Array Oper} {rest : List Oper} {op : Oper} {a : Act} {Q : Exit → Act → World → Prop} (hgd : op.guard = none) (ty : TypeId) (x : Operand) (ho : op.op = .load ty x)
    (o m : Nat) {d : TypeDesc} (h0 : Blk w g t (fA n b)) (hx : a.eval x = .pointer (some ⟨g, o, none⟩)) (hm : o + m ≤ n) (hu : P.underlying ty = some d) (hd : d.isRow = true)
    (hi : (P.info? ty).map (·.size) = some m) (h : wpList P ops Q rest (a.put op.dst (.agg (fA m (rowAt b o)))) w) : wpList P ops Q (op :: rest) a w :=
  wpList_load_mid hgd ty x ho g o hx (fA m (rowAt b o)).toList d (rangeAt_part h0 hm) hu hd (by simpa using hi) h

/-- A part is read, where the operation's guard says yes. -/
theorem wpList_load_partW {ops : Array Oper} {rest : List Oper} {op : Oper} {a : Act} {Q : Exit → Act → World → Prop} (hgd : Region.wanted op (yielded ops a.tmps) = true) (ty : TypeId) (x : Operand) (ho : op.op = .load ty x)
    (o m : Nat) {d : TypeDesc} (h0 : Blk w g t (fA n b)) (hx : a.eval x = .pointer (some ⟨g, o, none⟩)) (hm : o + m ≤ n) (hu : P.underlying ty = some d) (hd : d.isRow = true)
    (hi : (P.info? ty).map (·.size) = some m) (h : wpList P ops Q rest (a.put op.dst (.agg (fA m (rowAt b o)))) w) : wpList P ops Q (op :: rest) a w :=
  wpList_step fun K hK => by
    rw [if_pos hgd]
    exact wp_load_mid ty x ho g o hx (fA m (rowAt b o)).toList d (rangeAt_part h0 hm) hu hd (by simpa using hi) (hK _ _ h)

theorem setCell_row {cs : Array Value} (h : Blk w g t cs) (i : Nat) (u : Value) : w.setCell ⟨g, i, none⟩ u = w.setRow g (cs.setIfInBounds i u) := by
  unfold World.setCell World.setRow
  congr 1
  apply Array.ext_getElem?
  intro k
  rw [Array.getElem?_modify, Array.getElem?_modify]
  by_cases hk : g = k
  · subst hk
    unfold Blk at h
    simp [h]
  · simp [hk]
theorem setRow_twice (w : World) (g : Nat) (a b : Array Value) : (w.setRow g a).setRow g b = w.setRow g b := by
  unfold World.setRow
  congr 1
  apply Array.ext_getElem?
  intro k
  rw [Array.getElem?_modify, Array.getElem?_modify, Array.getElem?_modify]
  by_cases hk : g = k
  · subst hk
    cases w.heap[g]? with
    | none => simp
    | some o => cases o <;> simp
  · simp [hk]
theorem setCells_row (m : Nat) : ∀ (o : Nat) (c : Nat → Nat) (w : World) (b : Nat → Nat), Blk w g t (fA n b) → w.setCells g o (fA (m + 1) c).toList = w.setRow g (fA n (putAt b o (m + 1) c)) := by
  induction m with
  | zero =>
    intro o c w b h
    show (w.setCell ⟨g, o, none⟩ (.float .f32 (c 0))) = _
    rw [setCell_row h, fA_set]
    congr 1
    apply fA_congr
    intro i _
    unfold putAt
    by_cases hi : i = o
    · subst hi; simp
    · rw [if_neg hi, if_neg (by omega)]
  | succ m ih =>
    intro o c w b h
    have hl : (fA (m + 1 + 1) c).toList = .float .f32 (c 0) :: (fA (m + 1) fun i => c (i + 1)).toList := by
      unfold fA
      rw [List.range_succ_eq_map]
      simp [List.map_map, Function.comp_def]
    rw [hl]
    show (w.setCell ⟨g, o, none⟩ (.float .f32 (c 0))).setCells g (o + 1) _ = _
    have h1 := h.setF o (c 0)
    rw [ih (o + 1) _ _ _ h1, setCell_row h, setRow_twice]
    congr 1
    apply fA_congr
    intro i _
    unfold putAt upd
    by_cases hi : i = o
    · subst hi
      rw [if_neg (by omega), if_pos rfl, if_pos (by omega)]
      simp
    · by_cases h2 : o + 1 ≤ i ∧ i < o + 1 + (m + 1)
      · rw [if_pos h2, if_pos (by omega)]
        show c (i - (o + 1) + 1) = c (i - o)
        congr 1
        omega
      · rw [if_neg h2, if_neg hi, if_neg (by omega)]
theorem there_part (h : Blk w g t (fA n b)) {o m : Nat} (hm : o + m ≤ n) : w.there g o m := by
  intro j hj
  rw [h.cell, get_fA_lt b (by omega)]
  exact ⟨rfl, h.frozen _⟩
/-- A part is written. -/
theorem wpList_store_part {ops : Array Oper} {rest : List Oper} {op : Oper} {a : Act} {Q : Exit → Act → World → Prop} (hgd : op.guard = none) (ty : TypeId) (x y : Operand) (ho : op.op = .store ty x y)
    (o m : Nat) (c : Nat → Nat) (h0 : Blk w g t (fA n b)) (hx : a.eval x = .pointer (some ⟨g, o, none⟩)) (hy : a.eval y = .agg (fA m c)) (hm : 0 < m ∧ o + m ≤ n)
    (hi : (P.info? ty).map (·.size) = some m) (h : wpList P ops Q rest (a.put op.dst undef) (w.setRow g (fA n (putAt b o m c)))) : wpList P ops Q (op :: rest) a w := by
  obtain ⟨m, rfl⟩ : ∃ k, m = k + 1 := ⟨m - 1, by omega⟩
  exact wpList_store_mid hgd ty x y ho g o (fA (m + 1) c) hx hy (by rw [size_fA]; exact there_part h0 hm.2) (by rw [size_fA]; exact hi) (all_fA _ _) (by rw [setCells_row m o c w b h0]; exact h)
end
end Go.Proofs.Ytfpjiclkhjdihaa

namespace Go.Proofs.Ytfpjiclkhjdihaa
open Go.RowKit
set_option maxRecDepth 100000

def layerOk (a : Nat → Nat) : Bool := allTo 16 (fun i => amount (canon .f32 (rowAt a 0 i))) && allTo 16 (fun i => amount (canon .f32 (rowAt a 16 i))) && amount (canon .f32 (a 32))
/-- Not more than 1.001 in all. -/
def least (x y : Option Nat) : Bool := fle (fadd x y) (canon .f32 1065361605)
def filmOk (a : Nat → Nat) : Bool :=
  allTo 16 (fun i => share (canon .f32 (rowAt a 0 i))) && allTo 16 (fun i => share (canon .f32 (rowAt a 16 i))) && allTo 16 (fun i => share (canon .f32 (rowAt a 32 i)))
    && allTo 16 (fun i => least (canon .f32 (rowAt a 0 i)) (canon .f32 (rowAt a 32 i))) && allTo 16 (fun i => least (canon .f32 (rowAt a 16 i)) (canon .f32 (rowAt a 32 i)))

theorem datum_order_some {a b : Ieee.Datum} (ha : a.isNaN = false) (hb : b.isNaN = false) : (a.order b).isSome = true := by
  cases a <;> cases b <;> simp_all [Ieee.Datum.isNaN, Ieee.Datum.order]
theorem share_number {x : Option Nat} (h : share x = true) : ∃ b s m e, x = some b ∧ FloatKind.f32.decode b = .number s m e := by
  cases x with
  | none => cases h
  | some b =>
    cases hd : FloatKind.f32.decode b with
    | number s m e => exact ⟨b, s, m, e, rfl, hd⟩
    | infinity s =>
      exfalso
      have h0 : FloatKind.f32.decode 0 = .number false 0 (-149) := by decide
      have h1 : FloatKind.f32.decode 1065353216 = .number false 8388608 (-23) := by decide
      have k0 : cord .f32 (some b) (canon .f32 0) = (FloatKind.f32.decode b).order (FloatKind.f32.decode 0) := rfl
      have k1 : cord .f32 (some b) (canon .f32 1065353216) = (FloatKind.f32.decode b).order (FloatKind.f32.decode 1065353216) := rfl
      rw [hd, h0] at k0
      rw [hd, h1] at k1
      unfold share fge fle at h
      rw [k0, k1] at h
      cases s <;> simp [Ieee.Datum.order] at h
    | nan s t =>
      exfalso
      have k0 : cord .f32 (some b) (canon .f32 0) = (FloatKind.f32.decode b).order (FloatKind.f32.decode 0) := rfl
      rw [hd] at k0
      unfold share fge at h
      rw [k0] at h
      simp [Ieee.Datum.order] at h
theorem share_sum {x y : Option Nat} (hx : share x = true) (hy : share y = true) : ∃ r, fadd x y = some r ∧ (FloatKind.f32.decode r).isNaN = false := by
  obtain ⟨a, s, m, e, rfl, ha⟩ := share_number hx
  obtain ⟨b, s', m', e', rfl, hb⟩ := share_number hy
  have h1 : fadd (some a) (some b) = Option.map FloatKind.f32.format.write ((FloatKind.f32.decode a).sum (FloatKind.f32.decode b)) := rfl
  cases hs : (FloatKind.f32.decode a).sum (FloatKind.f32.decode b) with
  | none => rw [ha, hb] at hs; simp [Ieee.Datum.sum] at hs
  | some d =>
    rw [hs] at h1
    exact ⟨_, h1, write_notNaN _ (binade_le .f32) d (sum_notNaN hs).1⟩
theorem share_gt {x y : Option Nat} (hx : share x = true) (hy : share y = true) : fgt (fadd x y) (canon .f32 1065361605) = !least x y := by
  obtain ⟨r, hr, hn⟩ := share_sum hx hy
  unfold least
  rw [hr]
  have h := datum_order_some hn (show (FloatKind.f32.decode 1065361605).isNaN = false by decide)
  have k : cord .f32 (some r) (canon .f32 1065361605) = (FloatKind.f32.decode r).order (FloatKind.f32.decode 1065361605) := rfl
  unfold fgt fle
  rw [k]
  obtain ⟨o, ho⟩ := Option.isSome_iff_exists.1 h
  rw [ho]
  cases o <;> rfl

theorem iValidLayer_any (a : Nat → Nat) (w : World) : Calls Try.prog 42 #[.agg (fA 33 a)] w (RetB w (layerOk a)) := by
  have hA : Blk (w.alloc (.cells (fA 33 a) 41)) w.heap.size 41 (fA 33 a) := Blk.new _ _ _
  have hb : Below w.heap.size w (w.alloc (.cells (fA 33 a) 41)) := (by repeat (first | assumption | exact Below.refl _ _ | refine bDrew ?_ _ | refine Below.alloc ?_ (by first | omega | (simp; done) | (simp; omega)) _ | refine Below.setCell ?_ (by first | omega | (simp; done) | (simp; omega)) _ | refine bRow ?_ (by first | omega | (simp; done) | (simp; omega)) _))
  go_enter Try.func42, Try.ntmps42
  go_wp2_with (refine wpList_load_part rfl 26 _ rfl 0 16 hA rfl (by decide) Try.underlying26 rfl (by kernel_rfl) ?_)
  refine (all_any 78 amount (rowAt a 0) (w.alloc (.cells (fA 33 a) 41)) (fun _ _ => by kernel_rfl) isAmount_any).mono ?_
  rintro e w1 ⟨rfl, hb1⟩
  have hA := hA.below hb1 hA.lt
  have hb := bCall hb hb1 hb.size
  clear hb1
  cases h0 : (allTo 16 fun i => amount (canon .f32 (rowAt a 0 i))) with
  | false =>
    have H0 := Lib.hid h0
    clear h0
    go_wp2
    go_ret
    exact ⟨congrArg (fun x => Ending.returned (Value.bool x)) (by have h := H0.out; simp only [layerOk, h, Bool.false_and]), hb⟩
  | true =>
    have H0 := Lib.hid h0
    clear h0
    go_wp2_with (refine wpList_load_partW rfl 26 _ rfl 16 16 hA rfl (by decide) Try.underlying26 rfl (by kernel_rfl) ?_)
    refine (all_any 78 amount (rowAt a 16) w1 (fun _ _ => by kernel_rfl) isAmount_any).mono ?_
    rintro e w2 ⟨rfl, hb1⟩
    have hA := hA.below hb1 hA.lt
    have hb := bCall hb hb1 hb.size
    clear hb1
    cases h1 : (allTo 16 fun i => amount (canon .f32 (rowAt a 16 i))) with
    | false =>
      have H1 := Lib.hid h1
      clear h1
      go_wp2
      go_ret
      exact ⟨congrArg (fun x => Ending.returned (Value.bool x)) (by have h := H1.out; simp only [layerOk, h, Bool.and_false, Bool.false_and]), hb⟩
    | true =>
      have H1 := Lib.hid h1
      clear h1
      have c1 := (hA.cell 32).trans (get_fA_lt a (by omega))
      go_wp2_with fail
      refine (isAmount_any (a 32) w2).mono ?_
      rintro e w3 ⟨rfl, hb1⟩
      have hb := bCall hb hb1 hb.size
      clear hb1
      go_wp2
      go_ret
      exact ⟨congrArg (fun x => Ending.returned (Value.bool x)) (by have h := H0.out; have h' := H1.out; simp only [layerOk, h, h', Bool.true_and]), hb⟩
theorem isLessOne_any (x : Nat) (w : World) : Calls Try.prog 68 #[.float .f32 x] w (RetBq w (fle (canon .f32 x) (canon .f32 1065361605))) := by
  go_enter Try.func68, Try.ntmps68
  go_wp2
  go_ret
  exact ⟨congrArg (fun x => Ending.returned (Value.bool x)) (o_le _ _), 0, rfl⟩
theorem isLess_any (c d : Nat → Nat) (w : World) : Calls Try.prog 35 #[.agg (fA 16 c), .agg (fA 16 d)] w (RetB w (allTo 16 fun i => least (canon .f32 (c i)) (canon .f32 (d i)))) := by
  have hA : Blk ((w.alloc (.cells (fA 16 c) 26)).alloc (.cells (fA 16 d) 26)) w.heap.size 26 (fA 16 c) := (Blk.new _ _ _).alloc _
  have hB : Blk ((w.alloc (.cells (fA 16 c) 26)).alloc (.cells (fA 16 d) 26)) (w.heap.size + 1) 26 (fA 16 d) := Blk.new_at _ _ (by simp) rfl
  have hb : Below w.heap.size w ((w.alloc (.cells (fA 16 c) 26)).alloc (.cells (fA 16 d) 26)) := (by repeat (first | assumption | exact Below.refl _ _ | refine bDrew ?_ _ | refine Below.alloc ?_ (by first | omega | (simp; done) | (simp; omega)) _ | refine Below.setCell ?_ (by first | omega | (simp; done) | (simp; omega)) _ | refine bRow ?_ (by first | omega | (simp; done) | (simp; omega)) _))
  go_enter Try.func35, Try.ntmps35
  go_wp2_with (first | (refine wpList_load_row rfl 26 _ rfl _ rfl _ _ (0, 0) _ hA Try.underlying26 rfl (by kernel_rfl) ?_) | (refine wpList_load_row rfl 26 _ rfl _ rfl _ _ (0, 0) _ hB Try.underlying26 rfl (by kernel_rfl) ?_))
  refine (iAddCurves_any c d _).mono ?_
  rintro e w1 ⟨r, rfl, hr, hb1⟩
  have hb := bCall hb hb1 hb.size
  have Hr := Lib.hid hr
  clear hr hb1
  go_wp2_with fail
  refine (all_any 68 (fun x => fle x (canon .f32 1065361605)) r w1 (fun _ _ => by kernel_rfl) (fun x w1 => (isLessOne_any x w1).mono fun _ _ h => h.to)).mono ?_
  rintro e w2 ⟨rfl, hb1⟩
  go_wp2
  go_ret
  exact ⟨congrArg (fun x => Ending.returned (Value.bool x)) (allTo_congr fun i hi => by rw [Hr.out i hi]; rfl), bCall hb hb1 hb.size⟩
set_option maxHeartbeats 1000000 in
theorem iValidFilm_any (a : Nat → Nat) (w : World) : Calls Try.prog 10 #[.agg (fA 48 a)] w (RetB w (filmOk a)) := by
  have hA : Blk (w.alloc (.cells (fA 48 a) 28)) w.heap.size 28 (fA 48 a) := Blk.new _ _ _
  have hb : Below w.heap.size w (w.alloc (.cells (fA 48 a) 28)) := (by repeat (first | assumption | exact Below.refl _ _ | refine bDrew ?_ _ | refine Below.alloc ?_ (by first | omega | (simp; done) | (simp; omega)) _ | refine Below.setCell ?_ (by first | omega | (simp; done) | (simp; omega)) _ | refine bRow ?_ (by first | omega | (simp; done) | (simp; omega)) _))
  go_enter Try.func10, Try.ntmps10
  go_wp2_with (first | (refine wpList_load_part rfl 26 _ rfl 0 16 hA rfl (by decide) Try.underlying26 rfl (by kernel_rfl) ?_))
  refine (all_any 34 share (rowAt a 0) (w.alloc (.cells (fA 48 a) 28)) (fun _ _ => by kernel_rfl) (fun x w1 => (isShare_any x w1).mono fun _ _ h => h.to)).mono ?_
  rintro e w1 ⟨rfl, hb1⟩
  have hA := hA.below hb1 hA.lt
  have hb := bCall hb hb1 hb.size
  clear hb1
  cases h0 : (allTo 16 fun i => share (canon .f32 (rowAt a 0 i))) with
  | false =>
    have H0 := Lib.hid h0
    clear h0
    go_wp2
    go_ret
    exact ⟨congrArg (fun x => Ending.returned (Value.bool x)) (by have h := H0.out; simp [filmOk, h]), hb⟩
  | true =>
    have H0 := Lib.hid h0
    clear h0
    go_wp2_with (first | (refine wpList_load_partW rfl 26 _ rfl 16 16 hA rfl (by decide) Try.underlying26 rfl (by kernel_rfl) ?_))
    refine (all_any 34 share (rowAt a 16) w1 (fun _ _ => by kernel_rfl) (fun x w1 => (isShare_any x w1).mono fun _ _ h => h.to)).mono ?_
    rintro e w2 ⟨rfl, hb1⟩
    have hA := hA.below hb1 hA.lt
    have hb := bCall hb hb1 hb.size
    clear hb1
    cases h1 : (allTo 16 fun i => share (canon .f32 (rowAt a 16 i))) with
    | false =>
      have H1 := Lib.hid h1
      clear h1
      go_wp2
      go_ret
      exact ⟨congrArg (fun x => Ending.returned (Value.bool x)) (by have h := H1.out; simp [filmOk, h]), hb⟩
    | true =>
      have H1 := Lib.hid h1
      clear h1
      go_wp2_with (first | (refine wpList_load_partW rfl 26 _ rfl 32 16 hA rfl (by decide) Try.underlying26 rfl (by kernel_rfl) ?_))
      refine (all_any 34 share (rowAt a 32) w2 (fun _ _ => by kernel_rfl) (fun x w1 => (isShare_any x w1).mono fun _ _ h => h.to)).mono ?_
      rintro e w3 ⟨rfl, hb1⟩
      have hA := hA.below hb1 hA.lt
      have hb := bCall hb hb1 hb.size
      clear hb1
      cases h2 : (allTo 16 fun i => share (canon .f32 (rowAt a 32 i))) with
      | false =>
        have H2 := Lib.hid h2
        clear h2
        go_wp2
        go_ret
        exact ⟨congrArg (fun x => Ending.returned (Value.bool x)) (by have h := H2.out; simp [filmOk, h]), hb⟩
      | true =>
        have H2 := Lib.hid h2
        clear h2
        go_wp2_with (first | (refine wpList_load_partW rfl 26 _ rfl 0 16 hA rfl (by decide) Try.underlying26 rfl (by kernel_rfl) ?_) | (refine wpList_load_partW rfl 26 _ rfl 32 16 hA rfl (by decide) Try.underlying26 rfl (by kernel_rfl) ?_))
        refine (isLess_any (rowAt a 0) (rowAt a 32) w3).mono ?_
        rintro e w4 ⟨rfl, hb1⟩
        have hA := hA.below hb1 hA.lt
        have hb := bCall hb hb1 hb.size
        clear hb1
        cases h3 : (allTo 16 fun i => least (canon .f32 (rowAt a 0 i)) (canon .f32 (rowAt a 32 i))) with
        | false =>
          have H3 := Lib.hid h3
          clear h3
          go_wp2
          go_ret
          exact ⟨congrArg (fun x => Ending.returned (Value.bool x)) (by have h := H3.out; simp [filmOk, h]), hb⟩
        | true =>
          have H3 := Lib.hid h3
          clear h3
          go_wp2_with (first | (refine wpList_load_partW rfl 26 _ rfl 16 16 hA rfl (by decide) Try.underlying26 rfl (by kernel_rfl) ?_) | (refine wpList_load_partW rfl 26 _ rfl 32 16 hA rfl (by decide) Try.underlying26 rfl (by kernel_rfl) ?_))
          refine (isLess_any (rowAt a 16) (rowAt a 32) w4).mono ?_
          rintro e w5 ⟨rfl, hb1⟩
          have hb := bCall hb hb1 hb.size
          clear hb1
          go_wp2
          go_ret
          exact ⟨congrArg (fun x => Ending.returned (Value.bool x)) (by have h0 := H0.out; have h1 := H1.out; have h2 := H2.out; have h3 := H3.out; simp only [filmOk, h0, h1, h2, h3, Bool.true_and]), hb⟩
end Go.Proofs.Ytfpjiclkhjdihaa

namespace Go.Proofs.Ytfpjiclkhjdihaa
open Go.RowKit
set_option maxRecDepth 100000

set_option maxRecDepth 100000 in
set_option maxHeartbeats 500000 in
theorem l02Film_any (g : Nat) (T : TypeId) (a : Nat → Nat) (w : World) (hA : Blk w g T (fA 48 a)) : Calls Try.prog 30 #[.pointer (some ⟨g, 0, none⟩)] w (RetB w (filmOk a)) := by
  have hb := Below.refl w.heap.size w
  go_enter Try.func30, Try.ntmps30
  go_wp2_with (refine wpList_load_part rfl 26 _ rfl 0 16 hA rfl (by decide) Try.underlying26 rfl (by kernel_rfl) ?_)
  refine (l02Share_any (rowAt a 0) w).mono ?_
  rintro e w1 ⟨rfl, hb1⟩
  have hA := hA.below hb1 hA.lt
  have hb := bCall hb hb1 hb.size
  clear hb1
  cases h0 : (allTo 16 fun i => share (canon .f32 (rowAt a 0 i))) with
  | false =>
    have H0 := Lib.hid h0
    clear h0
    go_wp2
    go_ret
    exact ⟨congrArg (fun x => Ending.returned (Value.bool x)) (by have h := H0.out; simp [filmOk, h]), hb⟩
  | true =>
    have H0 := Lib.hid h0
    clear h0
    go_wp2_with (refine wpList_load_partW rfl 26 _ rfl 16 16 hA rfl (by decide) Try.underlying26 rfl (by kernel_rfl) ?_)
    refine (l02Share_any (rowAt a 16) w1).mono ?_
    rintro e w2 ⟨rfl, hb1⟩
    have hA := hA.below hb1 hA.lt
    have hb := bCall hb hb1 hb.size
    clear hb1
    cases h1 : (allTo 16 fun i => share (canon .f32 (rowAt a 16 i))) with
    | false =>
      have H1 := Lib.hid h1
      clear h1
      go_wp2
      go_ret
      exact ⟨congrArg (fun x => Ending.returned (Value.bool x)) (by have h := H1.out; simp [filmOk, h]), hb⟩
    | true =>
      have H1 := Lib.hid h1
      clear h1
      go_wp2_with (refine wpList_load_partW rfl 26 _ rfl 32 16 hA rfl (by decide) Try.underlying26 rfl (by kernel_rfl) ?_)
      refine (l02Share_any (rowAt a 32) w2).mono ?_
      rintro e w3 ⟨rfl, hb1⟩
      have hA := hA.below hb1 hA.lt
      have hb := bCall hb hb1 hb.size
      clear hb1
      cases h2 : (allTo 16 fun i => share (canon .f32 (rowAt a 32 i))) with
      | false =>
        have H2 := Lib.hid h2
        clear h2
        go_wp2
        go_ret
        exact ⟨congrArg (fun x => Ending.returned (Value.bool x)) (by have h := H2.out; simp [filmOk, h]), hb⟩
      | true =>
        have H2 := Lib.hid h2
        clear h2
        go_wp2
        go_loopw [3] (fun i wr => ∃ (k : Nat), k ≤ 16 ∧ i = .int .i64 k ∧ Below w.heap.size w wr ∧ Blk wr g T (fA 48 a) ∧ (∀ j, j < k → least (canon .f32 (rowAt a 0 j)) (canon .f32 (rowAt a 32 j)) = true) ∧ ∀ j, j < k → least (canon .f32 (rowAt a 16 j)) (canon .f32 (rowAt a 32 j)) = true) (fun i _ => 16 - (intOf i).toNat)
        case atStart => exact ⟨0, by omega, rfl, hb, hA, fun j h => absurd h (by omega), fun j h => absurd h (by omega)⟩
        case round =>
          clear hA hb
          obtain ⟨k, hk, rfl, hb, hA, hc, hd⟩ := hrel
          have Hc := Lib.hid hc
          have Hd := Lib.hid hd
          clear hc hd
          by_cases hlt : k < 16
          · have c0 : wr.cell? ⟨g, k, none⟩ = some (.float .f32 (a k)) := (hA.cell k).trans (get_fA_lt a (by omega))
            have c1 : wr.cell? ⟨g, 16 + k, none⟩ = some (.float .f32 (a (16 + k))) := (hA.cell (16 + k)).trans (get_fA_lt a (by omega))
            have c2 : wr.cell? ⟨g, 32 + k, none⟩ = some (.float .f32 (a (32 + k))) := (hA.cell (32 + k)).trans (get_fA_lt a (by omega))
            have S0 : share (canon .f32 (a k)) = true := by have h := allTo_get H0.out hlt; simp only [rowAt, Nat.zero_add] at h; exact h
            have S1 : share (canon .f32 (a (16 + k))) = true := allTo_get H1.out hlt
            have S2 : share (canon .f32 (a (32 + k))) = true := allTo_get H2.out hlt
            have e0 : Hid (∀ w', (FloatKind.f32.format.order (fval .add .f32 (a k) (a (32 + k)) w') 1065361605 == some .gt) = !least (canon .f32 (a k)) (canon .f32 (a (32 + k)))) := Lib.hid fun w' => by rw [o_gt, c_add]; exact share_gt S0 S2
            have e1 : Hid (∀ w', (FloatKind.f32.format.order (fval .add .f32 (a (16 + k)) (a (32 + k)) w') 1065361605 == some .gt) = !least (canon .f32 (a (16 + k))) (canon .f32 (a (32 + k)))) := Lib.hid fun w' => by rw [o_gt, c_add]; exact share_gt S1 S2
            clear S0 S1 S2
            go_wp2_with fail
            refine wp_region_hl (fun w' => ∃ n, w' = wr.drewN n) (fun _ _ _ => False) (by kernel_rfl) (by kernel_rfl) ⟨1, rfl⟩ ?_
            iterate 15 (refine hl_plain rfl (fun K hK w1 hw1 => ?_); obtain ⟨n, rfl⟩ := hw1; go_simp; refine ⟨⟨_, rfl⟩, hK _ ?_⟩; clear hK K)
            rw [e0.out]
            cases hq : least (canon .f32 (a k)) (canon .f32 (a (32 + k))) with
            | false =>
              have Hq := Lib.hid hq
              clear hq
              iterate 14 (refine (hl_skipE (by kernel_rfl) (by go_simp; rfl) ?_))
              iterate 1 (refine hl_plain rfl (fun K hK w1 hw1 => ?_); obtain ⟨n, rfl⟩ := hw1; go_simp; refine ⟨⟨_, rfl⟩, hK _ ?_⟩; clear hK K)
              (refine hl_nil ?_; intro _ hw'; obtain ⟨nq, rfl⟩ := hw')
              go_wp2
              go_ret
              exact ⟨congrArg (fun x => Ending.returned (Value.bool x)) (by have h := allTo_false (p := fun i => least (canon .f32 (rowAt a 0 i)) (canon .f32 (rowAt a 32 i))) hlt (by simp only [rowAt, Nat.zero_add]; exact Hq.out); simp [filmOk, h]), bDrew hb _⟩
            | true =>
              have Hq := Lib.hid hq
              clear hq
              iterate 14 (refine (hl_want (by kernel_rfl) (fun K hK w1 hw1 => ?_)); obtain ⟨n, rfl⟩ := hw1; go_simp; refine ⟨⟨_, rfl⟩, hK _ ?_⟩; clear hK K)
              rw [e1.out]
              iterate 1 (refine hl_plain rfl (fun K hK w1 hw1 => ?_); obtain ⟨n, rfl⟩ := hw1; go_simp; refine ⟨⟨_, rfl⟩, hK _ ?_⟩; clear hK K)
              (refine hl_nil ?_; intro _ hw'; obtain ⟨nq, rfl⟩ := hw')
              cases hq2 : least (canon .f32 (a (16 + k))) (canon .f32 (a (32 + k))) with
              | false =>
                have Hq2 := Lib.hid hq2
                clear hq2
                go_wp2
                go_ret
                exact ⟨congrArg (fun x => Ending.returned (Value.bool x)) (by have h := allTo_false (p := fun i => least (canon .f32 (rowAt a 16 i)) (canon .f32 (rowAt a 32 i))) hlt Hq2.out; simp [filmOk, h]), bDrew hb _⟩
              | true =>
                have Hq2 := Lib.hid hq2
                clear hq2
                go_wp2
                go_roundw
                case rel =>
                  refine ⟨k + 1, by omega, by go_num, bDrew hb _, Blk.drewN hA _, ?_, ?_⟩
                  · intro j hj
                    by_cases e : j = k
                    · subst e; simp only [rowAt, Nat.zero_add]; exact Hq.out
                    · exact Hc.out j (by omega)
                  · intro j hj
                    by_cases e : j = k
                    · subst e; exact Hq2.out
                    · exact Hd.out j (by omega)
                case measure => simp [intOf]; omega
          · obtain rfl : k = 16 := by omega
            go_wp2
            go_ret
            exact ⟨congrArg (fun x => Ending.returned (Value.bool x)) (by have h0 := H0.out; have h1 := H1.out; have h2 := H2.out; simp only [filmOk, h0, h1, h2, allTo_true Hc.out, allTo_true Hd.out, Bool.true_and]), hb⟩
end Go.Proofs.Ytfpjiclkhjdihaa
