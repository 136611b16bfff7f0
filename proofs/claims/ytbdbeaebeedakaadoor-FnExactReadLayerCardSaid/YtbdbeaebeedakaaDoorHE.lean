/- The texts of curves, as the reference writes them. -/
import Derived.Test.YtbdbeaebeedakaaDoorHC
namespace Go.Proofs.YtbdbeaebeedakaaDoor
open Go.RowKit
set_option maxRecDepth 100000

/-- The texts of numbers, one behind the other, a blank between two. -/
def rowT (x : Nat → Nat) : Nat → ByteArray
  | 0 => ⟨#[]⟩
  | k + 1 => (if k = 0 then rowT x k else rowT x k ++ ⟨#[32]⟩) ++ hexT (x k)
theorem rowT_size (x : Nat → Nat) (k : Nat) : (rowT x k).size ≤ 9 * k := by
  induction k with
  | zero => exact Nat.le_refl _
  | succ k ih =>
    unfold rowT
    split <;> simp only [ByteArray.size_append, hexT_size]
    · omega
    · have : (⟨#[32]⟩ : ByteArray).size = 1 := rfl
      omega

theorem rowT_succ (x : Nat → Nat) (k : Nat) (h : k ≠ 0) : rowT x (k + 1) = rowT x k ++ ⟨#[32]⟩ ++ hexT (x k) := by
  show (if k = 0 then rowT x k else rowT x k ++ ⟨#[32]⟩) ++ hexT (x k) = _
  rw [if_neg h]
theorem l01Row_all (g : Nat) (T : TypeId) (c x : Nat → Nat) (w : World) (hB0 : Blk w g T (fA 16 c)) (hx0 : ∀ i, i < 16 → bitsOf (canon .f32 (c i)) = x i) (hl0 : ∀ i, i < 16 → x i < 4294967296) : Calls Tryd.prog 49 #[.slice (some ⟨g, 0, none⟩) 16 16] w fun e w' => e = .returned (.string (rowT x 16)) ∧ Below w.heap.size w w' := by
  have Hx := Lib.hid hx0
  have Hl := Lib.hid hl0
  clear hx0 hl0
  go_enter Tryd.func49, Tryd.ntmps49
  go_wp2
  go_loopw [3, 4] (fun s i wr => ∃ (k : Nat) (t : ByteArray), k ≤ 16 ∧ i = .int .i64 k ∧ s = .string t ∧ t = rowT x k ∧ Below w.heap.size w wr) (fun _ i _ => 16 - (intOf i).toNat)
  case atStart => exact ⟨0, _, by omega, rfl, rfl, rfl, Below.refl _ _⟩
  case round =>
    obtain ⟨k, t, hk, rfl, rfl, ht, hb⟩ := hrel
    have htz : t.size ≤ 144 := by have := rowT_size x k; rw [ht]; omega
    have Ht := Lib.hid ht
    clear ht
    have hB := hB0.below hb hB0.lt
    by_cases hlt : k < 16
    · have c1 := (hB.cell k).trans (get_fA_lt c hlt)
      by_cases hz : k = 0
      · subst hz
        go_wp2_with fail
        refine (l01Hex_all (c 0) (x 0) wr (Hx.out 0 hlt) (Hl.out 0 hlt)).mono ?_
        rintro e w1 ⟨rfl, hb1⟩
        have hhs := hexT_size (x 0)
        go_wp2
        go_roundw
        case rel => exact ⟨1, _, by omega, by go_num, rfl, by rw [Ht.out]; rfl, bCall hb hb1 hb.size⟩
        case measure => simp [intOf]
      · go_wp2_with fail
        refine (l01Hex_all (c k) (x k) wr (Hx.out k hlt) (Hl.out k hlt)).mono ?_
        rintro e w1 ⟨rfl, hb1⟩
        have hhs := hexT_size (x k)
        have h32 : (⟨#[32]⟩ : ByteArray).size = 1 := rfl
        go_wp2
        go_roundw
        case rel => exact ⟨k + 1, _, by omega, by go_num, rfl, by rw [Ht.out, rowT_succ x k hz], bCall hb hb1 hb.size⟩
        case measure => simp [intOf]; omega
    · obtain rfl : k = 16 := by omega
      go_wp2
      go_ret
      exact ⟨congrArg (fun x => Ending.returned (Value.string x)) Ht.out, hb⟩
theorem l01CurveText_all (c x : Nat → Nat) (w : World) (hx : ∀ i, i < 16 → bitsOf (canon .f32 (c i)) = x i) (hl : ∀ i, i < 16 → x i < 4294967296) : Calls Tryd.prog 30 #[.agg (fA 16 c)] w fun e w' => e = .returned (.string (rowT x 16)) ∧ Below w.heap.size w w' := by
  go_enter Tryd.func30, Tryd.ntmps30
  go_wp2_with fail
  refine (l01Row_all w.heap.size 27 c x _ (Blk.new _ _ _) hx hl).mono ?_
  rintro e w1 ⟨rfl, hb1⟩
  have hb := bCall ((Below.refl w.heap.size w).alloc (Nat.le_refl _) (.cells (fA 16 c) 27)) hb1 (by simp)
  go_wp2
  go_ret
  exact ⟨rfl, hb⟩
theorem sCurveText_all (c x : Nat → Nat) (w : World) (hx : ∀ i, i < 16 → bitsOf (canon .f32 (c i)) = x i) (hl : ∀ i, i < 16 → x i < 4294967296) : Calls Tryd.prog 11 #[.agg (fA 16 c)] w fun e w' => e = .returned (.string (rowT x 16)) ∧ Below w.heap.size w w' := by
  go_enter Tryd.func11, Tryd.ntmps11
  have hZ : Blk (w.alloc (.cells (fA 16 c) 27)) w.heap.size 27 (fA 16 c) := Blk.new _ _ _
  go_wp2_with (refine wpList_load_row rfl 27 _ rfl _ rfl _ _ (0, 0) _ hZ Tryd.underlying27 rfl (by kernel_rfl) ?_)
  refine (l01CurveText_all c x _ hx hl).mono ?_
  rintro e w1 ⟨rfl, hb1⟩
  have hb := bCall ((Below.refl w.heap.size w).alloc (Nat.le_refl _) (.cells (fA 16 c) 27)) hb1 (by simp)
  go_wp2
  go_ret
  exact ⟨rfl, hb⟩
end Go.Proofs.YtbdbeaebeedakaaDoor
