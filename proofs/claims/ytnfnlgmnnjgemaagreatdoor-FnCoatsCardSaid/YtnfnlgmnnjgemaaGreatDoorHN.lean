/- The reading of a curve: the reference's and the program's. -/
import Derived.Test.YtnfnlgmnnjgemaaGreatDoorHM
import Derived.Test.YtnfnlgmnnjgemaaGreatDoorCR
namespace Go.Proofs.YtnfnlgmnnjgemaaGreatDoor
open Go.RowKit
set_option maxRecDepth 100000

/-- What reading a curve gives. -/
def ReadC (t : ByteArray) (e : Ending) : Prop :=
  (∃ x, Good t x ∧ e = .returned (.tuple #[.agg (fA 16 x), .int .i64 0])) ∨ ((∀ x, ¬ Good t x) ∧ e = .returned (.tuple #[.agg (fA 16 fun _ => 0), .int .i64 5]))
theorem ReadC.form {t : ByteArray} {e : Ending} (h : ReadC t e) : ∃ (x : Nat → Nat) (k : Int), e = .returned (.tuple #[.agg (fA 16 x), .int .i64 k]) := by
  rcases h with ⟨x, _, h⟩ | ⟨_, h⟩
  · exact ⟨x, 0, h⟩
  · exact ⟨_, 5, h⟩
theorem ReadC.same {t : ByteArray} {x : Nat → Nat} {k : Int} {e2 : Ending} (h1 : ReadC t (.returned (.tuple #[.agg (fA 16 x), .int .i64 k]))) (h2 : ReadC t e2) : ∃ y, e2 = .returned (.tuple #[.agg (fA 16 y), .int .i64 k]) ∧ ∀ i, i < 16 → y i = x i := by
  have hfa : ∀ {a b : Nat → Nat}, fA 16 a = fA 16 b → ∀ i, i < 16 → a i = b i := fun {a b} h i hi => by
    have h1 := get_fA_lt a hi
    rw [h, get_fA_lt b hi] at h1
    injection h1 with h1
    injection h1 with _ h1
    exact h1.symm
  rcases h1 with ⟨x', hx, h⟩ | ⟨hx, h⟩ <;> injection h with h <;> injection h with h <;>
    simp only [Array.mk.injEq, List.cons.injEq, Value.agg.injEq, Value.int.injEq, true_and, and_true] at h <;> obtain ⟨ha, rfl⟩ := h
  · rcases h2 with ⟨y, hy, rfl⟩ | ⟨hy, rfl⟩
    · exact ⟨y, rfl, fun i hi => (hy.uniq hx i hi).trans (hfa ha i hi).symm⟩
    · exact absurd hx (hy x')
  · rcases h2 with ⟨y, hy, rfl⟩ | ⟨hy, rfl⟩
    · exact absurd hy (hx y)
    · exact ⟨_, rfl, fun i hi => (hfa ha i hi).symm⟩
/-- The library's bound of a search lies in its variable. -/
def MaxL (w : World) : Prop := ∃ m, w.cell? ⟨1, 0, none⟩ = some (.int .i64 m)
theorem MaxL.below {B : Nat} {w w' : World} (h : MaxL w) (hb : Below B w w') (hB : 8 < B) : MaxL w' := by
  obtain ⟨m, h⟩ := h
  exact ⟨m, by rw [hb.cell (p := ⟨1, 0, none⟩) (show 1 < B by omega)]; exact h⟩
theorem split_any (t : ByteArray) (c : UInt8) (hmax : t.size ≤ 1048576) (w : World) (hm : MaxL w) : Calls Tryz.prog 33 #[.string t, .string ⟨#[c]⟩] w fun e w' =>
    e = .returned (.slice (some ⟨w.heap.size, 0, none⟩) (cuts c t).length (cuts c t).length) ∧ w' = w.alloc (.cells ((cuts c t).map Value.string).toArray 9) := by
  obtain ⟨m, hm⟩ := hm
  have h := Any.strings_Split Tryz.lays146 (by kernel_rfl) t ⟨#[c]⟩ m w (by omega) hm (Nat.le_refl 1)
  have hl : (cuts c t).length = Lib.countB t ⟨#[c]⟩ + 1 := Lib.splitB_all ⟨#[c]⟩ (Nat.le_refl 1) 0 _ t rfl
  rw [hl]
  exact h
theorem cuts_size (c : UInt8) (t : ByteArray) : ∀ y ∈ cuts c t, y.size ≤ t.size := by
  have key : ∀ (k : Nat) (s : ByteArray), ∀ y ∈ Lib.splitB ⟨#[c]⟩ 0 k s, y.size ≤ s.size := by
    intro k
    induction k with
    | zero => intro s y hy; rw [Lib.splitB_zero] at hy; simp only [List.mem_singleton] at hy; rw [hy]; exact Nat.le_refl _
    | succ k ih =>
      intro s y hy
      unfold Lib.splitB at hy
      split at hy
      · simp only [List.mem_singleton] at hy; rw [hy]; exact Nat.le_refl _
      · rcases List.mem_cons.1 hy with h | h
        · rw [h, ByteArray.size_extract]; omega
        · have := ih _ y h
          rw [ByteArray.size_extract] at this
          omega
  exact key _ t
theorem iReadCurve_any (t : ByteArray) (hmax : t.size ≤ 1048576) (w : World) (ht : Tab w) (he : Errs w) (hm : MaxL w) : Calls Tryz.prog 34 #[.string t] w fun e w' => ReadC t e ∧ Below w.heap.size w w' := by
  have hlt0 := ht.lt
  have hR0 : Blk (w.alloc (.cells (fA 16 fun _ => 0) 26)) w.heap.size 26 (fA 16 fun _ => 0) := Blk.new _ _ _
  have hb0 : Below w.heap.size w (w.alloc (.cells (fA 16 fun _ => 0) 26)) := (Below.refl w.heap.size w).alloc (Nat.le_refl _) _
  go_enter Tryz.func34, Tryz.ntmps34
  go_wp2_with fail
  refine (split_any t 32 hmax _ (hm.below hb0 hlt0)).mono ?_
  rintro e w1 ⟨rfl, hw1⟩
  have hsz1 : (w.alloc (.cells (fA 16 fun _ => 0) 26)).heap.size = w.heap.size + 1 := by simp
  have hcell : ∀ (j : Nat) y, (cuts 32 t)[j]? = some y → w1.cell? ⟨w.heap.size + 1, j, none⟩ = some (.string y) := fun j y hj => by
    rw [hw1, ← hsz1]
    rw [(Blk.new (w.alloc (.cells (fA 16 fun _ => 0) 26)) 9 ((cuts 32 t).map Value.string).toArray).cell j]
    simp [hj]
  have hb1 : Below w.heap.size w w1 := hw1 ▸ hb0.alloc hb0.size _
  have hR1 : Blk w1 w.heap.size 26 (fA 16 fun _ => 0) := hw1 ▸ hR0.alloc _
  have hs1 : w1.heap.size = w.heap.size + 2 := by rw [hw1]; simp
  rw [show (w.alloc (.cells (fA 16 fun _ => 0) 26)).heap.size = w.heap.size + 1 by simp]
  clear hw1 hR0 hb0
  have hcl := cuts_len 32 t
  have hyz : ∀ y ∈ cuts 32 t, y.size ≤ 1048576 := fun y hy => Nat.le_trans (cuts_size 32 t y hy) hmax
  generalize hL : cuts 32 t = L at *
  have HL := Lib.hid hL
  clear hL
  have hZ : Blk (w1.alloc (.cells (fA 16 fun _ => 0) 26)) w1.heap.size 26 (fA 16 fun _ => 0) := Blk.new _ _ _
  have hR := hR1.alloc (.cells (fA 16 fun _ => 0) 26)
  have hb := hb1.alloc hb1.size (.cells (fA 16 fun _ => 0) 26)
  have hgw : w.heap.size + 1 < w1.heap.size := by omega
  clear hs1
  have Hcell : Hid (∀ (j : Nat) y, L[j]? = some y → (w1.alloc (.cells (fA 16 fun _ => 0) 26)).cell? ⟨w.heap.size + 1, j, none⟩ = some (.string y)) := Lib.hid fun j y hj => by
    rw [((Below.refl w1.heap.size w1).alloc (Nat.le_refl _) (.cells (fA 16 fun _ => 0) 26)).cell (p := ⟨w.heap.size + 1, j, none⟩) hgw]
    exact hcell j y hj
  clear hcell hR1 hb1
  have Ht := Lib.hid ht
  have He := Lib.hid he
  clear ht he hm
  by_cases h16 : L.length = 16
  · rw [h16]
    go_wp2_with (first | (refine wpList_build_as rfl 26 _ rfl (fA 16 fun _ => 0) (by kernel_rfl) ?_) | (refine wpList_store_new rfl 26 _ _ rfl _ rfl rfl (by kernel_rfl) rfl (all_fA _ _) ?_))
    go_loopw [19] (fun i wr => ∃ (k : Nat) (cur : Nat → Nat), k ≤ 16 ∧ i = .int .i64 k ∧ Below w.heap.size w wr ∧ Blk wr w.heap.size 26 (fA 16 fun _ => 0) ∧ Blk wr w1.heap.size 26 (fA 16 cur) ∧ (∀ (j : Nat) y, L[j]? = some y → wr.cell? ⟨w.heap.size + 1, j, none⟩ = some (.string y)) ∧ ∀ (j : Nat) y, j < k → L[j]? = some y → Num8 y (cur j)) (fun i _ => 16 - (intOf i).toNat)
    case atStart => exact ⟨0, _, by omega, rfl, hb, hR, hZ, Hcell.out, fun j y h => absurd h (by omega)⟩
    case round =>
      clear hb hR hZ Hcell
      obtain ⟨k, cur, hk, rfl, hb, hR, hZ, hf, hc⟩ := hrel
      have Hf2 := Lib.hid hf
      have Hc := Lib.hid hc
      clear hf hc
      have hsize := hb.size
      by_cases hlt : k < 16
      · obtain ⟨y, hy⟩ : ∃ y, L[k]? = some y := ⟨L[k]'(by omega), List.getElem?_eq_getElem _⟩
        have c1 := Hf2.out k y hy
        have hzr := hZ.lt
        have Hy := Lib.hid hy
        clear hy
        go_wp2_with fail
        refine (iReadNumber_any y (hyz y (List.mem_of_getElem? Hy.out)) wr (Ht.out.below hb hlt0) (He.out.below hb hlt0)).mono ?_
        rintro e w2 ⟨h, hb1⟩
        have hR := hR.below hb1 hR.lt
        have hZ := hZ.below hb1 hZ.lt
        have hzl := hZ.lt
        have Hf3 : Hid (∀ (j : Nat) y, L[j]? = some y → w2.cell? ⟨w.heap.size + 1, j, none⟩ = some (.string y)) := Lib.hid fun j y hj => by
          rw [hb1.cell (p := ⟨w.heap.size + 1, j, none⟩) (show w.heap.size + 1 < wr.heap.size from Nat.lt_trans hgw hzr)]
          exact Hf2.out j y hj
        have hb := bCall hb hb1 hsize
        clear hb1 Hf2
        rcases h with ⟨x, hx, htx, hbx, rfl⟩ | ⟨hno, rfl⟩
        · have HX : Hid (Num8 y x) := Lib.hid ⟨hx, htx, hbx⟩
          clear hx htx hbx
          have c2 := (hZ.cell k).trans (get_fA_lt cur hlt)
          have f1 := hZ.frozen k
          go_wp2
          go_roundw
          case rel => exact ⟨k + 1, upd cur k x, by omega, by go_num, hb.setCell (p := ⟨w1.heap.size, k, none⟩) (by dsimp only; omega) _, hR.far (by dsimp only; omega) _, hZ.setF k _, fun j y hj => by
            have := Below.heap_setCell w2 ⟨w1.heap.size, k, none⟩ (.float .f32 x) (w.heap.size + 1) (by dsimp only; omega)
            rw [cell_same this]
            exact Hf3.out j y hj, fun j z hj hz => by
            by_cases e : j = k
            · subst e
              rw [Hy.out] at hz
              injection hz with hz
              subst hz
              rw [upd_same]
              exact HX.out
            · rw [upd_other _ _ e]
              exact Hc.out j z (by omega) hz⟩
          case measure => simp [intOf]; omega
        · have E : Hid (∀ x, ¬ Good t x) := Lib.hid fun x h => by
            have h1 := h.2 k y (by rw [HL.out]; exact Hy.out)
            exact hno _ h1.1 h1.2.2 h1.2.1
          clear hno
          go_wp2_with (first | (refine wpList_build_as rfl 26 _ rfl (fA 16 fun _ => 0) (by kernel_rfl) ?_) | (refine wpList_store_row rfl 26 _ _ rfl _ _ rfl rfl _ _ hR (by kernel_rfl) (by simp only [size_fA]) (all_fA _ _) ?_))
          exact bodyPost_ret (results_cell_row2 rfl _ _ w.heap.size _ _ _ _ rfl hR.setRow Tryz.underlying26 rfl (by kernel_rfl)) rfl ⟨.inr ⟨E.out, rfl⟩, bRow hb (Nat.le_refl _) _⟩
      · obtain rfl : k = 16 := by omega
        have HG : Hid (Good t cur) := Lib.hid ⟨by rw [HL.out]; exact h16, by
          rw [HL.out]
          intro i y hy
          exact Hc.out i y (by
            rcases Nat.lt_or_ge i L.length with h | h
            · omega
            · rw [List.getElem?_eq_none h] at hy; cases hy) hy⟩
        go_wp2_with (first | (refine wpList_load_row rfl 26 _ rfl _ rfl _ _ (0, 0) _ hZ Tryz.underlying26 rfl (by kernel_rfl) ?_) | (refine wpList_store_row rfl 26 _ _ rfl _ _ rfl rfl _ _ hR (by kernel_rfl) (by simp only [size_fA]) (all_fA _ _) ?_))
        exact bodyPost_ret (results_cell_row2 rfl _ _ w.heap.size _ _ _ _ rfl hR.setRow Tryz.underlying26 rfl (by kernel_rfl)) rfl ⟨.inl ⟨cur, HG.out, rfl⟩, bRow hb (Nat.le_refl _) _⟩
  · have h16i : ((L.length : Int) == 16) = false := by
      rw [beq_eq_false_iff_ne]
      omega
    have E : Hid (∀ x, ¬ Good t x) := Lib.hid fun x h => h16 (by rw [← HL.out]; exact h.1)
    go_wp2_with (first | (refine wpList_build_as rfl 26 _ rfl (fA 16 fun _ => 0) (by kernel_rfl) ?_) | (refine wpList_store_new rfl 26 _ _ rfl _ rfl rfl (by kernel_rfl) rfl (all_fA _ _) ?_) | (refine wpList_store_row rfl 26 _ _ rfl _ _ rfl rfl _ _ hR (by kernel_rfl) (by simp only [size_fA]) (all_fA _ _) ?_))
    exact bodyPost_ret (results_cell_row2 rfl _ _ w.heap.size _ _ _ _ rfl hR.setRow Tryz.underlying26 rfl (by kernel_rfl)) rfl ⟨.inr ⟨E.out, rfl⟩, bRow hb (Nat.le_refl _) _⟩
end Go.Proofs.YtnfnlgmnnjgemaaGreatDoor
