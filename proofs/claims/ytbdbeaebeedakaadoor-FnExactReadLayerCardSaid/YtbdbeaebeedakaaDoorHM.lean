/- The reading of a curve, as the reference does it: the curve. -/
import Derived.Test.YtbdbeaebeedakaaDoorHL
import Derived.Test.YtbdbeaebeedakaaDoorSub
namespace Go.Proofs.YtbdbeaebeedakaaDoor
open Go.RowKit
set_option maxRecDepth 100000

/-- Sixteen words that are numbers' texts. -/
def Good (t : ByteArray) (x : Nat → Nat) : Prop := (cuts 32 t).length = 16 ∧ ∀ i y, (cuts 32 t)[i]? = some y → Num8 y (x i)
theorem cuts_len (c : UInt8) (t : ByteArray) : 1 ≤ (cuts c t).length ∧ (cuts c t).length ≤ t.size + 1 := by
  have h1 := Lib.splitB_all ⟨#[c]⟩ (Nat.le_refl 1) 0 _ t rfl
  have h2 := Lib.countB_le ⟨#[c]⟩ (Nat.le_refl 1) t.size t (Nat.le_refl _)
  unfold cuts
  omega
theorem owns_some {w : World} {base : Nat} {e : TypeId} {v : Value} {n : Nat} {xs : List Value} (h : w.ownsRow base e 1 v n xs) (hn : 0 < n) :
    ∃ g cap, v = .slice (some ⟨g, 0, none⟩) n cap ∧ base ≤ g ∧ g < w.heap.size ∧ n ≤ cap ∧ cap ≤ maxLen ∧ ∀ (j : Nat) y, j < n → xs[j]? = some y → w.cell? ⟨g, j, none⟩ = some y := by
  rcases h.2 with ⟨_, h0⟩ | ⟨g, cap, cur, hv, hg, hblk, hcap, hm, hsz, htk⟩
  · omega
  · refine ⟨g, cap, hv, hg, ?_, hcap, hm, fun j y hj hy => ?_⟩
    · rcases Nat.lt_or_ge g w.heap.size with h | h
      · exact h
      · rw [Array.getElem?_eq_none h] at hblk; cases hblk
    · rw [cell_of_row w g j cur e (0, 0) hblk]
      rw [← htk, List.getElem?_take_of_lt (by omega)] at hy
      simpa using hy
theorem Good.uniq {t : ByteArray} {x y : Nat → Nat} (hx : Good t x) (hy : Good t y) : ∀ i, i < 16 → x i = y i := by
  intro i hi
  obtain ⟨u, hu⟩ : ∃ u, (cuts 32 t)[i]? = some u := ⟨_, List.getElem?_eq_getElem (by rw [hx.1]; exact hi)⟩
  have h1 := hx.2 i u hu
  have h2 := hy.2 i u hu
  exact hexT_inj h1.1 h2.1 (h1.2.1.symm.trans h2.2.1)
theorem cell_same {w w' : World} {g : Nat} (h : w'.heap[g]? = w.heap[g]?) {j : Nat} : w'.cell? ⟨g, j, none⟩ = w.cell? ⟨g, j, none⟩ := by
  simp only [World.cell?, h]
theorem l01ReadCurve_any (t : ByteArray) (hmax : t.size ≤ 1048576) (w : World) : Calls Tryd.prog 38 #[.string t] w fun e w' =>
    ((∃ x, Good t x ∧ e = .returned (.tuple #[.agg (fA 16 x), .bool true])) ∨ ((∀ x, ¬ Good t x) ∧ ∃ z, e = .returned (.tuple #[.agg (fA 16 z), .bool false]))) ∧ Below w.heap.size w w' := by
  have hR0 : Blk (w.alloc (.cells (fA 16 fun _ => 0) 27)) w.heap.size 27 (fA 16 fun _ => 0) := Blk.new _ _ _
  have hb0 : Below w.heap.size w (w.alloc (.cells (fA 16 fun _ => 0) 27)) := (Below.refl w.heap.size w).alloc (Nat.le_refl _) _
  go_enter Tryd.func38, Tryd.ntmps38
  go_wp2_with fail
  refine (l01Split_any t 32 hmax _).mono ?_
  rintro e w1 ⟨⟨v, rfl, hown⟩, hb1⟩
  have hR := hR0.below hb1 hR0.lt
  have hb := bCall hb0 hb1 hb0.size
  clear hR0 hb0 hb1
  have hcl := cuts_len 32 t
  obtain ⟨g, cap, rfl, hg, hgl, hcap, _, hcell⟩ := owns_some hown (by omega)
  have hnum := l01Numbers_any (cuts 32 t) g cap w1 (by omega) hgl (fun j y hj => hcell j (.string y) (by
    rcases Nat.lt_or_ge j (cuts 32 t).length with h | h
    · exact h
    · rw [List.getElem?_eq_none h] at hj; cases hj) (by rw [List.getElem?_map, hj]; rfl))
  clear hown hcell
  generalize hL : cuts 32 t = L at *
  have HL := Lib.hid hL
  clear hL
  go_wp2_with fail
  refine hnum.mono ?_
  rintro e w2 ⟨h, hb1⟩
  have hR := hR.below hb1 hR.lt
  have hb := bCall hb hb1 hb.size
  clear hnum hb1
  have hZ : Blk (w2.alloc (.cells (fA 16 fun _ => 0) 27)) w2.heap.size 27 (fA 16 fun _ => 0) := Blk.new _ _ _
  have hR2 := hR.alloc (.cells (fA 16 fun _ => 0) 27)
  have hrl := hR.lt
  have hb2 : Below w.heap.size w (w2.alloc (.cells (fA 16 fun _ => 0) 27)) := hb.alloc hb.size _
  rcases h with ⟨x, v, rfl, hown, hx⟩ | ⟨v, rfl, y, hy, hno⟩
  · by_cases h16 : L.length = 16
    · obtain ⟨g2, cap2, rfl, hg2, hgl2, hcap2, _, hcell2⟩ := owns_some hown (by omega)
      have HG : Hid (Good t x) := Lib.hid ⟨by rw [HL.out]; exact h16, by rw [HL.out]; exact hx⟩
      rw [h16] at hcell2 hcap2 ⊢
      have Hf := Lib.hid (fun (j : Nat) (hj : j < 16) => hcell2 j (.float .f32 (x j)) hj (by simp [floats, hj]))
      clear hx hown hcell2 hR
      go_wp2_with (first | (refine wpList_build_as rfl 27 _ rfl (fA 16 fun _ => 0) (by kernel_rfl) ?_) | (refine wpList_store_row rfl 27 _ _ rfl _ _ rfl rfl _ _ hZ (by kernel_rfl) (by simp only [size_fA]) (all_fA _ _) ?_) | (refine wpList_store_new rfl 27 _ _ rfl _ rfl rfl (by kernel_rfl) rfl (all_fA _ _) ?_))
      go_loopw [7] (fun i wr => ∃ (k : Nat) (cur : Nat → Nat), k ≤ 16 ∧ i = .int .i64 k ∧ Below w.heap.size w wr ∧ Blk wr w.heap.size 27 (fA 16 fun _ => 0) ∧ Blk wr w2.heap.size 27 (fA 16 cur) ∧ (∀ j, j < 16 → wr.cell? ⟨g2, j, none⟩ = some (.float .f32 (x j))) ∧ ∀ j, j < k → cur j = x j) (fun i _ => 16 - (intOf i).toNat)
      case atStart => exact ⟨0, _, by omega, rfl, hb2, hR2, hZ, fun j hj => ((Below.refl w2.heap.size w2).alloc (Nat.le_refl _) (.cells (fA 16 fun _ => 0) 27)).cell (p := ⟨g2, j, none⟩) hgl2 ▸ Hf.out j hj, fun j h => absurd h (by omega)⟩
      case round =>
        clear hb2 hR2 hZ
        obtain ⟨k, cur, hk, rfl, hb, hR, hZ, hf, hc⟩ := hrel
        have Hf2 := Lib.hid hf
        have Hc := Lib.hid hc
        clear hf hc
        by_cases hlt : k < 16
        · have c1 := Hf2.out k hlt
          have c2 := (hZ.cell k).trans (get_fA_lt cur hlt)
          have f1 := hZ.frozen k
          have hne : g2 ≠ w2.heap.size := by omega
          go_wp2
          go_roundw
          case rel => exact ⟨k + 1, upd cur k (x k), by omega, by go_num, hb.setCell (p := ⟨w2.heap.size, k, none⟩) (Nat.le_of_lt hrl) _, hR.far (by dsimp only; omega) _, hZ.setF k _, fun j hj => by
            have := Below.heap_setCell wr ⟨w2.heap.size, k, none⟩ (.float .f32 (x k)) g2 hne
            show World.cell? _ _ = _
            rw [cell_same this]
            exact Hf2.out j hj, fun j hj => by
            by_cases e : j = k
            · subst e; rw [upd_same]
            · rw [upd_other _ _ e]; exact Hc.out j (by omega)⟩
          case measure => simp [intOf]; omega
        · obtain rfl : k = 16 := by omega
          have hcx : fA 16 cur = fA 16 x := fA_congr Hc.out
          rw [hcx] at hZ
          go_wp2_with (first | (refine wpList_load_row rfl 27 _ rfl _ rfl _ _ (0, 0) _ hZ Tryd.underlying27 rfl (by kernel_rfl) ?_) | (refine wpList_store_row rfl 27 _ _ rfl _ _ rfl rfl _ _ hR (by kernel_rfl) (by simp only [size_fA]) (all_fA _ _) ?_))
          exact bodyPost_ret (results_cell_row2 rfl _ _ w.heap.size _ _ _ _ rfl hR.setRow Tryd.underlying27 rfl (by kernel_rfl)) rfl ⟨.inl ⟨x, HG.out, rfl⟩, bRow hb (Nat.le_refl _) _⟩
    · have E : Hid (∀ x, ¬ Good t x) := Lib.hid fun x h => h16 (by rw [← HL.out]; exact h.1)
      obtain ⟨g2, cap2, rfl, _, _, _, _, _⟩ := owns_some hown (by omega)
      clear hown hx hR
      have h16i : ((L.length : Int) == 16) = false := by
        rw [beq_eq_false_iff_ne]
        omega
      go_wp2_with (first | (refine wpList_build_as rfl 27 _ rfl (fA 16 fun _ => 0) (by kernel_rfl) ?_) | (refine wpList_store_new rfl 27 _ _ rfl _ rfl rfl (by kernel_rfl) rfl (all_fA _ _) ?_) | (refine wpList_load_row rfl 27 _ rfl _ rfl _ _ (0, 0) _ hZ Tryd.underlying27 rfl (by kernel_rfl) ?_) | (refine wpList_store_row rfl 27 _ _ rfl _ _ rfl rfl _ _ hR2 (by kernel_rfl) (by simp only [size_fA]) (all_fA _ _) ?_))
      exact bodyPost_ret (results_cell_row2 rfl _ _ w.heap.size _ _ _ _ rfl hR2.setRow Tryd.underlying27 rfl (by kernel_rfl)) rfl ⟨.inr ⟨E.out, _, rfl⟩, bRow hb2 (Nat.le_refl _) _⟩
  · have E : Hid (∀ x, ¬ Good t x) := Lib.hid fun x h => by
      obtain ⟨i, hi⟩ := List.mem_iff_getElem?.1 hy
      exact hno _ (h.2 i y (by rw [HL.out]; exact hi))
    clear hno hy hR
    go_wp2_with (first | (refine wpList_build_as rfl 27 _ rfl (fA 16 fun _ => 0) (by kernel_rfl) ?_) | (refine wpList_store_new rfl 27 _ _ rfl _ rfl rfl (by kernel_rfl) rfl (all_fA _ _) ?_) | (refine wpList_load_row rfl 27 _ rfl _ rfl _ _ (0, 0) _ hZ Tryd.underlying27 rfl (by kernel_rfl) ?_) | (refine wpList_store_row rfl 27 _ _ rfl _ _ rfl rfl _ _ hR2 (by kernel_rfl) (by simp only [size_fA]) (all_fA _ _) ?_))
    exact bodyPost_ret (results_cell_row2 rfl _ _ w.heap.size _ _ _ _ rfl hR2.setRow Tryd.underlying27 rfl (by kernel_rfl)) rfl ⟨.inr ⟨E.out, _, rfl⟩, bRow hb2 (Nat.le_refl _) _⟩
end Go.Proofs.YtbdbeaebeedakaaDoor
