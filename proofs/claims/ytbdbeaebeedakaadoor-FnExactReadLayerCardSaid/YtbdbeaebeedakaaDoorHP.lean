/- The reading of a layer: the reference's and the program's. -/
import Derived.Test.YtbdbeaebeedakaaDoorHN
import Derived.Test.YtbdbeaebeedakaaDoorHG
import Derived.Test.YtbdbeaebeedakaaDoorCR
namespace Go.Proofs.YtbdbeaebeedakaaDoor
open Go.RowKit
set_option maxRecDepth 100000

/-- Four lines: two curves, a number, nothing. -/
def GoodL (t : ByteArray) (x y : Nat → Nat) (z : Nat) : Prop := ∃ p0 p1 p2, cuts 10 t = [p0, p1, p2, ⟨#[]⟩] ∧ Good p0 x ∧ Good p1 y ∧ Num8 p2 z ∧ layerOk (layer3 x y z) = true
def ReadY (t : ByteArray) (e : Ending) : Prop :=
  (∃ x y z, GoodL t x y z ∧ e = .returned (.tuple #[.agg (fA 33 (layer3 x y z)), .int .i64 0])) ∨ ((∀ x y z, ¬ GoodL t x y z) ∧ e = .returned (.tuple #[.agg (fA 33 fun _ => 0), .int .i64 5]))
theorem four {L : List ByteArray} (h : L.length = 4) : ∃ p0 p1 p2 p3, L = [p0, p1, p2, p3] := by
  match L, h with
  | [a, b, c, d], _ => exact ⟨a, b, c, d, rfl⟩
theorem nonempty_text {p : ByteArray} (h : p ≠ ⟨#[]⟩) : p.toList.isEmpty = false := by
  rw [← decide_eq_emptyBytes]
  exact decide_eq_false h
theorem read_bool {t : ByteArray} {e : Ending} (h : (∃ x, Good t x ∧ e = .returned (.tuple #[.agg (fA 16 x), .bool true])) ∨ ((∀ x, ¬ Good t x) ∧ ∃ z, e = .returned (.tuple #[.agg (fA 16 z), .bool false]))) :
    ∃ x b, e = .returned (.tuple #[.agg (fA 16 x), .bool b]) ∧ Hid ((b = true → Good t x) ∧ (b = false → ∀ x, ¬ Good t x)) := by
  rcases h with ⟨x, hx, rfl⟩ | ⟨hno, z, rfl⟩
  · exact ⟨x, true, rfl, Lib.hid ⟨fun _ => hx, fun h => Bool.noConfusion h⟩⟩
  · exact ⟨z, false, rfl, Lib.hid ⟨fun h => Bool.noConfusion h, fun _ => hno⟩⟩
theorem read_code {t : ByteArray} {e : Ending} (h : ReadC t e) : ∃ x k, e = .returned (.tuple #[.agg (fA 16 x), .int .i64 k]) ∧ Hid ((k = 0 ∧ Good t x) ∨ (k = 5 ∧ ∀ x, ¬ Good t x)) := by
  rcases h with ⟨x, hx, rfl⟩ | ⟨hno, rfl⟩
  · exact ⟨x, 0, rfl, .inl ⟨rfl, hx⟩⟩
  · exact ⟨_, 5, rfl, .inr ⟨rfl, hno⟩⟩
theorem num_bool {t : ByteArray} {e : Ending} (h : ReadL t e) : ∃ x b, e = .returned (.tuple #[.float .f32 x, .bool b]) ∧ Hid ((b = true → Num8 t x) ∧ (b = false → ∀ x, ¬ Num8 t x)) := by
  rcases h with ⟨x, h1, h2, h3, rfl⟩ | ⟨hno, z, rfl⟩
  · exact ⟨x, true, rfl, Lib.hid ⟨fun _ => ⟨h1, h2, h3⟩, fun h => Bool.noConfusion h⟩⟩
  · exact ⟨z, false, rfl, Lib.hid ⟨fun h => Bool.noConfusion h, fun _ x h => hno x h.1 h.2.2 h.2.1⟩⟩
theorem num_code {t : ByteArray} {e : Ending} (h : ReadN t e) : ∃ x k, e = .returned (.tuple #[.float .f32 x, .int .i64 k]) ∧ Hid ((k = 0 ∧ Num8 t x) ∨ (k = 5 ∧ ∀ x, ¬ Num8 t x)) := by
  rcases h with ⟨x, h1, h2, h3, rfl⟩ | ⟨hno, rfl⟩
  · exact ⟨x, 0, rfl, .inl ⟨rfl, h1, h2, h3⟩⟩
  · exact ⟨_, 5, rfl, .inr ⟨rfl, fun x h => hno x h.1 h.2.2 h.2.1⟩⟩
theorem layer3_uniq {p0 p1 p2 : ByteArray} {x y x' y' : Nat → Nat} {z z' : Nat} (g0 : Good p0 x) (g1 : Good p1 y) (g2 : Num8 p2 z) (k0 : Good p0 x') (k1 : Good p1 y') (k2 : Num8 p2 z') : ∀ i, i < 33 → layer3 x y z i = layer3 x' y' z' i := by
  intro i hi
  unfold layer3
  split
  · exact g0.uniq k0 i (by omega)
  · split
    · exact g1.uniq k1 _ (by omega)
    · exact hexT_inj g2.1 k2.1 (g2.2.1.symm.trans k2.2.1)
theorem GoodL.uniq {t : ByteArray} {x y x' y' : Nat → Nat} {z z' : Nat} (h : GoodL t x y z) (h' : GoodL t x' y' z') : ∀ i, i < 33 → layer3 x y z i = layer3 x' y' z' i := by
  obtain ⟨p0, p1, p2, e, g0, g1, g2, _⟩ := h
  obtain ⟨q0, q1, q2, e', k0, k1, k2, _⟩ := h'
  rw [e] at e'
  simp only [List.cons.injEq, and_true] at e'
  obtain ⟨rfl, rfl, rfl⟩ := e'
  exact layer3_uniq g0 g1 g2 k0 k1 k2
theorem layerOk_congr {a b : Nat → Nat} (h : ∀ i, i < 33 → a i = b i) : layerOk a = layerOk b := by
  have e1 : (allTo 16 fun i => amount (canon .f32 (rowAt a 0 i))) = allTo 16 fun i => amount (canon .f32 (rowAt b 0 i)) := allTo_congr fun i hi => by unfold rowAt; rw [h _ (by omega)]
  have e2 : (allTo 16 fun i => amount (canon .f32 (rowAt a 16 i))) = allTo 16 fun i => amount (canon .f32 (rowAt b 16 i)) := allTo_congr fun i hi => by unfold rowAt; rw [h _ (by omega)]
  unfold layerOk
  rw [e1, e2, h 32 (by omega)]
set_option maxHeartbeats 4000000 in
theorem sReadLayer_any (t : ByteArray) (hmax : t.size ≤ 1048576) (w : World) : Calls Tryd.prog 23 #[.string t] w fun e w' => ReadY t e ∧ Below w.heap.size w w' := by
  have hR0 : Blk (w.alloc (.cells (fA 33 fun _ => 0) 34)) w.heap.size 34 (fA 33 fun _ => 0) := Blk.new _ _ _
  have hb0 : Below w.heap.size w (w.alloc (.cells (fA 33 fun _ => 0) 34)) := (Below.refl w.heap.size w).alloc (Nat.le_refl _) _
  have hcl := cuts_len 10 t
  have hyz : ∀ y ∈ cuts 10 t, y.size ≤ 1048576 := fun y hy => Nat.le_trans (cuts_size 10 t y hy) hmax
  go_enter Tryd.func23, Tryd.ntmps23
  go_wp2_with fail
  refine (l01Split_any t 10 hmax _).mono ?_
  rintro e w1 ⟨⟨v, rfl, hown⟩, hb1⟩
  have hR := hR0.below hb1 hR0.lt
  have hb := bCall hb0 hb1 hb0.size
  clear hR0 hb0 hb1
  obtain ⟨g, cap, rfl, hgw, hgl, hcap, _, hcell0⟩ := owns_some hown (by omega)
  have hcell : ∀ (j : Nat) y, (cuts 10 t)[j]? = some y → w1.cell? ⟨g, j, none⟩ = some (.string y) := fun j y hj => hcell0 j (.string y) (by
    rcases Nat.lt_or_ge j (cuts 10 t).length with h | h
    · exact h
    · rw [List.getElem?_eq_none h] at hj; cases hj) (by rw [List.getElem?_map, hj]; rfl)
  clear hown hcell0 hgw
  generalize hL : cuts 10 t = L at *
  have HL := Lib.hid hL
  clear hL
  by_cases h4 : L.length = 4
  · obtain ⟨p0, p1, p2, p3, rfl⟩ := four h4
    have c0 := hcell 0 p0 rfl
    have c1 := hcell 1 p1 rfl
    have c2 := hcell 2 p2 rfl
    have c3 := hcell 3 p3 rfl
    have z0 := hyz p0 (by simp)
    have z1 := hyz p1 (by simp)
    have z2 := hyz p2 (by simp)
    clear hcell hyz hcl h4
    by_cases h3 : p3 = ⟨#[]⟩
    · subst h3
      have C1 := Lib.hid c1
      have C2 := Lib.hid c2
      clear c1 c2
      go_wp2_with fail
      refine (l01ReadCurve_any p0 z0 _).mono ?_
      rintro e w2 ⟨h, hb1⟩
      obtain ⟨x, b0, rfl, h0⟩ := read_bool h
      clear h
      have hR := (hR.below hb1 hR.lt).alloc (.cells (fA 16 x) 27)
      have c1 : (w2.alloc (.cells (fA 16 x) 27)).cell? ⟨g, 1, none⟩ = some (.string p1) := by
        rw [((Below.refl w2.heap.size w2).alloc (Nat.le_refl _) (.cells (fA 16 x) 27)).cell (p := ⟨g, 1, none⟩) (Nat.lt_of_lt_of_le hgl hb1.size), hb1.cell (p := ⟨g, 1, none⟩) hgl]; exact C1.out
      have C2 := Lib.hid (show (w2.alloc (.cells (fA 16 x) 27)).cell? ⟨g, 2, none⟩ = some (.string p2) by
        rw [((Below.refl w2.heap.size w2).alloc (Nat.le_refl _) (.cells (fA 16 x) 27)).cell (p := ⟨g, 2, none⟩) (Nat.lt_of_lt_of_le hgl hb1.size), hb1.cell (p := ⟨g, 2, none⟩) hgl]; exact C2.out)
      have hgl : g < (w2.alloc (.cells (fA 16 x) 27)).heap.size := by have := hb1.size; simp; omega
      have hb := (bCall hb hb1 hb.size).alloc (bCall hb hb1 hb.size).size (.cells (fA 16 x) 27)
      have hX : Blk (w2.alloc (.cells (fA 16 x) 27)) w2.heap.size 27 (fA 16 x) := Blk.new _ _ _
      clear hb1 C1
      go_wp2_with (refine wpList_store_new rfl 27 _ _ rfl _ rfl rfl (by kernel_rfl) rfl (all_fA _ _) ?_)
      refine (l01ReadCurve_any p1 z1 _).mono ?_
      rintro e w3 ⟨h, hb1⟩
      obtain ⟨y, b1, rfl, h1⟩ := read_bool h
      clear h c1
      have hR := (hR.below hb1 hR.lt).alloc (.cells (fA 16 y) 27)
      have hX := (hX.below hb1 hX.lt).alloc (.cells (fA 16 y) 27)
      have c2 : (w3.alloc (.cells (fA 16 y) 27)).cell? ⟨g, 2, none⟩ = some (.string p2) := by
        rw [((Below.refl w3.heap.size w3).alloc (Nat.le_refl _) (.cells (fA 16 y) 27)).cell (p := ⟨g, 2, none⟩) (Nat.lt_of_lt_of_le hgl hb1.size), hb1.cell (p := ⟨g, 2, none⟩) hgl]; exact C2.out
      have hb := (bCall hb hb1 hb.size).alloc (bCall hb hb1 hb.size).size (.cells (fA 16 y) 27)
      have hY : Blk (w3.alloc (.cells (fA 16 y) 27)) w3.heap.size 27 (fA 16 y) := Blk.new _ _ _
      clear hb1 C2 hgl
      go_wp2_with (refine wpList_store_new rfl 27 _ _ rfl _ rfl rfl (by kernel_rfl) rfl (all_fA _ _) ?_)
      refine (l01Read_any p2 _).mono ?_
      rintro e w4 ⟨h, hw4⟩
      obtain ⟨z, b2, rfl, h2⟩ := num_bool h
      clear h c2
      have hR : Blk w4 _ _ _ := hw4 ▸ hR
      have hX : Blk w4 _ _ _ := hw4 ▸ hX
      have hY : Blk w4 _ _ _ := hw4 ▸ hY
      have hb : Below w.heap.size w w4 := hw4 ▸ hb
      clear hw4
      have hA : Blk (w4.alloc (.cells (fA 33 (layer3 x y z)) 34)) w4.heap.size 34 (fA 33 (layer3 x y z)) := Blk.new _ _ _
      have hR := hR.alloc (.cells (fA 33 (layer3 x y z)) 34)
      have hb := hb.alloc hb.size (.cells (fA 33 (layer3 x y z)) 34)
      rcases Bool.eq_false_or_eq_true b0 with rfl | rfl
      · have G0 := Lib.hid (h0.out.1 rfl)
        clear h0
        rcases Bool.eq_false_or_eq_true b1 with rfl | rfl
        · have G1 := Lib.hid (h1.out.1 rfl)
          clear h1
          rcases Bool.eq_false_or_eq_true b2 with rfl | rfl
          · have G2 := Lib.hid (h2.out.1 rfl)
            clear h2
            go_wp2_with (first | (refine wpList_load_row rfl 27 _ rfl _ rfl _ _ (0, 0) _ hX Tryd.underlying27 rfl (by kernel_rfl) ?_) | (refine wpList_load_row rfl 27 _ rfl _ rfl _ _ (0, 0) _ hY Tryd.underlying27 rfl (by kernel_rfl) ?_) | (refine wpList_build_as rfl 34 _ rfl (fA 33 (layer3 x y z)) (by kernel_rfl) ?_) | (refine wpList_store_new rfl 34 _ _ rfl _ rfl rfl (by kernel_rfl) rfl (all_fA _ _) ?_))
            refine (l02Ok_any _ _ (layer3 x y z) _ hA).mono ?_
            rintro e w5 ⟨rfl, hb1⟩
            have hR := hR.below hb1 hR.lt
            have hA := hA.below hb1 hA.lt
            have hb := bCall hb hb1 hb.size
            clear hb1
            cases hok : layerOk (layer3 x y z) with
            | true =>
              have HG : Hid (GoodL t x y z) := Lib.hid ⟨p0, p1, p2, HL.out, G0.out, G1.out, G2.out, hok⟩
              go_wp2_with (first | (refine wpList_load_row rfl 34 _ rfl _ rfl _ _ (0, 0) _ hA Tryd.underlying34 rfl (by kernel_rfl) ?_) | (refine wpList_store_row rfl 34 _ _ rfl _ _ rfl rfl _ _ hR (by kernel_rfl) (by simp only [size_fA]) (all_fA _ _) ?_))
              exact bodyPost_ret (results_cell_row2 rfl _ _ w.heap.size _ _ _ _ rfl hR.setRow Tryd.underlying34 rfl (by kernel_rfl)) rfl ⟨.inl ⟨x, y, z, HG.out, rfl⟩, bRow hb (Nat.le_refl _) _⟩
            | false =>
              have E : Hid (∀ x y z, ¬ GoodL t x y z) := Lib.hid fun x' y' z' h => by
                obtain ⟨q0, q1, q2, e, k0, k1, k2, k3⟩ := h
                rw [HL.out] at e
                simp only [List.cons.injEq, and_true] at e
                obtain ⟨rfl, rfl, rfl⟩ := e
                rw [layerOk_congr (layer3_uniq k0 k1 k2 G0.out G1.out G2.out), hok] at k3
                cases k3
              go_wp2_with (first | (refine wpList_build_as rfl 34 _ rfl (fA 33 fun _ => 0) (by kernel_rfl) ?_) | (refine wpList_store_row rfl 34 _ _ rfl _ _ rfl rfl _ _ hR (by kernel_rfl) (by simp only [size_fA]) (all_fA _ _) ?_))
              exact bodyPost_ret (results_cell_row2 rfl _ _ w.heap.size _ _ _ _ rfl hR.setRow Tryd.underlying34 rfl (by kernel_rfl)) rfl ⟨.inr ⟨E.out, rfl⟩, bRow hb (Nat.le_refl _) _⟩
          · have E : Hid (∀ x y z, ¬ GoodL t x y z) := Lib.hid fun x' y' z' h => by
              obtain ⟨q0, q1, q2, e, k0, k1, k2, k3⟩ := h
              rw [HL.out] at e
              simp only [List.cons.injEq, and_true] at e
              obtain ⟨rfl, rfl, rfl⟩ := e
              exact h2.out.2 rfl _ k2
            clear h2
            go_wp2_with (first | (refine wpList_load_row rfl 27 _ rfl _ rfl _ _ (0, 0) _ hX Tryd.underlying27 rfl (by kernel_rfl) ?_) | (refine wpList_load_row rfl 27 _ rfl _ rfl _ _ (0, 0) _ hY Tryd.underlying27 rfl (by kernel_rfl) ?_) | (refine wpList_build_as rfl 34 #[] rfl (fA 33 fun _ => 0) (by kernel_rfl) ?_) | (refine wpList_build_as rfl 34 _ rfl (fA 33 (layer3 x y z)) (by kernel_rfl) ?_) | (refine wpList_store_new rfl 34 _ _ rfl _ rfl rfl (by kernel_rfl) rfl (all_fA _ _) ?_) | (refine wpList_store_row rfl 34 _ _ rfl _ _ rfl rfl _ _ hR (by kernel_rfl) (by simp only [size_fA]) (all_fA _ _) ?_))
            exact bodyPost_ret (results_cell_row2 rfl _ _ w.heap.size _ _ _ _ rfl hR.setRow Tryd.underlying34 rfl (by kernel_rfl)) rfl ⟨.inr ⟨E.out, rfl⟩, bRow hb (Nat.le_refl _) _⟩
        · have E : Hid (∀ x y z, ¬ GoodL t x y z) := Lib.hid fun x' y' z' h => by
            obtain ⟨q0, q1, q2, e, k0, k1, k2, k3⟩ := h
            rw [HL.out] at e
            simp only [List.cons.injEq, and_true] at e
            obtain ⟨rfl, rfl, rfl⟩ := e
            exact h1.out.2 rfl _ k1
          clear h1
          go_wp2_with (first | (refine wpList_load_row rfl 27 _ rfl _ rfl _ _ (0, 0) _ hX Tryd.underlying27 rfl (by kernel_rfl) ?_) | (refine wpList_load_row rfl 27 _ rfl _ rfl _ _ (0, 0) _ hY Tryd.underlying27 rfl (by kernel_rfl) ?_) | (refine wpList_build_as rfl 34 #[] rfl (fA 33 fun _ => 0) (by kernel_rfl) ?_) | (refine wpList_build_as rfl 34 _ rfl (fA 33 (layer3 x y z)) (by kernel_rfl) ?_) | (refine wpList_store_new rfl 34 _ _ rfl _ rfl rfl (by kernel_rfl) rfl (all_fA _ _) ?_) | (refine wpList_store_row rfl 34 _ _ rfl _ _ rfl rfl _ _ hR (by kernel_rfl) (by simp only [size_fA]) (all_fA _ _) ?_))
          exact bodyPost_ret (results_cell_row2 rfl _ _ w.heap.size _ _ _ _ rfl hR.setRow Tryd.underlying34 rfl (by kernel_rfl)) rfl ⟨.inr ⟨E.out, rfl⟩, bRow hb (Nat.le_refl _) _⟩
      · have E : Hid (∀ x y z, ¬ GoodL t x y z) := Lib.hid fun x' y' z' h => by
          obtain ⟨q0, q1, q2, e, k0, k1, k2, k3⟩ := h
          rw [HL.out] at e
          simp only [List.cons.injEq, and_true] at e
          obtain ⟨rfl, rfl, rfl⟩ := e
          exact h0.out.2 rfl _ k0
        clear h0
        go_wp2_with (first | (refine wpList_load_row rfl 27 _ rfl _ rfl _ _ (0, 0) _ hX Tryd.underlying27 rfl (by kernel_rfl) ?_) | (refine wpList_load_row rfl 27 _ rfl _ rfl _ _ (0, 0) _ hY Tryd.underlying27 rfl (by kernel_rfl) ?_) | (refine wpList_build_as rfl 34 #[] rfl (fA 33 fun _ => 0) (by kernel_rfl) ?_) | (refine wpList_build_as rfl 34 _ rfl (fA 33 (layer3 x y z)) (by kernel_rfl) ?_) | (refine wpList_store_new rfl 34 _ _ rfl _ rfl rfl (by kernel_rfl) rfl (all_fA _ _) ?_) | (refine wpList_store_row rfl 34 _ _ rfl _ _ rfl rfl _ _ hR (by kernel_rfl) (by simp only [size_fA]) (all_fA _ _) ?_))
        exact bodyPost_ret (results_cell_row2 rfl _ _ w.heap.size _ _ _ _ rfl hR.setRow Tryd.underlying34 rfl (by kernel_rfl)) rfl ⟨.inr ⟨E.out, rfl⟩, bRow hb (Nat.le_refl _) _⟩
    · have hq := nonempty_text h3
      have E : Hid (∀ x y z, ¬ GoodL t x y z) := Lib.hid fun x y z h => by
        obtain ⟨q0, q1, q2, e, _⟩ := h
        rw [HL.out] at e
        simp only [List.cons.injEq, and_true] at e
        exact h3 e.2.2.2
      clear h3 c0 c1 c2
      go_wp2_with (first | (refine wpList_build_as rfl 34 _ rfl (fA 33 fun _ => 0) (by kernel_rfl) ?_) | (refine wpList_store_row rfl 34 _ _ rfl _ _ rfl rfl _ _ hR (by kernel_rfl) (by simp only [size_fA]) (all_fA _ _) ?_))
      exact bodyPost_ret (results_cell_row2 rfl _ _ w.heap.size _ _ _ _ rfl hR.setRow Tryd.underlying34 rfl (by kernel_rfl)) rfl ⟨.inr ⟨E.out, rfl⟩, bRow hb (Nat.le_refl _) _⟩
  · have h4i : ((L.length : Int) == 4) = false := by
      rw [beq_eq_false_iff_ne]
      omega
    have E : Hid (∀ x y z, ¬ GoodL t x y z) := Lib.hid fun x y z h => by
      obtain ⟨q0, q1, q2, e, _⟩ := h
      rw [HL.out] at e
      exact h4 (by rw [e]; rfl)
    clear hcell
    go_wp2_with (first | (refine wpList_build_as rfl 34 _ rfl (fA 33 fun _ => 0) (by kernel_rfl) ?_) | (refine wpList_store_row rfl 34 _ _ rfl _ _ rfl rfl _ _ hR (by kernel_rfl) (by simp only [size_fA]) (all_fA _ _) ?_))
    exact bodyPost_ret (results_cell_row2 rfl _ _ w.heap.size _ _ _ _ rfl hR.setRow Tryd.underlying34 rfl (by kernel_rfl)) rfl ⟨.inr ⟨E.out, rfl⟩, bRow hb (Nat.le_refl _) _⟩
end Go.Proofs.YtbdbeaebeedakaaDoor
