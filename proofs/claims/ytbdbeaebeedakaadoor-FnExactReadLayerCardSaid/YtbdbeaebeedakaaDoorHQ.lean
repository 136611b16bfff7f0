/- The reading of a layer, as the program does it. -/
import Derived.Test.YtbdbeaebeedakaaDoorHP
namespace Go.Proofs.YtbdbeaebeedakaaDoor
open Go.RowKit
set_option maxRecDepth 100000

set_option maxHeartbeats 4000000 in
theorem iReadLayer_any (t : ByteArray) (hmax : t.size ≤ 1048576) (w : World) (ht : Tab w) (he : Errs w) (hm : MaxL w) : Calls Tryd.prog 24 #[.string t] w fun e w' => ReadY t e ∧ Below w.heap.size w w' := by
  have hR0 : Blk (w.alloc (.cells (fA 33 fun _ => 0) 34)) w.heap.size 34 (fA 33 fun _ => 0) := Blk.new _ _ _
  have hb0 : Below w.heap.size w (w.alloc (.cells (fA 33 fun _ => 0) 34)) := (Below.refl w.heap.size w).alloc (Nat.le_refl _) _
  have hlt0 := ht.lt
  have Ht := Lib.hid ht
  have He := Lib.hid he
  have Hm := Lib.hid hm
  clear ht he hm
  have hcl := cuts_len 10 t
  have hyz : ∀ y ∈ cuts 10 t, y.size ≤ 1048576 := fun y hy => Nat.le_trans (cuts_size 10 t y hy) hmax
  go_enter Tryd.func24, Tryd.ntmps24
  go_wp2_with fail
  refine (split_any t 10 hmax _ (Hm.out.below hb0 hlt0)).mono ?_
  rintro e w1 ⟨rfl, hw1⟩
  obtain ⟨g, hgd⟩ : ∃ g, g = (w.alloc (.cells (fA 33 fun _ => 0) 34)).heap.size := ⟨_, rfl⟩
  have hcell : ∀ (j : Nat) y, (cuts 10 t)[j]? = some y → w1.cell? ⟨g, j, none⟩ = some (.string y) := fun j y hj => by
    rw [hw1, hgd]
    rw [(Blk.new (w.alloc (.cells (fA 33 fun _ => 0) 34)) 9 ((cuts 10 t).map Value.string).toArray).cell j]
    simp [hj]
  have hb : Below w.heap.size w w1 := hw1 ▸ hb0.alloc hb0.size _
  have hR : Blk w1 w.heap.size 34 (fA 33 fun _ => 0) := hw1 ▸ hR0.alloc _
  have hgl : g < w1.heap.size := by rw [hw1, hgd]; simp
  have hgw : w.heap.size ≤ g := by rw [hgd]; simp
  have hn := hcl.1
  obtain ⟨cap, hcap⟩ : ∃ cap, cap = (cuts 10 t).length := ⟨_, rfl⟩
  rw [← hgd]
  clear hw1 hgd hR0 hb0 hcap cap
  generalize hL : cuts 10 t = L at *
  have HL := Lib.hid hL
  clear hL
  by_cases h4 : L.length = 4
  · obtain ⟨p0, p1, p2, p3, rfl⟩ := four h4
    have c0 := hcell 0 p0 rfl
    have c1 := hcell 1 p1 rfl
    have c2 := hcell 2 p2 rfl
    have c3 := hcell 3 p3 rfl
    have z0 := hyz p0 (by simp)
    have z1 := hyz p1 (by simp)
    have z2 := hyz p2 (by simp)
    clear hcell hyz hcl h4
    by_cases h3 : p3 = ⟨#[]⟩
    · subst h3
      have C1 := Lib.hid c1
      have C2 := Lib.hid c2
      clear c1 c2
      go_wp2_with fail
      refine (iReadCurve_any p0 z0 _ (Ht.out.below hb hlt0) (He.out.below hb hlt0) (Hm.out.below hb hlt0)).mono ?_
      rintro e w2 ⟨h, hb1⟩
      obtain ⟨x, b0, rfl, h0⟩ := read_code h
      clear h
      have hR := (hR.below hb1 hR.lt).alloc (.cells (fA 16 x) 27)
      have c1 : (w2.alloc (.cells (fA 16 x) 27)).cell? ⟨g, 1, none⟩ = some (.string p1) := by
        rw [((Below.refl w2.heap.size w2).alloc (Nat.le_refl _) (.cells (fA 16 x) 27)).cell (p := ⟨g, 1, none⟩) (Nat.lt_of_lt_of_le hgl hb1.size), hb1.cell (p := ⟨g, 1, none⟩) hgl]; exact C1.out
      have C2 := Lib.hid (show (w2.alloc (.cells (fA 16 x) 27)).cell? ⟨g, 2, none⟩ = some (.string p2) by
        rw [((Below.refl w2.heap.size w2).alloc (Nat.le_refl _) (.cells (fA 16 x) 27)).cell (p := ⟨g, 2, none⟩) (Nat.lt_of_lt_of_le hgl hb1.size), hb1.cell (p := ⟨g, 2, none⟩) hgl]; exact C2.out)
      have hgl : g < (w2.alloc (.cells (fA 16 x) 27)).heap.size := by have := hb1.size; simp; omega
      have hb := (bCall hb hb1 hb.size).alloc (bCall hb hb1 hb.size).size (.cells (fA 16 x) 27)
      have hX : Blk (w2.alloc (.cells (fA 16 x) 27)) w2.heap.size 27 (fA 16 x) := Blk.new _ _ _
      clear hb1 C1
      go_wp2_with (refine wpList_store_new rfl 27 _ _ rfl _ rfl rfl (by kernel_rfl) rfl (all_fA _ _) ?_)
      refine (iReadCurve_any p1 z1 _ (Ht.out.below hb hlt0) (He.out.below hb hlt0) (Hm.out.below hb hlt0)).mono ?_
      rintro e w3 ⟨h, hb1⟩
      obtain ⟨y, b1, rfl, h1⟩ := read_code h
      clear h c1
      have hR := (hR.below hb1 hR.lt).alloc (.cells (fA 16 y) 27)
      have hX := (hX.below hb1 hX.lt).alloc (.cells (fA 16 y) 27)
      have c2 : (w3.alloc (.cells (fA 16 y) 27)).cell? ⟨g, 2, none⟩ = some (.string p2) := by
        rw [((Below.refl w3.heap.size w3).alloc (Nat.le_refl _) (.cells (fA 16 y) 27)).cell (p := ⟨g, 2, none⟩) (Nat.lt_of_lt_of_le hgl hb1.size), hb1.cell (p := ⟨g, 2, none⟩) hgl]; exact C2.out
      have hb := (bCall hb hb1 hb.size).alloc (bCall hb hb1 hb.size).size (.cells (fA 16 y) 27)
      have hY : Blk (w3.alloc (.cells (fA 16 y) 27)) w3.heap.size 27 (fA 16 y) := Blk.new _ _ _
      clear hb1 C2 hgl
      go_wp2_with (refine wpList_store_new rfl 27 _ _ rfl _ rfl rfl (by kernel_rfl) rfl (all_fA _ _) ?_)
      refine (iReadNumber_any p2 z2 _ (Ht.out.below hb hlt0) (He.out.below hb hlt0)).mono ?_
      rintro e w4 ⟨h, hb1⟩
      obtain ⟨z, b2, rfl, h2⟩ := num_code h
      clear h c2
      have hR := hR.below hb1 hR.lt
      have hX := hX.below hb1 hX.lt
      have hY := hY.below hb1 hY.lt
      have hb := bCall hb hb1 hb.size
      clear hb1
      have hA : Blk (w4.alloc (.cells (fA 33 (layer3 x y z)) 34)) w4.heap.size 34 (fA 33 (layer3 x y z)) := Blk.new _ _ _
      have hR := hR.alloc (.cells (fA 33 (layer3 x y z)) 34)
      have hb := hb.alloc hb.size (.cells (fA 33 (layer3 x y z)) 34)
      rcases h0.out with ⟨rfl, g0⟩ | ⟨rfl, g0⟩
      · have G0 := Lib.hid g0
        clear g0
        rcases h1.out with ⟨rfl, g1⟩ | ⟨rfl, g1⟩
        · have G1 := Lib.hid g1
          clear g1
          rcases h2.out with ⟨rfl, g2⟩ | ⟨rfl, g2⟩
          · have G2 := Lib.hid g2
            clear g2
            go_wp2_with (first | (refine wpList_load_row rfl 27 _ rfl _ rfl _ _ (0, 0) _ hX Tryd.underlying27 rfl (by kernel_rfl) ?_) | (refine wpList_load_row rfl 27 _ rfl _ rfl _ _ (0, 0) _ hY Tryd.underlying27 rfl (by kernel_rfl) ?_) | (refine wpList_build_as rfl 34 _ rfl (fA 33 (layer3 x y z)) (by kernel_rfl) ?_) | (refine wpList_store_new rfl 34 _ _ rfl _ rfl rfl (by kernel_rfl) rfl (all_fA _ _) ?_) | (refine wpList_load_partW rfl 34 _ rfl 0 33 hA rfl (by decide) Tryd.underlying34 rfl (by kernel_rfl) ?_))
            refine (iValidLayer_any _ _).mono ?_
            rw [show rowAt (layer3 x y z) 0 = layer3 x y z from funext fun j => by unfold rowAt; rw [Nat.zero_add]]
            rintro e w5 ⟨rfl, hb1⟩
            have hR := hR.below hb1 hR.lt
            have hA := hA.below hb1 hA.lt
            have hb := bCall hb hb1 hb.size
            clear hb1
            cases hok : layerOk (layer3 x y z) with
            | true =>
              have HG : Hid (GoodL t x y z) := Lib.hid ⟨p0, p1, p2, HL.out, G0.out, G1.out, G2.out, hok⟩
              go_wp2_with (first | (refine wpList_load_row rfl 34 _ rfl _ rfl _ _ (0, 0) _ hA Tryd.underlying34 rfl (by kernel_rfl) ?_) | (refine wpList_store_row rfl 34 _ _ rfl _ _ rfl rfl _ _ hR (by kernel_rfl) (by simp only [size_fA]) (all_fA _ _) ?_))
              exact bodyPost_ret (results_cell_row2 rfl _ _ w.heap.size _ _ _ _ rfl hR.setRow Tryd.underlying34 rfl (by kernel_rfl)) rfl ⟨.inl ⟨x, y, z, HG.out, rfl⟩, bRow hb (Nat.le_refl _) _⟩
            | false =>
              have E : Hid (∀ x y z, ¬ GoodL t x y z) := Lib.hid fun x' y' z' h => by
                obtain ⟨q0, q1, q2, e, k0, k1, k2, k3⟩ := h
                rw [HL.out] at e
                simp only [List.cons.injEq, and_true] at e
                obtain ⟨rfl, rfl, rfl⟩ := e
                rw [layerOk_congr (layer3_uniq k0 k1 k2 G0.out G1.out G2.out), hok] at k3
                cases k3
              go_wp2_with (first | (refine wpList_build_as rfl 34 _ rfl (fA 33 fun _ => 0) (by kernel_rfl) ?_) | (refine wpList_store_row rfl 34 _ _ rfl _ _ rfl rfl _ _ hR (by kernel_rfl) (by simp only [size_fA]) (all_fA _ _) ?_))
              exact bodyPost_ret (results_cell_row2 rfl _ _ w.heap.size _ _ _ _ rfl hR.setRow Tryd.underlying34 rfl (by kernel_rfl)) rfl ⟨.inr ⟨E.out, rfl⟩, bRow hb (Nat.le_refl _) _⟩
          · have E : Hid (∀ x y z, ¬ GoodL t x y z) := Lib.hid fun x' y' z' h => by
              obtain ⟨q0, q1, q2, e, k0, k1, k2, k3⟩ := h
              rw [HL.out] at e
              simp only [List.cons.injEq, and_true] at e
              obtain ⟨rfl, rfl, rfl⟩ := e
              exact g2 _ k2
            clear g2
            go_wp2_with (first | (refine wpList_load_row rfl 27 _ rfl _ rfl _ _ (0, 0) _ hX Tryd.underlying27 rfl (by kernel_rfl) ?_) | (refine wpList_load_row rfl 27 _ rfl _ rfl _ _ (0, 0) _ hY Tryd.underlying27 rfl (by kernel_rfl) ?_) | (refine wpList_build_as rfl 34 #[] rfl (fA 33 fun _ => 0) (by kernel_rfl) ?_) | (refine wpList_build_as rfl 34 _ rfl (fA 33 (layer3 x y z)) (by kernel_rfl) ?_) | (refine wpList_store_new rfl 34 _ _ rfl _ rfl rfl (by kernel_rfl) rfl (all_fA _ _) ?_) | (refine wpList_store_row rfl 34 _ _ rfl _ _ rfl rfl _ _ hR (by kernel_rfl) (by simp only [size_fA]) (all_fA _ _) ?_))
            exact bodyPost_ret (results_cell_row2 rfl _ _ w.heap.size _ _ _ _ rfl hR.setRow Tryd.underlying34 rfl (by kernel_rfl)) rfl ⟨.inr ⟨E.out, rfl⟩, bRow hb (Nat.le_refl _) _⟩
        · have E : Hid (∀ x y z, ¬ GoodL t x y z) := Lib.hid fun x' y' z' h => by
            obtain ⟨q0, q1, q2, e, k0, k1, k2, k3⟩ := h
            rw [HL.out] at e
            simp only [List.cons.injEq, and_true] at e
            obtain ⟨rfl, rfl, rfl⟩ := e
            exact g1 _ k1
          clear g1
          go_wp2_with (first | (refine wpList_load_row rfl 27 _ rfl _ rfl _ _ (0, 0) _ hX Tryd.underlying27 rfl (by kernel_rfl) ?_) | (refine wpList_load_row rfl 27 _ rfl _ rfl _ _ (0, 0) _ hY Tryd.underlying27 rfl (by kernel_rfl) ?_) | (refine wpList_build_as rfl 34 #[] rfl (fA 33 fun _ => 0) (by kernel_rfl) ?_) | (refine wpList_build_as rfl 34 _ rfl (fA 33 (layer3 x y z)) (by kernel_rfl) ?_) | (refine wpList_store_new rfl 34 _ _ rfl _ rfl rfl (by kernel_rfl) rfl (all_fA _ _) ?_) | (refine wpList_store_row rfl 34 _ _ rfl _ _ rfl rfl _ _ hR (by kernel_rfl) (by simp only [size_fA]) (all_fA _ _) ?_))
          exact bodyPost_ret (results_cell_row2 rfl _ _ w.heap.size _ _ _ _ rfl hR.setRow Tryd.underlying34 rfl (by kernel_rfl)) rfl ⟨.inr ⟨E.out, rfl⟩, bRow hb (Nat.le_refl _) _⟩
      · have E : Hid (∀ x y z, ¬ GoodL t x y z) := Lib.hid fun x' y' z' h => by
          obtain ⟨q0, q1, q2, e, k0, k1, k2, k3⟩ := h
          rw [HL.out] at e
          simp only [List.cons.injEq, and_true] at e
          obtain ⟨rfl, rfl, rfl⟩ := e
          exact g0 _ k0
        clear g0
        go_wp2_with (first | (refine wpList_load_row rfl 27 _ rfl _ rfl _ _ (0, 0) _ hX Tryd.underlying27 rfl (by kernel_rfl) ?_) | (refine wpList_load_row rfl 27 _ rfl _ rfl _ _ (0, 0) _ hY Tryd.underlying27 rfl (by kernel_rfl) ?_) | (refine wpList_build_as rfl 34 #[] rfl (fA 33 fun _ => 0) (by kernel_rfl) ?_) | (refine wpList_build_as rfl 34 _ rfl (fA 33 (layer3 x y z)) (by kernel_rfl) ?_) | (refine wpList_store_new rfl 34 _ _ rfl _ rfl rfl (by kernel_rfl) rfl (all_fA _ _) ?_) | (refine wpList_store_row rfl 34 _ _ rfl _ _ rfl rfl _ _ hR (by kernel_rfl) (by simp only [size_fA]) (all_fA _ _) ?_))
        exact bodyPost_ret (results_cell_row2 rfl _ _ w.heap.size _ _ _ _ rfl hR.setRow Tryd.underlying34 rfl (by kernel_rfl)) rfl ⟨.inr ⟨E.out, rfl⟩, bRow hb (Nat.le_refl _) _⟩
    · have hq := nonempty_text h3
      have E : Hid (∀ x y z, ¬ GoodL t x y z) := Lib.hid fun x y z h => by
        obtain ⟨q0, q1, q2, e, _⟩ := h
        rw [HL.out] at e
        simp only [List.cons.injEq, and_true] at e
        exact h3 e.2.2.2
      clear h3 c0 c1 c2
      go_wp2_with (first | (refine wpList_build_as rfl 34 _ rfl (fA 33 fun _ => 0) (by kernel_rfl) ?_) | (refine wpList_store_row rfl 34 _ _ rfl _ _ rfl rfl _ _ hR (by kernel_rfl) (by simp only [size_fA]) (all_fA _ _) ?_))
      exact bodyPost_ret (results_cell_row2 rfl _ _ w.heap.size _ _ _ _ rfl hR.setRow Tryd.underlying34 rfl (by kernel_rfl)) rfl ⟨.inr ⟨E.out, rfl⟩, bRow hb (Nat.le_refl _) _⟩
  · have h4i : ((L.length : Int) == 4) = false := by
      rw [beq_eq_false_iff_ne]
      omega
    have E : Hid (∀ x y z, ¬ GoodL t x y z) := Lib.hid fun x y z h => by
      obtain ⟨q0, q1, q2, e, _⟩ := h
      rw [HL.out] at e
      exact h4 (by rw [e]; rfl)
    clear hcell
    go_wp2_with (first | (refine wpList_build_as rfl 34 _ rfl (fA 33 fun _ => 0) (by kernel_rfl) ?_) | (refine wpList_store_row rfl 34 _ _ rfl _ _ rfl rfl _ _ hR (by kernel_rfl) (by simp only [size_fA]) (all_fA _ _) ?_))
    exact bodyPost_ret (results_cell_row2 rfl _ _ w.heap.size _ _ _ _ rfl hR.setRow Tryd.underlying34 rfl (by kernel_rfl)) rfl ⟨.inr ⟨E.out, rfl⟩, bRow hb (Nat.le_refl _) _⟩
theorem ReadY.form {t : ByteArray} {e : Ending} (h : ReadY t e) : ∃ (x : Nat → Nat) (k : Int), e = .returned (.tuple #[.agg (fA 33 x), .int .i64 k]) := by
  rcases h with ⟨x, y, z, _, h⟩ | ⟨_, h⟩
  · exact ⟨_, 0, h⟩
  · exact ⟨_, 5, h⟩
theorem ReadY.same {t : ByteArray} {x : Nat → Nat} {k : Int} {e2 : Ending} (h1 : ReadY t (.returned (.tuple #[.agg (fA 33 x), .int .i64 k]))) (h2 : ReadY t e2) : ∃ y, e2 = .returned (.tuple #[.agg (fA 33 y), .int .i64 k]) ∧ ∀ i, i < 33 → y i = x i := by
  have hfa : ∀ {a b : Nat → Nat}, fA 33 a = fA 33 b → ∀ i, i < 33 → a i = b i := fun {a b} h i hi => by
    have h1 := get_fA_lt a hi
    rw [h, get_fA_lt b hi] at h1
    injection h1 with h1
    injection h1 with _ h1
    exact h1.symm
  rcases h1 with ⟨x', y', z', hx, h⟩ | ⟨hx, h⟩ <;> injection h with h <;> injection h with h <;>
    simp only [Array.mk.injEq, List.cons.injEq, Value.agg.injEq, Value.int.injEq, true_and, and_true] at h <;> obtain ⟨ha, rfl⟩ := h
  · rcases h2 with ⟨x2, y2, z2, hy, rfl⟩ | ⟨hy, rfl⟩
    · exact ⟨_, rfl, fun i hi => (hy.uniq hx i hi).trans (hfa ha i hi).symm⟩
    · exact absurd hx (hy x' y' z')
  · rcases h2 with ⟨x2, y2, z2, hy, rfl⟩ | ⟨hy, rfl⟩
    · exact absurd hy (hx x2 y2 z2)
    · exact ⟨_, rfl, fun i hi => (hfa ha i hi).symm⟩
end Go.Proofs.YtbdbeaebeedakaaDoor
