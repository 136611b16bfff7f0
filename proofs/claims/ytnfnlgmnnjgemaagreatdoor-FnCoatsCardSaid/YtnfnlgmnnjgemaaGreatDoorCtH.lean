/- The reading of a layer: the reference's and the program's. The reading of a layer, as the program does it. The text of a layer reads back. Plain: no function of the program is named here. -/
import Derived.Test.YtnfnlgmnnjgemaaGreatDoorHN
import Derived.Test.YtnfnlgmnnjgemaaGreatDoorHG
import Derived.Test.YtnfnlgmnnjgemaaGreatDoorCR
import Derived.Test.YtnfnlgmnnjgemaaGreatDoorHR
namespace Go.Proofs.YtnfnlgmnnjgemaaGreatDoor
open Go.RowKit
set_option maxRecDepth 100000

/-- Four lines: two curves, a number, nothing. -/
def GoodL (t : ByteArray) (x y : Nat → Nat) (z : Nat) : Prop := ∃ p0 p1 p2, cuts 10 t = [p0, p1, p2, ⟨#[]⟩] ∧ Good p0 x ∧ Good p1 y ∧ Num8 p2 z ∧ layerOk (layer3 x y z) = true
def ReadY (t : ByteArray) (e : Ending) : Prop :=
  (∃ x y z, GoodL t x y z ∧ e = .returned (.tuple #[.agg (fA 33 (layer3 x y z)), .int .i64 0])) ∨ ((∀ x y z, ¬ GoodL t x y z) ∧ e = .returned (.tuple #[.agg (fA 33 fun _ => 0), .int .i64 5]))
theorem four {L : List ByteArray} (h : L.length = 4) : ∃ p0 p1 p2 p3, L = [p0, p1, p2, p3] := by
  match L, h with
  | [a, b, c, d], _ => exact ⟨a, b, c, d, rfl⟩
theorem nonempty_text {p : ByteArray} (h : p ≠ ⟨#[]⟩) : p.toList.isEmpty = false := by
  rw [← decide_eq_emptyBytes]
  exact decide_eq_false h
theorem read_bool {t : ByteArray} {e : Ending} (h : (∃ x, Good t x ∧ e = .returned (.tuple #[.agg (fA 16 x), .bool true])) ∨ ((∀ x, ¬ Good t x) ∧ ∃ z, e = .returned (.tuple #[.agg (fA 16 z), .bool false]))) :
    ∃ x b, e = .returned (.tuple #[.agg (fA 16 x), .bool b]) ∧ Hid ((b = true → Good t x) ∧ (b = false → ∀ x, ¬ Good t x)) := by
  rcases h with ⟨x, hx, rfl⟩ | ⟨hno, z, rfl⟩
  · exact ⟨x, true, rfl, Lib.hid ⟨fun _ => hx, fun h => Bool.noConfusion h⟩⟩
  · exact ⟨z, false, rfl, Lib.hid ⟨fun h => Bool.noConfusion h, fun _ => hno⟩⟩
theorem read_code {t : ByteArray} {e : Ending} (h : ReadC t e) : ∃ x k, e = .returned (.tuple #[.agg (fA 16 x), .int .i64 k]) ∧ Hid ((k = 0 ∧ Good t x) ∨ (k = 5 ∧ ∀ x, ¬ Good t x)) := by
  rcases h with ⟨x, hx, rfl⟩ | ⟨hno, rfl⟩
  · exact ⟨x, 0, rfl, .inl ⟨rfl, hx⟩⟩
  · exact ⟨_, 5, rfl, .inr ⟨rfl, hno⟩⟩
theorem num_bool {t : ByteArray} {e : Ending} (h : ReadL t e) : ∃ x b, e = .returned (.tuple #[.float .f32 x, .bool b]) ∧ Hid ((b = true → Num8 t x) ∧ (b = false → ∀ x, ¬ Num8 t x)) := by
  rcases h with ⟨x, h1, h2, h3, rfl⟩ | ⟨hno, z, rfl⟩
  · exact ⟨x, true, rfl, Lib.hid ⟨fun _ => ⟨h1, h2, h3⟩, fun h => Bool.noConfusion h⟩⟩
  · exact ⟨z, false, rfl, Lib.hid ⟨fun h => Bool.noConfusion h, fun _ x h => hno x h.1 h.2.2 h.2.1⟩⟩
theorem num_code {t : ByteArray} {e : Ending} (h : ReadN t e) : ∃ x k, e = .returned (.tuple #[.float .f32 x, .int .i64 k]) ∧ Hid ((k = 0 ∧ Num8 t x) ∨ (k = 5 ∧ ∀ x, ¬ Num8 t x)) := by
  rcases h with ⟨x, h1, h2, h3, rfl⟩ | ⟨hno, rfl⟩
  · exact ⟨x, 0, rfl, .inl ⟨rfl, h1, h2, h3⟩⟩
  · exact ⟨_, 5, rfl, .inr ⟨rfl, fun x h => hno x h.1 h.2.2 h.2.1⟩⟩
theorem layer3_uniq {p0 p1 p2 : ByteArray} {x y x' y' : Nat → Nat} {z z' : Nat} (g0 : Good p0 x) (g1 : Good p1 y) (g2 : Num8 p2 z) (k0 : Good p0 x') (k1 : Good p1 y') (k2 : Num8 p2 z') : ∀ i, i < 33 → layer3 x y z i = layer3 x' y' z' i := by
  intro i hi
  unfold layer3
  split
  · exact g0.uniq k0 i (by omega)
  · split
    · exact g1.uniq k1 _ (by omega)
    · exact hexT_inj g2.1 k2.1 (g2.2.1.symm.trans k2.2.1)
theorem GoodL.uniq {t : ByteArray} {x y x' y' : Nat → Nat} {z z' : Nat} (h : GoodL t x y z) (h' : GoodL t x' y' z') : ∀ i, i < 33 → layer3 x y z i = layer3 x' y' z' i := by
  obtain ⟨p0, p1, p2, e, g0, g1, g2, _⟩ := h
  obtain ⟨q0, q1, q2, e', k0, k1, k2, _⟩ := h'
  rw [e] at e'
  simp only [List.cons.injEq, and_true] at e'
  obtain ⟨rfl, rfl, rfl⟩ := e'
  exact layer3_uniq g0 g1 g2 k0 k1 k2
theorem layerOk_congr {a b : Nat → Nat} (h : ∀ i, i < 33 → a i = b i) : layerOk a = layerOk b := by
  have e1 : (allTo 16 fun i => amount (canon .f32 (rowAt a 0 i))) = allTo 16 fun i => amount (canon .f32 (rowAt b 0 i)) := allTo_congr fun i hi => by unfold rowAt; rw [h _ (by omega)]
  have e2 : (allTo 16 fun i => amount (canon .f32 (rowAt a 16 i))) = allTo 16 fun i => amount (canon .f32 (rowAt b 16 i)) := allTo_congr fun i hi => by unfold rowAt; rw [h _ (by omega)]
  unfold layerOk
  rw [e1, e2, h 32 (by omega)]
end Go.Proofs.YtnfnlgmnnjgemaaGreatDoor

namespace Go.Proofs.YtnfnlgmnnjgemaaGreatDoor
open Go.RowKit
set_option maxRecDepth 100000

set_option maxHeartbeats 4000000 in
theorem iReadLayer_any (t : ByteArray) (hmax : t.size ≤ 1048576) (w : World) (ht : Tab w) (he : Errs w) (hm : MaxL w) : Calls Tryz.prog 10 #[.string t] w fun e w' => ReadY t e ∧ Below w.heap.size w w' := by
  have hR0 : Blk (w.alloc (.cells (fA 33 fun _ => 0) 28)) w.heap.size 28 (fA 33 fun _ => 0) := Blk.new _ _ _
  have hb0 : Below w.heap.size w (w.alloc (.cells (fA 33 fun _ => 0) 28)) := (Below.refl w.heap.size w).alloc (Nat.le_refl _) _
  have hlt0 := ht.lt
  have Ht := Lib.hid ht
  have He := Lib.hid he
  have Hm := Lib.hid hm
  clear ht he hm
  have hcl := cuts_len 10 t
  have hyz : ∀ y ∈ cuts 10 t, y.size ≤ 1048576 := fun y hy => Nat.le_trans (cuts_size 10 t y hy) hmax
  go_enter Tryz.func10, Tryz.ntmps10
  go_wp2_with fail
  refine (split_any t 10 hmax _ (Hm.out.below hb0 hlt0)).mono ?_
  rintro e w1 ⟨rfl, hw1⟩
  obtain ⟨g, hgd⟩ : ∃ g, g = (w.alloc (.cells (fA 33 fun _ => 0) 28)).heap.size := ⟨_, rfl⟩
  have hcell : ∀ (j : Nat) y, (cuts 10 t)[j]? = some y → w1.cell? ⟨g, j, none⟩ = some (.string y) := fun j y hj => by
    rw [hw1, hgd]
    rw [(Blk.new (w.alloc (.cells (fA 33 fun _ => 0) 28)) 9 ((cuts 10 t).map Value.string).toArray).cell j]
    simp [hj]
  have hb : Below w.heap.size w w1 := hw1 ▸ hb0.alloc hb0.size _
  have hR : Blk w1 w.heap.size 28 (fA 33 fun _ => 0) := hw1 ▸ hR0.alloc _
  have hgl : g < w1.heap.size := by rw [hw1, hgd]; simp
  have hgw : w.heap.size ≤ g := by rw [hgd]; simp
  have hn := hcl.1
  obtain ⟨cap, hcap⟩ : ∃ cap, cap = (cuts 10 t).length := ⟨_, rfl⟩
  rw [← hgd]
  clear hw1 hgd hR0 hb0 hcap cap
  generalize hL : cuts 10 t = L at *
  have HL := Lib.hid hL
  clear hL
  by_cases h4 : L.length = 4
  · obtain ⟨p0, p1, p2, p3, rfl⟩ := four h4
    have c0 := hcell 0 p0 rfl
    have c1 := hcell 1 p1 rfl
    have c2 := hcell 2 p2 rfl
    have c3 := hcell 3 p3 rfl
    have z0 := hyz p0 (by simp)
    have z1 := hyz p1 (by simp)
    have z2 := hyz p2 (by simp)
    clear hcell hyz hcl h4
    by_cases h3 : p3 = ⟨#[]⟩
    · subst h3
      have C1 := Lib.hid c1
      have C2 := Lib.hid c2
      clear c1 c2
      go_wp2_with fail
      refine (iReadCurve_any p0 z0 _ (Ht.out.below hb hlt0) (He.out.below hb hlt0) (Hm.out.below hb hlt0)).mono ?_
      rintro e w2 ⟨h, hb1⟩
      obtain ⟨x, b0, rfl, h0⟩ := read_code h
      clear h
      have hR := (hR.below hb1 hR.lt).alloc (.cells (fA 16 x) 26)
      have c1 : (w2.alloc (.cells (fA 16 x) 26)).cell? ⟨g, 1, none⟩ = some (.string p1) := by
        rw [((Below.refl w2.heap.size w2).alloc (Nat.le_refl _) (.cells (fA 16 x) 26)).cell (p := ⟨g, 1, none⟩) (Nat.lt_of_lt_of_le hgl hb1.size), hb1.cell (p := ⟨g, 1, none⟩) hgl]; exact C1.out
      have C2 := Lib.hid (show (w2.alloc (.cells (fA 16 x) 26)).cell? ⟨g, 2, none⟩ = some (.string p2) by
        rw [((Below.refl w2.heap.size w2).alloc (Nat.le_refl _) (.cells (fA 16 x) 26)).cell (p := ⟨g, 2, none⟩) (Nat.lt_of_lt_of_le hgl hb1.size), hb1.cell (p := ⟨g, 2, none⟩) hgl]; exact C2.out)
      have hgl : g < (w2.alloc (.cells (fA 16 x) 26)).heap.size := by have := hb1.size; simp; omega
      have hb := (bCall hb hb1 hb.size).alloc (bCall hb hb1 hb.size).size (.cells (fA 16 x) 26)
      have hX : Blk (w2.alloc (.cells (fA 16 x) 26)) w2.heap.size 26 (fA 16 x) := Blk.new _ _ _
      clear hb1 C1
      go_wp2_with (refine wpList_store_new rfl 26 _ _ rfl _ rfl rfl (by kernel_rfl) rfl (all_fA _ _) ?_)
      refine (iReadCurve_any p1 z1 _ (Ht.out.below hb hlt0) (He.out.below hb hlt0) (Hm.out.below hb hlt0)).mono ?_
      rintro e w3 ⟨h, hb1⟩
      obtain ⟨y, b1, rfl, h1⟩ := read_code h
      clear h c1
      have hR := (hR.below hb1 hR.lt).alloc (.cells (fA 16 y) 26)
      have hX := (hX.below hb1 hX.lt).alloc (.cells (fA 16 y) 26)
      have c2 : (w3.alloc (.cells (fA 16 y) 26)).cell? ⟨g, 2, none⟩ = some (.string p2) := by
        rw [((Below.refl w3.heap.size w3).alloc (Nat.le_refl _) (.cells (fA 16 y) 26)).cell (p := ⟨g, 2, none⟩) (Nat.lt_of_lt_of_le hgl hb1.size), hb1.cell (p := ⟨g, 2, none⟩) hgl]; exact C2.out
      have hb := (bCall hb hb1 hb.size).alloc (bCall hb hb1 hb.size).size (.cells (fA 16 y) 26)
      have hY : Blk (w3.alloc (.cells (fA 16 y) 26)) w3.heap.size 26 (fA 16 y) := Blk.new _ _ _
      clear hb1 C2 hgl
      go_wp2_with (refine wpList_store_new rfl 26 _ _ rfl _ rfl rfl (by kernel_rfl) rfl (all_fA _ _) ?_)
      refine (iReadNumber_any p2 z2 _ (Ht.out.below hb hlt0) (He.out.below hb hlt0)).mono ?_
      rintro e w4 ⟨h, hb1⟩
      obtain ⟨z, b2, rfl, h2⟩ := num_code h
      clear h c2
      have hR := hR.below hb1 hR.lt
      have hX := hX.below hb1 hX.lt
      have hY := hY.below hb1 hY.lt
      have hb := bCall hb hb1 hb.size
      clear hb1
      have hA : Blk (w4.alloc (.cells (fA 33 (layer3 x y z)) 28)) w4.heap.size 28 (fA 33 (layer3 x y z)) := Blk.new _ _ _
      have hR := hR.alloc (.cells (fA 33 (layer3 x y z)) 28)
      have hb := hb.alloc hb.size (.cells (fA 33 (layer3 x y z)) 28)
      rcases h0.out with ⟨rfl, g0⟩ | ⟨rfl, g0⟩
      · have G0 := Lib.hid g0
        clear g0
        rcases h1.out with ⟨rfl, g1⟩ | ⟨rfl, g1⟩
        · have G1 := Lib.hid g1
          clear g1
          rcases h2.out with ⟨rfl, g2⟩ | ⟨rfl, g2⟩
          · have G2 := Lib.hid g2
            clear g2
            go_wp2_with (first | (refine wpList_load_row rfl 26 _ rfl _ rfl _ _ (0, 0) _ hX Tryz.underlying26 rfl (by kernel_rfl) ?_) | (refine wpList_load_row rfl 26 _ rfl _ rfl _ _ (0, 0) _ hY Tryz.underlying26 rfl (by kernel_rfl) ?_) | (refine wpList_build_as rfl 28 _ rfl (fA 33 (layer3 x y z)) (by kernel_rfl) ?_) | (refine wpList_store_new rfl 28 _ _ rfl _ rfl rfl (by kernel_rfl) rfl (all_fA _ _) ?_) | (refine wpList_load_partW rfl 28 _ rfl 0 33 hA rfl (by decide) Tryz.underlying28 rfl (by kernel_rfl) ?_))
            refine (iValidLayer_any _ _).mono ?_
            rw [show rowAt (layer3 x y z) 0 = layer3 x y z from funext fun j => by unfold rowAt; rw [Nat.zero_add]]
            rintro e w5 ⟨rfl, hb1⟩
            have hR := hR.below hb1 hR.lt
            have hA := hA.below hb1 hA.lt
            have hb := bCall hb hb1 hb.size
            clear hb1
            cases hok : layerOk (layer3 x y z) with
            | true =>
              have HG : Hid (GoodL t x y z) := Lib.hid ⟨p0, p1, p2, HL.out, G0.out, G1.out, G2.out, hok⟩
              go_wp2_with (first | (refine wpList_load_row rfl 28 _ rfl _ rfl _ _ (0, 0) _ hA Tryz.underlying28 rfl (by kernel_rfl) ?_) | (refine wpList_store_row rfl 28 _ _ rfl _ _ rfl rfl _ _ hR (by kernel_rfl) (by simp only [size_fA]) (all_fA _ _) ?_))
              exact bodyPost_ret (results_cell_row2 rfl _ _ w.heap.size _ _ _ _ rfl hR.setRow Tryz.underlying28 rfl (by kernel_rfl)) rfl ⟨.inl ⟨x, y, z, HG.out, rfl⟩, bRow hb (Nat.le_refl _) _⟩
            | false =>
              have E : Hid (∀ x y z, ¬ GoodL t x y z) := Lib.hid fun x' y' z' h => by
                obtain ⟨q0, q1, q2, e, k0, k1, k2, k3⟩ := h
                rw [HL.out] at e
                simp only [List.cons.injEq, and_true] at e
                obtain ⟨rfl, rfl, rfl⟩ := e
                rw [layerOk_congr (layer3_uniq k0 k1 k2 G0.out G1.out G2.out), hok] at k3
                cases k3
              go_wp2_with (first | (refine wpList_build_as rfl 28 _ rfl (fA 33 fun _ => 0) (by kernel_rfl) ?_) | (refine wpList_store_row rfl 28 _ _ rfl _ _ rfl rfl _ _ hR (by kernel_rfl) (by simp only [size_fA]) (all_fA _ _) ?_))
              exact bodyPost_ret (results_cell_row2 rfl _ _ w.heap.size _ _ _ _ rfl hR.setRow Tryz.underlying28 rfl (by kernel_rfl)) rfl ⟨.inr ⟨E.out, rfl⟩, bRow hb (Nat.le_refl _) _⟩
          · have E : Hid (∀ x y z, ¬ GoodL t x y z) := Lib.hid fun x' y' z' h => by
              obtain ⟨q0, q1, q2, e, k0, k1, k2, k3⟩ := h
              rw [HL.out] at e
              simp only [List.cons.injEq, and_true] at e
              obtain ⟨rfl, rfl, rfl⟩ := e
              exact g2 _ k2
            clear g2
            go_wp2_with (first | (refine wpList_load_row rfl 26 _ rfl _ rfl _ _ (0, 0) _ hX Tryz.underlying26 rfl (by kernel_rfl) ?_) | (refine wpList_load_row rfl 26 _ rfl _ rfl _ _ (0, 0) _ hY Tryz.underlying26 rfl (by kernel_rfl) ?_) | (refine wpList_build_as rfl 28 #[] rfl (fA 33 fun _ => 0) (by kernel_rfl) ?_) | (refine wpList_build_as rfl 28 _ rfl (fA 33 (layer3 x y z)) (by kernel_rfl) ?_) | (refine wpList_store_new rfl 28 _ _ rfl _ rfl rfl (by kernel_rfl) rfl (all_fA _ _) ?_) | (refine wpList_store_row rfl 28 _ _ rfl _ _ rfl rfl _ _ hR (by kernel_rfl) (by simp only [size_fA]) (all_fA _ _) ?_))
            exact bodyPost_ret (results_cell_row2 rfl _ _ w.heap.size _ _ _ _ rfl hR.setRow Tryz.underlying28 rfl (by kernel_rfl)) rfl ⟨.inr ⟨E.out, rfl⟩, bRow hb (Nat.le_refl _) _⟩
        · have E : Hid (∀ x y z, ¬ GoodL t x y z) := Lib.hid fun x' y' z' h => by
            obtain ⟨q0, q1, q2, e, k0, k1, k2, k3⟩ := h
            rw [HL.out] at e
            simp only [List.cons.injEq, and_true] at e
            obtain ⟨rfl, rfl, rfl⟩ := e
            exact g1 _ k1
          clear g1
          go_wp2_with (first | (refine wpList_load_row rfl 26 _ rfl _ rfl _ _ (0, 0) _ hX Tryz.underlying26 rfl (by kernel_rfl) ?_) | (refine wpList_load_row rfl 26 _ rfl _ rfl _ _ (0, 0) _ hY Tryz.underlying26 rfl (by kernel_rfl) ?_) | (refine wpList_build_as rfl 28 #[] rfl (fA 33 fun _ => 0) (by kernel_rfl) ?_) | (refine wpList_build_as rfl 28 _ rfl (fA 33 (layer3 x y z)) (by kernel_rfl) ?_) | (refine wpList_store_new rfl 28 _ _ rfl _ rfl rfl (by kernel_rfl) rfl (all_fA _ _) ?_) | (refine wpList_store_row rfl 28 _ _ rfl _ _ rfl rfl _ _ hR (by kernel_rfl) (by simp only [size_fA]) (all_fA _ _) ?_))
          exact bodyPost_ret (results_cell_row2 rfl _ _ w.heap.size _ _ _ _ rfl hR.setRow Tryz.underlying28 rfl (by kernel_rfl)) rfl ⟨.inr ⟨E.out, rfl⟩, bRow hb (Nat.le_refl _) _⟩
      · have E : Hid (∀ x y z, ¬ GoodL t x y z) := Lib.hid fun x' y' z' h => by
          obtain ⟨q0, q1, q2, e, k0, k1, k2, k3⟩ := h
          rw [HL.out] at e
          simp only [List.cons.injEq, and_true] at e
          obtain ⟨rfl, rfl, rfl⟩ := e
          exact g0 _ k0
        clear g0
        go_wp2_with (first | (refine wpList_load_row rfl 26 _ rfl _ rfl _ _ (0, 0) _ hX Tryz.underlying26 rfl (by kernel_rfl) ?_) | (refine wpList_load_row rfl 26 _ rfl _ rfl _ _ (0, 0) _ hY Tryz.underlying26 rfl (by kernel_rfl) ?_) | (refine wpList_build_as rfl 28 #[] rfl (fA 33 fun _ => 0) (by kernel_rfl) ?_) | (refine wpList_build_as rfl 28 _ rfl (fA 33 (layer3 x y z)) (by kernel_rfl) ?_) | (refine wpList_store_new rfl 28 _ _ rfl _ rfl rfl (by kernel_rfl) rfl (all_fA _ _) ?_) | (refine wpList_store_row rfl 28 _ _ rfl _ _ rfl rfl _ _ hR (by kernel_rfl) (by simp only [size_fA]) (all_fA _ _) ?_))
        exact bodyPost_ret (results_cell_row2 rfl _ _ w.heap.size _ _ _ _ rfl hR.setRow Tryz.underlying28 rfl (by kernel_rfl)) rfl ⟨.inr ⟨E.out, rfl⟩, bRow hb (Nat.le_refl _) _⟩
    · have hq := nonempty_text h3
      have E : Hid (∀ x y z, ¬ GoodL t x y z) := Lib.hid fun x y z h => by
        obtain ⟨q0, q1, q2, e, _⟩ := h
        rw [HL.out] at e
        simp only [List.cons.injEq, and_true] at e
        exact h3 e.2.2.2
      clear h3 c0 c1 c2
      go_wp2_with (first | (refine wpList_build_as rfl 28 _ rfl (fA 33 fun _ => 0) (by kernel_rfl) ?_) | (refine wpList_store_row rfl 28 _ _ rfl _ _ rfl rfl _ _ hR (by kernel_rfl) (by simp only [size_fA]) (all_fA _ _) ?_))
      exact bodyPost_ret (results_cell_row2 rfl _ _ w.heap.size _ _ _ _ rfl hR.setRow Tryz.underlying28 rfl (by kernel_rfl)) rfl ⟨.inr ⟨E.out, rfl⟩, bRow hb (Nat.le_refl _) _⟩
  · have h4i : ((L.length : Int) == 4) = false := by
      rw [beq_eq_false_iff_ne]
      omega
    have E : Hid (∀ x y z, ¬ GoodL t x y z) := Lib.hid fun x y z h => by
      obtain ⟨q0, q1, q2, e, _⟩ := h
      rw [HL.out] at e
      exact h4 (by rw [e]; rfl)
    clear hcell
    go_wp2_with (first | (refine wpList_build_as rfl 28 _ rfl (fA 33 fun _ => 0) (by kernel_rfl) ?_) | (refine wpList_store_row rfl 28 _ _ rfl _ _ rfl rfl _ _ hR (by kernel_rfl) (by simp only [size_fA]) (all_fA _ _) ?_))
    exact bodyPost_ret (results_cell_row2 rfl _ _ w.heap.size _ _ _ _ rfl hR.setRow Tryz.underlying28 rfl (by kernel_rfl)) rfl ⟨.inr ⟨E.out, rfl⟩, bRow hb (Nat.le_refl _) _⟩
theorem ReadY.form {t : ByteArray} {e : Ending} (h : ReadY t e) : ∃ (x : Nat → Nat) (k : Int), e = .returned (.tuple #[.agg (fA 33 x), .int .i64 k]) := by
  rcases h with ⟨x, y, z, _, h⟩ | ⟨_, h⟩
  · exact ⟨_, 0, h⟩
  · exact ⟨_, 5, h⟩
theorem ReadY.same {t : ByteArray} {x : Nat → Nat} {k : Int} {e2 : Ending} (h1 : ReadY t (.returned (.tuple #[.agg (fA 33 x), .int .i64 k]))) (h2 : ReadY t e2) : ∃ y, e2 = .returned (.tuple #[.agg (fA 33 y), .int .i64 k]) ∧ ∀ i, i < 33 → y i = x i := by
  have hfa : ∀ {a b : Nat → Nat}, fA 33 a = fA 33 b → ∀ i, i < 33 → a i = b i := fun {a b} h i hi => by
    have h1 := get_fA_lt a hi
    rw [h, get_fA_lt b hi] at h1
    injection h1 with h1
    injection h1 with _ h1
    exact h1.symm
  rcases h1 with ⟨x', y', z', hx, h⟩ | ⟨hx, h⟩ <;> injection h with h <;> injection h with h <;>
    simp only [Array.mk.injEq, List.cons.injEq, Value.agg.injEq, Value.int.injEq, true_and, and_true] at h <;> obtain ⟨ha, rfl⟩ := h
  · rcases h2 with ⟨x2, y2, z2, hy, rfl⟩ | ⟨hy, rfl⟩
    · exact ⟨_, rfl, fun i hi => (hy.uniq hx i hi).trans (hfa ha i hi).symm⟩
    · exact absurd hx (hy x' y' z')
  · rcases h2 with ⟨x2, y2, z2, hy, rfl⟩ | ⟨hy, rfl⟩
    · exact absurd hy (hx x2 y2 z2)
    · exact ⟨_, rfl, fun i hi => (hfa ha i hi).symm⟩
end Go.Proofs.YtnfnlgmnnjgemaaGreatDoor

namespace Go.Proofs.YtnfnlgmnnjgemaaGreatDoor
open Go.RowKit
set_option maxRecDepth 100000

theorem canon_back (a : Nat) : canon .f32 (bitsOf (canon .f32 a)) = canon .f32 a := by
  cases h : canon .f32 a with
  | none => decide
  | some y =>
    obtain ⟨rfl, _⟩ := canon_eq_some h
    exact h
theorem layerOk_canon {a b : Nat → Nat} (h : ∀ i, i < 33 → canon .f32 (a i) = canon .f32 (b i)) : layerOk a = layerOk b := by
  have e1 : (allTo 16 fun i => amount (canon .f32 (rowAt a 0 i))) = allTo 16 fun i => amount (canon .f32 (rowAt b 0 i)) := allTo_congr fun i hi => by unfold rowAt; rw [h _ (by omega)]
  have e2 : (allTo 16 fun i => amount (canon .f32 (rowAt a 16 i))) = allTo 16 fun i => amount (canon .f32 (rowAt b 16 i)) := allTo_congr fun i hi => by unfold rowAt; rw [h _ (by omega)]
  unfold layerOk
  rw [e1, e2, h 32 (by omega)]
theorem hexT_no_ten (x j : Nat) : (hexT x).data.toList[j]? ≠ some 10 := by
  intro h
  have hj : j < 8 := by
    rcases Nat.lt_or_ge j 8 with h1 | h1
    · exact h1
    · rw [List.getElem?_eq_none (show (hexT x).data.toList.length ≤ j by rw [show (hexT x).data.toList.length = 8 from (Array.length_toList (xs := (hexT x).data)).trans (hexT_size x)]; exact h1)] at h; cases h
  have h1 := hexT_get x j (by rw [hexT_size]; exact hj)
  have h2 : (hexT x)[j]'(by rw [hexT_size]; exact hj) = 10 := by
    rw [Array.getElem?_toList] at h
    have h3 : (hexT x).data[j]? = some ((hexT x).data[j]'(by have := hexT_size x; simp only [ByteArray.size] at this; omega)) := Array.getElem?_eq_getElem _
    rw [h3] at h
    injection h with h
  rw [h2] at h1
  have h3 := hexB_dig (x / 16 ^ (7 - j) % 16) (Nat.mod_lt _ (by decide))
  unfold hexD at h1
  have h4 : (10 : UInt8).toNat = 10 := rfl
  omega
theorem no_ten {l : List UInt8} : (∀ j : Nat, l[j]? ≠ some 10) ↔ (10 : UInt8) ∉ l := by
  rw [List.mem_iff_getElem?]
  exact ⟨fun h ⟨j, hj⟩ => h j hj, fun h j hj => h ⟨j, hj⟩⟩
theorem joinB_no_ten : ∀ (l : List ByteArray), (∀ a ∈ l, (10 : UInt8) ∉ a.data.toList) → (10 : UInt8) ∉ (joinB l).data.toList
  | [], _ => by simp [joinB]
  | [a], h => h a (by simp)
  | a :: b :: r, h => by
    have ih := joinB_no_ten (b :: r) fun x hx => h x (by simp [hx])
    have ha := h a (by simp)
    show (10 : UInt8) ∉ (a ++ ⟨#[32]⟩ ++ joinB (b :: r)).data.toList
    simp only [ByteArray.data_append, Array.toList_append, List.mem_append]
    rintro ((h1 | h1) | h1)
    · exact ha h1
    · simp at h1
    · exact ih h1
theorem rowT_no_ten (x : Nat → Nat) (n j : Nat) : (rowT x (n + 1)).data.toList[j]? ≠ some 10 := by
  refine no_ten.2 ?_ j
  rw [rowT_joinB]
  refine joinB_no_ten _ fun a ha => no_ten.1 fun j => ?_
  unfold texts at ha
  obtain ⟨i, _, rfl⟩ := List.mem_map.1 ha
  exact hexT_no_ten _ j
/-- The text of a layer is cut into its lines. -/
theorem layer_lines (a : Nat → Nat) : cuts 10 (layerT a) = [valT (.agg (fA 16 (rowAt a 0))), valT (.agg (fA 16 (rowAt a 16))), valT (.float .f32 (a 32)), ⟨#[]⟩] := by
  have e : layerT a = valT (.agg (fA 16 (rowAt a 0))) ++ ⟨#[10]⟩ ++ (valT (.agg (fA 16 (rowAt a 16))) ++ ⟨#[10]⟩ ++ (valT (.float .f32 (a 32)) ++ ⟨#[10]⟩ ++ ⟨#[]⟩)) := by
    apply ByteArray.ext
    apply Array.toList_inj.1
    simp [layerT, ByteArray.data_append]
  rw [e, cuts_cons 10 _ _ fun j => ?_, cuts_cons 10 _ _ fun j => ?_, cuts_cons 10 _ _ fun j => ?_, cuts_last 10 _ fun j => by simp]
  · exact hexT_no_ten _ j
  · rw [valT_row _ _ fun i _ => rfl]; exact rowT_no_ten _ _ j
  · rw [valT_row _ _ fun i _ => rfl]; exact rowT_no_ten _ _ j
theorem textOf_size (a : Nat → Nat) : (textOf a).size ≤ 1048576 := by
  unfold textOf
  have h1 := valT_size_row (rowAt a 0)
  have h2 := valT_size_row (rowAt a 16)
  have h3 := valT_size (a 32)
  have e : (⟨#[10]⟩ : ByteArray).size = 1 := rfl
  split
  · unfold layerT
    simp only [ByteArray.size_append, e]
    omega
  · decide
/-- What is read is the layer. -/
theorem read_layer {a : Nat → Nat} (ha : ∀ i, i < 33 → bitsOf (canon .f32 (a i)) < 4294967296) (hok : layerOk a = true) {e : Ending} (h : ReadY (textOf a) e) : ∃ y, e = .returned (.tuple #[.agg (fA 33 y), .int .i64 0]) ∧ ∀ i, i < 33 → canon .f32 (y i) = canon .f32 (a i) := by
  have et : textOf a = layerT a := by unfold textOf; rw [hok]; rfl
  rw [et] at h
  have key : ∀ i, i < 33 → canon .f32 (layer3 (fun i => bitsOf (canon .f32 (rowAt a 0 i))) (fun i => bitsOf (canon .f32 (rowAt a 16 i))) (bitsOf (canon .f32 (a 32))) i) = canon .f32 (a i) := by
    intro i hi
    by_cases h1 : i < 16
    · simp only [layer3, h1, if_true]
      rw [canon_back, rowAt, Nat.zero_add]
    · by_cases h2 : i < 32
      · simp only [layer3, h1, if_false, h2, if_true]
        rw [canon_back, rowAt, show 16 + (i - 16) = i by omega]
      · simp only [layer3, h1, if_false, h2]
        rw [canon_back, show i = 32 by omega]
  have hg : GoodL (layerT a) (fun i => bitsOf (canon .f32 (rowAt a 0 i))) (fun i => bitsOf (canon .f32 (rowAt a 16 i))) (bitsOf (canon .f32 (a 32))) := by
    refine ⟨_, _, _, layer_lines a, ?_, ?_, ⟨ha 32 (by omega), rfl, bits_idem _⟩, ?_⟩
    · rw [valT_row _ _ fun i _ => rfl]
      exact good_rowT (rowAt a 0) fun i hi => ha _ (by omega)
    · rw [valT_row _ _ fun i _ => rfl]
      exact good_rowT (rowAt a 16) fun i hi => ha _ (by omega)
    · rw [layerOk_canon key]; exact hok
  rcases h with ⟨x, y, z, hx, rfl⟩ | ⟨hn, _⟩
  · exact ⟨_, rfl, fun i hi => by rw [hx.uniq hg i hi]; exact key i hi⟩
  · exact absurd hg (hn _ _ _)
end Go.Proofs.YtnfnlgmnnjgemaaGreatDoor
