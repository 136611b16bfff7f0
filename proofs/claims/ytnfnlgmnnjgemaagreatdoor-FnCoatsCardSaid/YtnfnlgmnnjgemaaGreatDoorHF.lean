/- The texts of curves, as the program writes them. -/
import Derived.Test.YtnfnlgmnnjgemaaGreatDoorHE
import Derived.Maps.AppendAt
import Derived.BigCall
namespace Go.Proofs.YtnfnlgmnnjgemaaGreatDoor
open Go.RowKit
set_option maxRecDepth 100000

theorem rowT_list (x : Nat → Nat) (n : Nat) : (rowT x (n + 1)).data.toList = (hexT (x 0)).data.toList ++ Lib.joinTail [32] ((List.range n).map fun i => (hexT (x (i + 1))).data.toList) := by
  induction n with
  | zero =>
    show ((⟨#[]⟩ : ByteArray) ++ hexT (x 0)).data.toList = _
    simp [Lib.joinTail]
  | succ n ih =>
    rw [rowT_succ x (n + 1) (by omega), List.range_succ, List.map_append]
    simp only [ByteArray.data_append, Array.toList_append, ih, Lib.joinTail, List.map_append, List.flatten_append, List.append_assoc]
    simp
/-- The texts of the first numbers. -/
def texts (x : Nat → Nat) (k : Nat) : List ByteArray := (List.range k).map fun i => hexT (x i)
theorem texts_len (x : Nat → Nat) (k : Nat) : (texts x k).length = k := by simp [texts]
theorem texts_succ (x : Nat → Nat) (k : Nat) : texts x (k + 1) = texts x k ++ [hexT (x k)] := by simp [texts, List.range_succ]
theorem texts_join (x : Nat → Nat) (n : Nat) : Lib.join ((texts x (n + 1)).map (·.data.toList)) [32] = (rowT x (n + 1)).data.toList := by
  rw [rowT_list, texts, List.range_succ_eq_map]
  simp only [List.map_cons, List.map_map]
  rw [Lib.join_cons]
  rfl
theorem owns_below {w w' : World} {base : Nat} {e : TypeId} {s : Nat} {v : Value} {n : Nat} {xs : List Value} (h : w.ownsRow base e s v n xs) (hb : Below w.heap.size w w') : w'.ownsRow base e s v n xs :=
  ⟨h.1, h.2.imp id fun ⟨g, cap, cur, a, b, c, d⟩ => ⟨g, cap, cur, a, b, (hb.block g (by
    rcases Nat.lt_or_ge g w.heap.size with h | h
    · exact h
    · rw [Array.getElem?_eq_none h] at c; cases c)).trans c, d⟩⟩
theorem info_three {P : Program} {e : TypeId} {z : Value} {s b : Nat} (h : (P.info? e).map (fun i => (i.zero, i.size, i.bytes)) = some (some z, s, b)) : ∃ i, P.info? e = some i ∧ i.zero = some z ∧ i.size = s ∧ i.bytes = b := by
  cases hq : P.info? e with
  | none => simp [hq] at h
  | some i =>
    simp only [hq, Option.map_some, Option.some.injEq, Prod.mk.injEq] at h
    exact ⟨i, rfl, h⟩
theorem join16 (bk cap : Nat) (x : Nat → Nat) (w : World) (hc : ∀ (j : Nat) y, (texts x 16)[j]? = some y → w.cell? ⟨bk, 0 + j, none⟩ = some (.string y)) (hb : bk < w.heap.size) (hcap : 16 ≤ cap) :
    Calls Tryz.prog 71 #[.slice (some ⟨bk, 0, none⟩) 16 cap, .string { data := #[32] }] w fun e w' => e = .returned (.string (rowT x 16)) ∧ Below w.heap.size w w' := by
  have h32 : (⟨#[32]⟩ : ByteArray).data.toList = [32] := rfl
  have hj : Lib.join ((texts x 16).map (·.data.toList)) (⟨#[32]⟩ : ByteArray).data.toList = (rowT x 16).data.toList := by rw [h32]; exact texts_join x 15
  have h := Any.strings_Join Tryz.lays156 Tryz.Builder_Extra_156 bk 0 cap (texts x 16) ⟨#[32]⟩ w hc hb (by rw [texts_len]; omega) (by rw [texts_len]; exact hcap) (by
    rw [hj]
    have := rowT_size x 16
    have e : (rowT x 16).data.toList.length = (rowT x 16).size := Array.length_toList
    omega)
  rw [hj, texts_len] at h
  exact h
theorem iCurveText_all (c x : Nat → Nat) (w : World) (ht0 : Tab w) (hx : ∀ i, i < 16 → bitsOf (canon .f32 (c i)) = x i) (hl : ∀ i, i < 16 → x i < 4294967296) : Calls Tryz.prog 36 #[.agg (fA 16 c)] w fun e w' => e = .returned (.string (rowT x 16)) ∧ Below w.heap.size w w' := by
  have Hx := Lib.hid hx
  have Hl := Lib.hid hl
  have Ht := Lib.hid ht0
  clear hx hl ht0
  have hlt0 : 8 < w.heap.size := Ht.out.lt
  obtain ⟨i0, hi, hz0, hz1, hz2⟩ := info_three (P := Tryz.prog) (e := 9) (z := .string ByteArray.empty) (s := 1) (b := 16) (by kernel_rfl)
  go_enter Tryz.func36, Tryz.ntmps36
  have hZ : Blk (w.alloc (.cells (fA 16 c) 26)) w.heap.size 26 (fA 16 c) := Blk.new _ _ _
  have hZ2 := hZ.alloc (.cells #[] 9)
  have hb0 : Below w.heap.size w ((w.alloc (.cells (fA 16 c) 26)).alloc (.cells #[] 9)) := ((Below.refl w.heap.size w).alloc (Nat.le_refl _) _).alloc (by simp) _
  have hown0 : ((w.alloc (.cells (fA 16 c) 26)).alloc (.cells #[] 9)).ownsRow w.heap.size 9 1 (.slice (some ⟨w.heap.size + 1, 0, none⟩) 0 0) 0 ((texts x 0).map Value.string) :=
    ⟨rfl, Or.inr ⟨w.heap.size + 1, 0, #[], rfl, by omega, by have := (Blk.new (w.alloc (.cells (fA 16 c) 26)) 9 #[]); simpa [Blk] using this, Nat.le_refl _, Nat.zero_le _, rfl, rfl⟩⟩
  go_wp2_with (refine wpList_load_row rfl 26 _ rfl _ rfl _ _ (0, 0) _ hZ2 Tryz.underlying26 rfl (by kernel_rfl) ?_)
  clear hZ
  go_loopw [3, 8] (fun v i wr => ∃ (k : Nat) (ao : Option Addr) (cv : Nat), k ≤ 16 ∧ i = .int .i64 k ∧ v = .slice ao k cv ∧ wr.ownsRow w.heap.size 9 1 v k ((texts x k).map Value.string) ∧ Below w.heap.size w wr) (fun _ i _ => 16 - (intOf i).toNat)
  case atStart => exact ⟨0, _, 0, by omega, rfl, rfl, hown0, hb0⟩
  case round =>
    clear hown0 hb0 hZ2
    obtain ⟨k, ao, cv, hk, rfl, rfl, hown, hb⟩ := hrel
    have hsize := hb.size
    by_cases hlt : k < 16
    · have hix := fun w => run_index_fA (P := Tryz.prog) w 26 24 16 c k Tryz.underlying26 Tryz.underlying24 (by kernel_rfl)
      have hlw : 8 < wr.heap.size := Nat.lt_of_lt_of_le hlt0 hsize
      go_wp2_with fail
      refine (iNumberText_all (c k) (x k) wr (Ht.out.below hb hlt0) (Hx.out k hlt) (Hl.out k hlt)).mono ?_
      rintro e w1 ⟨rfl, hb1⟩
      have hown1 := owns_below hown hb1
      have hb := bCall hb hb1 hsize
      have hsize := hb.size
      clear hown hb1
      go_wp2_with (first
        | (at_builtin; refine wpList_append_own _ rfl _ _ 63 rfl w.heap.size 9 i0 (.string ByteArray.empty) 1 16 Tryz.underlying63 hi hz0 hz1 hz2 rfl (by decide) _ _ _ rfl (hown1.alloc _) ⟨w1.heap.size, 0, none⟩ 1 1 [.string (hexT (x k))] rfl rfl (cell_one_new _ _ _) (fun x hx => by simp at hx; subst hx; rfl) (by unfold maxLen; omega) (by omega) (by simp; omega) ?_; intro v' w3 hown' hgrow3 hnil3))
      go_roundw
      case rel =>
        obtain ⟨g3, cap3, hv3⟩ : ∃ g3 cap3, v' = .slice (some ⟨g3, 0, none⟩) (k + 1) cap3 := by
          rcases hown'.2 with ⟨_, h⟩ | ⟨g3, cap3, _, h, _⟩
          · omega
          · exact ⟨g3, cap3, h⟩
        exact ⟨k + 1, some ⟨g3, 0, none⟩, cap3, by omega, by go_num, hv3, by rw [texts_succ, List.map_append]; exact hown', (hb.alloc hsize _).grown hgrow3 (by simp; omega) (fun q hq => (hown1.lt q hq).1)⟩
      case measure => simp [intOf]; omega
    · obtain rfl : k = 16 := by omega
      obtain ⟨g3, cap3, cur, hv3, hg3, hblk, hcap, _, hcur, htk⟩ : ∃ g cap cur, Value.slice ao 16 cv = .slice (some ⟨g, 0, none⟩) 16 cap ∧ w.heap.size ≤ g ∧ wr.heap[g]? = some (.cells cur 9 (0, 0)) ∧ 16 ≤ cap ∧ cap ≤ maxLen ∧ cur.size = cap * 1 ∧ cur.toList.take (16 * 1) = (texts x 16).map Value.string := by
        rcases hown.2 with ⟨_, h⟩ | h
        · omega
        · exact h
      injection hv3 with e1 e2 e3
      subst e1 e3
      have hjoin := join16 g3 cv x wr (fun j y hj => by
        have hlen := texts_len x 16
        have hj16 : j < 16 := by
          rcases Nat.lt_or_ge j 16 with h | h
          · exact h
          · rw [List.getElem?_eq_none (by omega)] at hj; cases hj
        rw [Nat.zero_add, cell_of_row wr g3 j cur 9 (0, 0) hblk]
        have h1 : (cur.toList.take (16 * 1))[j]? = some (.string y) := by rw [htk, List.getElem?_map, hj]; rfl
        rw [List.getElem?_take_of_lt (by omega)] at h1
        simpa using h1) (by
          rcases Nat.lt_or_ge g3 wr.heap.size with h | h
          · exact h
          · rw [Array.getElem?_eq_none h] at hblk; cases hblk) hcap
      go_wp2_with fail
      refine hjoin.mono ?_
      rintro e w1 ⟨rfl, hb1⟩
      have hb := bCall hb hb1 hsize
      go_wp2
      go_ret
      exact ⟨rfl, hb⟩
end Go.Proofs.YtnfnlgmnnjgemaaGreatDoor
