/- The reading of a curve, as the reference does it. -/
import Derived.Test.YtbdbeaebeedakaaDoorHK
import Derived.Test.YtbdbeaebeedakaaDoorHI
namespace Go.Proofs.YtbdbeaebeedakaaDoor
open Go.RowKit
set_option maxRecDepth 100000

/-- A text that is a number's. -/
def Num8 (t : ByteArray) (x : Nat) : Prop := x < 4294967296 ∧ t = hexT x ∧ bitsOf (canon .f32 x) = x
/-- Floats lie in a slice of the call's own. -/
def floats (n : Nat) (x : Nat → Nat) : List Value := (List.range n).map fun i => Value.float .f32 (x i)
theorem floats_succ (n : Nat) (x : Nat → Nat) : floats (n + 1) x = floats n x ++ [.float .f32 (x n)] := by simp [floats, List.range_succ]
theorem floats_congr {n : Nat} {x y : Nat → Nat} (h : ∀ i, i < n → x i = y i) : floats n x = floats n y := by
  unfold floats
  apply List.map_congr_left
  intro i hi
  rw [h i (by simpa using hi)]
theorem l01Numbers_any (l : List ByteArray) (g cap : Nat) (w : World) (hlen : l.length ≤ 1048577) (hg0 : g < w.heap.size) (hc0 : ∀ (j : Nat) y, l[j]? = some y → w.cell? ⟨g, j, none⟩ = some (.string y)) :
    Calls Tryd.prog 56 #[.slice (some ⟨g, 0, none⟩) l.length cap] w fun e w' =>
      ((∃ (x : Nat → Nat) (v : Value), e = .returned (.tuple #[v, .bool true]) ∧ w'.ownsRow w.heap.size 22 1 v l.length (floats l.length x) ∧ ∀ i t, l[i]? = some t → Num8 t (x i)) ∨
       (∃ v, e = .returned (.tuple #[v, .bool false]) ∧ ∃ t ∈ l, ∀ x, ¬ Num8 t x)) ∧ Below w.heap.size w w' := by
  obtain ⟨i0, hi, hz0, hz1, hz2⟩ := info_three (P := Tryd.prog) (e := 22) (z := .float .f32 0) (s := 1) (b := 4) (by kernel_rfl)
  have hown0 : (w.alloc (.cells #[] 22)).ownsRow w.heap.size 22 1 (.slice (some ⟨w.heap.size, 0, none⟩) 0 0) 0 (floats 0 fun _ => 0) :=
    ⟨rfl, Or.inr ⟨w.heap.size, 0, #[], rfl, by omega, by have := (Blk.new w 22 #[]); simpa [Blk] using this, Nat.le_refl _, Nat.zero_le _, rfl, rfl⟩⟩
  have hb0 : Below w.heap.size w (w.alloc (.cells #[] 22)) := (Below.refl w.heap.size w).alloc (Nat.le_refl _) _
  obtain ⟨n, hn⟩ : ∃ n, n = l.length := ⟨_, rfl⟩
  rw [← hn] at hlen ⊢
  have Hn := Lib.hid hn
  have Hc := Lib.hid hc0
  clear hn hc0
  go_enter Tryd.func56, Tryd.ntmps56
  go_wp2
  go_loopw [4, 5] (fun v i wr => ∃ (k : Nat) (x : Nat → Nat) (ao : Option Addr) (cv : Nat), k ≤ n ∧ i = .int .i64 k ∧ v = .slice ao k cv ∧ wr.ownsRow w.heap.size 22 1 v k (floats k x) ∧ Below w.heap.size w wr ∧ Hid (∀ i t, i < k → l[i]? = some t → Num8 t (x i))) (fun _ i _ => n - (intOf i).toNat)
  case atStart => exact ⟨0, fun _ => 0, _, 0, by omega, rfl, rfl, hown0, hb0, fun i t h _ => by omega⟩
  case round =>
    clear hown0 hb0
    obtain ⟨k, x, ao, cv, hk, rfl, rfl, hown, hb, hh⟩ := hrel
    have hsize := hb.size
    by_cases hlt : k < n
    · obtain ⟨t, ht⟩ : ∃ t, l[k]? = some t := ⟨l[k]'(by have := Hn.out; omega), List.getElem?_eq_getElem _⟩
      have c1 : wr.cell? ⟨g, k, none⟩ = some (.string t) := by rw [hb.cell (p := ⟨g, k, none⟩) hg0]; exact Hc.out k t ht
      have Ht := Lib.hid ht
      clear ht
      go_wp2_with fail
      refine (l01Read_any t _).mono ?_
      rintro e w1 ⟨h, rfl⟩
      rcases h with ⟨y, hy, hty, hby, rfl⟩ | ⟨hno, a, rfl⟩
      · have HN : Hid (∀ i t', i < k + 1 → l[i]? = some t' → Num8 t' (upd x k y i)) := Lib.hid fun i t' h1 h2 => by
          by_cases e : i = k
          · subst e
            rw [Ht.out] at h2
            injection h2 with h2
            subst h2
            rw [upd_same]
            exact ⟨hy, hty, hby⟩
          · rw [upd_other _ _ e]
            exact hh.out i t' (by omega) h2
        clear hh hty hby
        go_wp2_with (first
          | (at_builtin; refine wpList_append_own _ rfl _ _ 84 rfl w.heap.size 22 i0 (.float .f32 0) 1 4 Tryd.underlying84 hi hz0 hz1 hz2 rfl (by decide) _ _ _ rfl (hown.alloc _) ⟨w1.heap.size, 0, none⟩ 1 1 [.float .f32 y] rfl rfl (cell_one_new _ _ _) (fun x hx => by simp at hx; subst hx; rfl) (by unfold maxLen; omega) (by omega) (by simp; omega) ?_; intro v' w3 hown' hgrow3 hnil3))
        go_roundw
        case rel =>
          obtain ⟨g3, cap3, hv3⟩ : ∃ g3 cap3, v' = .slice (some ⟨g3, 0, none⟩) (k + 1) cap3 := by
            rcases hown'.2 with ⟨_, h⟩ | ⟨g3, cap3, _, h, _⟩
            · omega
            · exact ⟨g3, cap3, h⟩
          have hfl : floats (k + 1) (upd x k y) = floats k x ++ [.float .f32 y] := by
            rw [floats_succ, upd_same, floats_congr (y := x) fun i hi => upd_other _ _ (by omega)]
          exact ⟨k + 1, upd x k y, some ⟨g3, 0, none⟩, cap3, by omega, by go_num, hv3, by rw [hfl]; exact hown', (hb.alloc hsize _).grown hgrow3 (by simp; omega) (fun q hq => (hown.lt q hq).1), HN⟩
        case measure => simp [intOf]; omega
      · have E : Hid (∃ t ∈ l, ∀ x, ¬ Num8 t x) := Lib.hid ⟨t, List.mem_of_getElem? Ht.out, fun x h => hno x h.1 h.2.2 h.2.1⟩
        clear hno hh
        go_wp2
        go_ret2
        exact ⟨.inr ⟨_, rfl, E.out⟩, hb.alloc hsize _⟩
    · obtain rfl : k = n := by omega
      go_wp2
      go_ret2
      exact ⟨.inl ⟨x, _, rfl, hown, fun i t h => hh.out i t (by
        rcases Nat.lt_or_ge i l.length with h1 | h1
        · rw [Hn.out]; exact h1
        · rw [List.getElem?_eq_none h1] at h; cases h) h⟩, hb⟩
end Go.Proofs.YtbdbeaebeedakaaDoor
