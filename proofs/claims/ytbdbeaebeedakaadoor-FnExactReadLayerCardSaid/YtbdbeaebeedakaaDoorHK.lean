/- A text, cut at a byte. -/
import Derived.Test.YtbdbeaebeedakaaDoorHF
import Derived.Lib.Split
import Derived.Lib.IndexBytes
namespace Go.Proofs.YtbdbeaebeedakaaDoor
open Go.RowKit
set_option maxRecDepth 100000

/-- The pieces between the bytes 'c'. -/
def cuts (c : UInt8) (t : ByteArray) : List ByteArray := Lib.splitB ⟨#[c]⟩ 0 (Lib.countB t ⟨#[c]⟩) t
theorem byte_hit {c : UInt8} : ∀ {l : List UInt8} {n : Nat}, l[n]? = some c → (∀ m, m < n → l[m]? ≠ some c) → Lib.indexByte l c = n
  | [], n, h, _ => by cases h
  | b :: l, 0, h, _ => by
    simp only [List.getElem?_cons_zero, Option.some.injEq] at h
    unfold Lib.indexByte
    rw [if_pos (by rw [h]; exact beq_self_eq_true _)]
    rfl
  | b :: l, n + 1, h, hn => by
    have h0 : b ≠ c := fun e => hn 0 (by omega) (by rw [e]; rfl)
    have ih := byte_hit (l := l) (n := n) (by simpa using h) (fun m hm => by simpa using hn (m + 1) (by omega))
    unfold Lib.indexByte
    rw [if_neg (by simpa using h0), ih, if_neg (by first | (simp; done) | (simp; omega))]
    first | rfl | omega
theorem byte_miss {c : UInt8} : ∀ {l : List UInt8}, (∀ m : Nat, l[m]? ≠ some c) → Lib.indexByte l c = -1
  | [], _ => rfl
  | b :: l, h => by
    have h0 : b ≠ c := fun e => h 0 (by rw [e]; rfl)
    have ih := byte_miss (l := l) (fun m => by simpa using h (m + 1))
    unfold Lib.indexByte
    rw [if_neg (by simpa using h0), ih]
    rfl
theorem ind_one (s : ByteArray) (c : UInt8) : Lib.indexB s ⟨#[c]⟩ = Lib.indexByte s.data.toList c := Lib.index_one s.data.toList c
theorem rest_get (t : ByteArray) (a m : Nat) : (t.extract a t.size).data.toList[m]? = t.data.toList[a + m]? := by
  rw [Lib.extract_to_end, List.getElem?_drop]
theorem cuts_hit {t : ByteArray} {c : UInt8} {a i : Nat} (hai : a ≤ i) (hi : i < t.size) (hc : t.data.toList[i]? = some c) (hn : ∀ j, a ≤ j → j < i → t.data.toList[j]? ≠ some c) :
    cuts c (t.extract a t.size) = t.extract a i :: cuts c (t.extract (i + 1) t.size) := by
  have h1 : Lib.indexB (t.extract a t.size) ⟨#[c]⟩ = (i - a : Nat) := by
    rw [ind_one]
    refine byte_hit ?_ fun m hm => ?_
    · rw [rest_get, show a + (i - a) = i by omega]; exact hc
    · rw [rest_get]; exact hn _ (by omega) (by omega)
  have hsz : (t.extract a t.size).size = t.size - a := by rw [ByteArray.size_extract]; omega
  have e1 : (t.extract a t.size).extract (i - a + 1) (t.extract a t.size).size = t.extract (i + 1) t.size := by
    apply ByteArray.ext
    apply Array.toList_inj.1
    rw [Lib.extract_to_end, Lib.extract_to_end, Lib.extract_to_end, List.drop_drop]
    congr 1
    omega
  have e2 : (t.extract a t.size).extract 0 (i - a + 0) = t.extract a i := by
    apply ByteArray.ext
    apply Array.toList_inj.1
    rw [Lib.extract_from_zero, Lib.extract_to_end, Lib.extract_data]
    rfl
  unfold cuts
  have e0 : (⟨#[c]⟩ : ByteArray).size = 1 := rfl
  rw [Lib.countB_hit _ _ (i - a) (by rw [e0]; exact Nat.le_refl _) h1, Nat.add_comm 1, Lib.splitB_hit _ _ _ _ (i - a) h1, e0, e1, e2]
theorem cuts_miss {t : ByteArray} {c : UInt8} {a : Nat} (hn : ∀ j, a ≤ j → j < t.size → t.data.toList[j]? ≠ some c) : cuts c (t.extract a t.size) = [t.extract a t.size] := by
  have h1 : Lib.indexB (t.extract a t.size) ⟨#[c]⟩ = -1 := by
    rw [ind_one]
    refine byte_miss fun m => ?_
    rw [rest_get]
    by_cases h : a + m < t.size
    · exact hn _ (by omega) h
    · rw [List.getElem?_eq_none (by rw [← Lib.size_eq]; omega)]
      intro e; cases e
  unfold cuts
  rw [Lib.splitB_miss _ _ _ _ h1]
theorem rest_zero (t : ByteArray) : t.extract 0 t.size = t := by
  apply ByteArray.ext
  apply Array.toList_inj.1
  rw [Lib.extract_to_end]
  rfl
/-- Pieces lie in a slice of the call's own. -/
def OwnsT (w : World) (base : Nat) (v : Value) (l : List ByteArray) : Prop := w.ownsRow base 9 1 v l.length (l.map Value.string)
theorem l01Split_any (t : ByteArray) (c : UInt8) (hmax : t.size ≤ 1048576) (w : World) : Calls Tryd.prog 40 #[.string t, .int .u8 c.toNat] w fun e w' => (∃ v, e = .returned v ∧ OwnsT w' w.heap.size v (cuts c t)) ∧ Below w.heap.size w w' := by
  obtain ⟨i0, hi, hz0, hz1, hz2⟩ := info_three (P := Tryd.prog) (e := 9) (z := .string ByteArray.empty) (s := 1) (b := 16) (by kernel_rfl)
  have hown0 : (w.alloc (.cells #[] 9)).ownsRow w.heap.size 9 1 (.slice (some ⟨w.heap.size, 0, none⟩) 0 0) 0 (([] : List ByteArray).map Value.string) :=
    ⟨rfl, Or.inr ⟨w.heap.size, 0, #[], rfl, by omega, by have := (Blk.new w 9 #[]); simpa [Blk] using this, Nat.le_refl _, Nat.zero_le _, rfl, rfl⟩⟩
  have hb0 : Below w.heap.size w (w.alloc (.cells #[] 9)) := (Below.refl w.heap.size w).alloc (Nat.le_refl _) _
  go_enter Tryd.func40, Tryd.ntmps40
  go_wp2
  go_loopw [5, 6, 7] (fun v f i wr => ∃ (a k : Nat) (l : List ByteArray) (ao : Option Addr) (cv : Nat), a ≤ k ∧ k ≤ t.size ∧ l.length ≤ a ∧ f = .int .i64 a ∧ i = .int .i64 k ∧ v = .slice ao l.length cv ∧ wr.ownsRow w.heap.size 9 1 v l.length (l.map Value.string) ∧ Below w.heap.size w wr ∧ Hid (cuts c t = l ++ cuts c (t.extract a t.size) ∧ ∀ j, a ≤ j → j < k → t.data.toList[j]? ≠ some c)) (fun _ _ i _ => t.size - (intOf i).toNat)
  case atStart => exact ⟨0, 0, [], _, 0, by omega, by omega, by decide, rfl, rfl, rfl, hown0, hb0, by rw [rest_zero]; rfl, fun j _ h => by omega⟩
  case round =>
    clear hown0 hb0
    obtain ⟨a, k, l, ao, cv, hak, hk, hla, rfl, rfl, rfl, hown, hb, hh⟩ := hrel
    have hsize := hb.size
    by_cases hlt : k < t.size
    · obtain ⟨d, hd⟩ : ∃ d, d = t[k]'hlt := ⟨_, rfl⟩
      have hx2 : ∀ h' : k < t.size, (t[k]'h') = d := fun _ => hd.symm
      have hdl : t.data.toList[k]? = some d := by
        rw [hd, Array.getElem?_toList]
        exact Array.getElem?_eq_getElem hlt
      by_cases hdc : d = c
      · have hq : ((d.toNat : Int) == (c.toNat : Int)) = true := by rw [hdc]; exact beq_self_eq_true _
        have HN : Hid (cuts c t = (l ++ [t.extract a k]) ++ cuts c (t.extract (k + 1) t.size) ∧ ∀ j, k + 1 ≤ j → j < k + 1 → t.data.toList[j]? ≠ some c) := Lib.hid ⟨by
          rw [hh.out.1, cuts_hit hak hlt (by rw [hdl, hdc]) hh.out.2, List.append_assoc]; rfl, fun j h1 h2 => by omega⟩
        clear hd hdl hdc hh
        go_wp2_with (first
          | (at_builtin; refine wpList_append_own _ rfl _ _ 53 rfl w.heap.size 9 i0 (.string ByteArray.empty) 1 16 Tryd.underlying53 hi hz0 hz1 hz2 rfl (by decide) _ _ _ rfl (hown.alloc _) ⟨wr.heap.size, 0, none⟩ 1 1 [.string (t.extract a k)] rfl rfl (cell_one_new _ _ _) (fun x hx => by simp at hx; subst hx; rfl) (by unfold maxLen; omega) (by omega) (by simp; omega) ?_; intro v' w3 hown' hgrow3 hnil3))
        go_roundw
        case rel =>
          obtain ⟨g3, cap3, hv3⟩ : ∃ g3 cap3, v' = .slice (some ⟨g3, 0, none⟩) (l.length + 1) cap3 := by
            rcases hown'.2 with ⟨_, h⟩ | ⟨g3, cap3, _, h, _⟩
            · omega
            · exact ⟨g3, cap3, h⟩
          have hll : (l ++ [t.extract a k]).length = l.length + 1 := by simp
          exact ⟨k + 1, k + 1, l ++ [t.extract a k], some ⟨g3, 0, none⟩, cap3, Nat.le_refl _, by omega, by omega, by go_num, by go_num, by rw [hll]; exact hv3, by rw [hll, List.map_append]; exact hown', (hb.alloc hsize _).grown hgrow3 (by simp; omega) (fun q hq => (hown.lt q hq).1), HN⟩
        case measure => simp [intOf]; omega
      · have hq : ((d.toNat : Int) == (c.toNat : Int)) = false := by
          rw [beq_eq_false_iff_ne]
          intro e
          exact hdc (UInt8.toNat_inj.1 (by omega))
        have HN : Hid (cuts c t = l ++ cuts c (t.extract a t.size) ∧ ∀ j, a ≤ j → j < k + 1 → t.data.toList[j]? ≠ some c) := Lib.hid ⟨hh.out.1, fun j h1 h2 => by
          by_cases e : j = k
          · subst e; rw [hdl]; intro e2; injection e2 with e2; exact hdc e2
          · exact hh.out.2 j h1 (by omega)⟩
        clear hd hdl hdc hh
        go_wp2_with fail
        go_roundw
        case rel => exact ⟨a, k + 1, l, ao, cv, by omega, by omega, hla, rfl, by go_num, rfl, hown, hb, HN⟩
        case measure => simp [intOf]; omega
    · obtain rfl : k = t.size := by omega
      have HN : Hid (cuts c t = l ++ [t.extract a t.size]) := Lib.hid (by rw [hh.out.1, cuts_miss hh.out.2])
      clear hh
      go_wp2_with (first
        | (at_builtin; refine wpList_append_own _ rfl _ _ 53 rfl w.heap.size 9 i0 (.string ByteArray.empty) 1 16 Tryd.underlying53 hi hz0 hz1 hz2 rfl (by decide) _ _ _ rfl (hown.alloc _) ⟨wr.heap.size, 0, none⟩ 1 1 [.string (t.extract a t.size)] rfl rfl (cell_one_new _ _ _) (fun x hx => by simp at hx; subst hx; rfl) (by unfold maxLen; omega) (by omega) (by simp; omega) ?_; intro v' w3 hown' hgrow3 hnil3))
      go_wp2
      go_ret
      refine ⟨⟨_, rfl, ?_⟩, (hb.alloc hsize _).grown hgrow3 (by simp; omega) (fun q hq => (hown.lt q hq).1)⟩
      unfold OwnsT
      rw [HN.out, show (l ++ [t.extract a t.size]).length = l.length + 1 by simp, List.map_append]
      exact hown'
end Go.Proofs.YtbdbeaebeedakaaDoor
