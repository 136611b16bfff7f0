/- The text of a curve reads back: plain. -/
import Derived.Test.YtnfnlgmnnjgemaaGreatDoorHN
namespace Go.Proofs.YtnfnlgmnnjgemaaGreatDoor
open Go.RowKit
set_option maxRecDepth 100000

theorem extract_list (s : ByteArray) (a b : Nat) : (s.extract a b).data.toList = (s.data.toList.drop a).take (b - a) := Lib.extract_data s a b
theorem cuts_last (c : UInt8) (A : ByteArray) (hA : ∀ j : Nat, A.data.toList[j]? ≠ some c) : cuts c A = [A] := by
  have h := cuts_miss (t := A) (c := c) (a := 0) fun j _ _ => hA j
  rwa [rest_zero] at h
theorem cuts_cons (c : UInt8) (A B : ByteArray) (hA : ∀ j : Nat, A.data.toList[j]? ≠ some c) : cuts c (A ++ ⟨#[c]⟩ ++ B) = A :: cuts c B := by
  have hl : (A ++ ⟨#[c]⟩ ++ B).data.toList = A.data.toList ++ c :: B.data.toList := by
    simp [ByteArray.data_append]
  have hsz : (A ++ ⟨#[c]⟩ ++ B).size = A.size + 1 + B.size := by
    simp only [ByteArray.size_append]
    rfl
  have hAs : A.data.toList.length = A.size := Array.length_toList
  have hBs : B.data.toList.length = B.size := Array.length_toList
  have h := cuts_hit (t := A ++ ⟨#[c]⟩ ++ B) (c := c) (a := 0) (i := A.size) (Nat.zero_le _) (by omega)
    (by rw [hl, List.getElem?_append_right (by omega), hAs, Nat.sub_self]; rfl)
    (fun j _ hj => by rw [hl, List.getElem?_append_left (by omega)]; exact hA j)
  rw [rest_zero] at h
  rw [h]
  have e1 : (A ++ ⟨#[c]⟩ ++ B).extract 0 A.size = A := by
    apply ByteArray.ext
    apply Array.toList_inj.1
    rw [Lib.extract_from_zero, hl, List.take_append_of_le_length (by omega), List.take_of_length_le (by omega)]
  have e2 : (A ++ ⟨#[c]⟩ ++ B).extract (A.size + 1) (A ++ ⟨#[c]⟩ ++ B).size = B := by
    apply ByteArray.ext
    apply Array.toList_inj.1
    rw [Lib.extract_to_end, hl, List.drop_append, hAs, List.drop_eq_nil_of_le (by omega), show A.size + 1 - A.size = 1 by omega]
    rfl
  rw [e1, e2]
/-- Texts, one behind the other, a blank between two. -/
def joinB : List ByteArray → ByteArray
  | [] => ⟨#[]⟩
  | [a] => a
  | a :: b :: r => a ++ ⟨#[32]⟩ ++ joinB (b :: r)
theorem cuts_join : ∀ (l : List ByteArray), l ≠ [] → (∀ a ∈ l, ∀ j : Nat, a.data.toList[j]? ≠ some 32) → cuts 32 (joinB l) = l
  | [], h, _ => absurd rfl h
  | [a], _, h => cuts_last 32 a (h a (by simp))
  | a :: b :: r, _, h => by
    show cuts 32 (a ++ ⟨#[32]⟩ ++ joinB (b :: r)) = _
    rw [cuts_cons 32 a _ (h a (by simp)), cuts_join (b :: r) (by simp) fun x hx => h x (by simp [hx])]
theorem joinB_list : ∀ (l : List ByteArray), (joinB l).data.toList = Lib.join (l.map (·.data.toList)) [32]
  | [] => rfl
  | [a] => by
    show a.data.toList = Lib.join [a.data.toList] [32]
    rw [Lib.join_one]
  | a :: b :: r => by
    show (a ++ ⟨#[32]⟩ ++ joinB (b :: r)).data.toList = _
    have ih := joinB_list (b :: r)
    simp only [List.map_cons] at ih ⊢
    rw [Lib.join_cons] at ih ⊢
    simp only [ByteArray.data_append, Array.toList_append, ih, Lib.joinTail, List.map_cons, List.flatten_cons, List.append_assoc]
theorem rowT_joinB (x : Nat → Nat) (n : Nat) : rowT x (n + 1) = joinB (texts x (n + 1)) := by
  apply ByteArray.ext
  apply Array.toList_inj.1
  rw [joinB_list, texts_join]
theorem hexT_no_blank (x j : Nat) : (hexT x).data.toList[j]? ≠ some 32 := by
  intro h
  have hj : j < 8 := by
    rcases Nat.lt_or_ge j 8 with h1 | h1
    · exact h1
    · rw [List.getElem?_eq_none (show (hexT x).data.toList.length ≤ j by rw [show (hexT x).data.toList.length = 8 from (Array.length_toList (xs := (hexT x).data)).trans (hexT_size x)]; exact h1)] at h; cases h
  have h1 := hexT_get x j (by rw [hexT_size]; exact hj)
  have h2 : (hexT x)[j]'(by rw [hexT_size]; exact hj) = 32 := by
    rw [Array.getElem?_toList] at h
    have h3 : (hexT x).data[j]? = some ((hexT x).data[j]'(by have := hexT_size x; simp only [ByteArray.size] at this; omega)) := Array.getElem?_eq_getElem _
    rw [h3] at h
    injection h with h
  rw [h2] at h1
  have h3 := hexB_dig (x / 16 ^ (7 - j) % 16) (Nat.mod_lt _ (by decide))
  unfold hexD at h1
  have h4 : (32 : UInt8).toNat = 32 := rfl
  omega
/-- The text of a curve is cut into its words. -/
theorem cuts_rowT (x : Nat → Nat) (n : Nat) : cuts 32 (rowT x (n + 1)) = texts x (n + 1) := by
  rw [rowT_joinB]
  refine cuts_join _ (by unfold texts; simp) fun a ha j => ?_
  unfold texts at ha
  obtain ⟨i, _, rfl⟩ := List.mem_map.1 ha
  exact hexT_no_blank _ _
/-- The text of a curve reads back. -/
theorem good_rowT (c : Nat → Nat) (hc : ∀ i, i < 16 → bitsOf (canon .f32 (c i)) < 4294967296) : Good (rowT (fun i => bitsOf (canon .f32 (c i))) 16) (fun i => bitsOf (canon .f32 (c i))) := by
  refine ⟨by rw [cuts_rowT, texts_len], fun i y hy => ?_⟩
  rw [cuts_rowT] at hy
  have hi : i < 16 := by
    rcases Nat.lt_or_ge i 16 with h | h
    · exact h
    · rw [List.getElem?_eq_none (by rw [texts_len]; exact h)] at hy; cases hy
  unfold texts at hy
  rw [List.getElem?_map, List.getElem?_range hi] at hy
  simp only [Option.map_some, Option.some.injEq] at hy
  subst hy
  exact ⟨hc i hi, rfl, bits_idem _⟩
end Go.Proofs.YtnfnlgmnnjgemaaGreatDoor
