/- A text, cut at a byte. -/
import Derived.Test.YtnfnlgmnnjgemaaGreatDoorHF
import Derived.Lib.Split
import Derived.Lib.IndexBytes
namespace Go.Proofs.YtnfnlgmnnjgemaaGreatDoor
open Go.RowKit
set_option maxRecDepth 100000

/-- The pieces between the bytes 'c'. -/
def cuts (c : UInt8) (t : ByteArray) : List ByteArray := Lib.splitB ⟨#[c]⟩ 0 (Lib.countB t ⟨#[c]⟩) t
theorem byte_hit {c : UInt8} : ∀ {l : List UInt8} {n : Nat}, l[n]? = some c → (∀ m, m < n → l[m]? ≠ some c) → Lib.indexByte l c = n
  | [], n, h, _ => by cases h
  | b :: l, 0, h, _ => by
    simp only [List.getElem?_cons_zero, Option.some.injEq] at h
    unfold Lib.indexByte
    rw [if_pos (by rw [h]; exact beq_self_eq_true _)]
    rfl
  | b :: l, n + 1, h, hn => by
    have h0 : b ≠ c := fun e => hn 0 (by omega) (by rw [e]; rfl)
    have ih := byte_hit (l := l) (n := n) (by simpa using h) (fun m hm => by simpa using hn (m + 1) (by omega))
    unfold Lib.indexByte
    rw [if_neg (by simpa using h0), ih, if_neg (by first | (simp; done) | (simp; omega))]
    first | rfl | omega
theorem byte_miss {c : UInt8} : ∀ {l : List UInt8}, (∀ m : Nat, l[m]? ≠ some c) → Lib.indexByte l c = -1
  | [], _ => rfl
  | b :: l, h => by
    have h0 : b ≠ c := fun e => h 0 (by rw [e]; rfl)
    have ih := byte_miss (l := l) (fun m => by simpa using h (m + 1))
    unfold Lib.indexByte
    rw [if_neg (by simpa using h0), ih]
    rfl
theorem ind_one (s : ByteArray) (c : UInt8) : Lib.indexB s ⟨#[c]⟩ = Lib.indexByte s.data.toList c := Lib.index_one s.data.toList c
theorem rest_get (t : ByteArray) (a m : Nat) : (t.extract a t.size).data.toList[m]? = t.data.toList[a + m]? := by
  rw [Lib.extract_to_end, List.getElem?_drop]
theorem cuts_hit {t : ByteArray} {c : UInt8} {a i : Nat} (hai : a ≤ i) (hi : i < t.size) (hc : t.data.toList[i]? = some c) (hn : ∀ j, a ≤ j → j < i → t.data.toList[j]? ≠ some c) :
    cuts c (t.extract a t.size) = t.extract a i :: cuts c (t.extract (i + 1) t.size) := by
  have h1 : Lib.indexB (t.extract a t.size) ⟨#[c]⟩ = (i - a : Nat) := by
    rw [ind_one]
    refine byte_hit ?_ fun m hm => ?_
    · rw [rest_get, show a + (i - a) = i by omega]; exact hc
    · rw [rest_get]; exact hn _ (by omega) (by omega)
  have hsz : (t.extract a t.size).size = t.size - a := by rw [ByteArray.size_extract]; omega
  have e1 : (t.extract a t.size).extract (i - a + 1) (t.extract a t.size).size = t.extract (i + 1) t.size := by
    apply ByteArray.ext
    apply Array.toList_inj.1
    rw [Lib.extract_to_end, Lib.extract_to_end, Lib.extract_to_end, List.drop_drop]
    congr 1
    omega
  have e2 : (t.extract a t.size).extract 0 (i - a + 0) = t.extract a i := by
    apply ByteArray.ext
    apply Array.toList_inj.1
    rw [Lib.extract_from_zero, Lib.extract_to_end, Lib.extract_data]
    rfl
  unfold cuts
  have e0 : (⟨#[c]⟩ : ByteArray).size = 1 := rfl
  rw [Lib.countB_hit _ _ (i - a) (by rw [e0]; exact Nat.le_refl _) h1, Nat.add_comm 1, Lib.splitB_hit _ _ _ _ (i - a) h1, e0, e1, e2]
theorem cuts_miss {t : ByteArray} {c : UInt8} {a : Nat} (hn : ∀ j, a ≤ j → j < t.size → t.data.toList[j]? ≠ some c) : cuts c (t.extract a t.size) = [t.extract a t.size] := by
  have h1 : Lib.indexB (t.extract a t.size) ⟨#[c]⟩ = -1 := by
    rw [ind_one]
    refine byte_miss fun m => ?_
    rw [rest_get]
    by_cases h : a + m < t.size
    · exact hn _ (by omega) h
    · rw [List.getElem?_eq_none (by rw [← Lib.size_eq]; omega)]
      intro e; cases e
  unfold cuts
  rw [Lib.splitB_miss _ _ _ _ h1]
theorem rest_zero (t : ByteArray) : t.extract 0 t.size = t := by
  apply ByteArray.ext
  apply Array.toList_inj.1
  rw [Lib.extract_to_end]
  rfl
/-- Pieces lie in a slice of the call's own. -/
def OwnsT (w : World) (base : Nat) (v : Value) (l : List ByteArray) : Prop := w.ownsRow base 9 1 v l.length (l.map Value.string)
end Go.Proofs.YtnfnlgmnnjgemaaGreatDoor
