/- The reading of a curve, as the reference does it: the curve. -/
import Derived.Test.YtnfnlgmnnjgemaaGreatDoorHL
import Derived.Test.YtnfnlgmnnjgemaaGreatDoorCP
namespace Go.Proofs.YtnfnlgmnnjgemaaGreatDoor
open Go.RowKit
set_option maxRecDepth 100000

/-- Sixteen words that are numbers' texts. -/
def Good (t : ByteArray) (x : Nat → Nat) : Prop := (cuts 32 t).length = 16 ∧ ∀ i y, (cuts 32 t)[i]? = some y → Num8 y (x i)
theorem cuts_len (c : UInt8) (t : ByteArray) : 1 ≤ (cuts c t).length ∧ (cuts c t).length ≤ t.size + 1 := by
  have h1 := Lib.splitB_all ⟨#[c]⟩ (Nat.le_refl 1) 0 _ t rfl
  have h2 := Lib.countB_le ⟨#[c]⟩ (Nat.le_refl 1) t.size t (Nat.le_refl _)
  unfold cuts
  omega
theorem owns_some {w : World} {base : Nat} {e : TypeId} {v : Value} {n : Nat} {xs : List Value} (h : w.ownsRow base e 1 v n xs) (hn : 0 < n) :
    ∃ g cap, v = .slice (some ⟨g, 0, none⟩) n cap ∧ base ≤ g ∧ g < w.heap.size ∧ n ≤ cap ∧ cap ≤ maxLen ∧ ∀ (j : Nat) y, j < n → xs[j]? = some y → w.cell? ⟨g, j, none⟩ = some y := by
  rcases h.2 with ⟨_, h0⟩ | ⟨g, cap, cur, hv, hg, hblk, hcap, hm, hsz, htk⟩
  · omega
  · refine ⟨g, cap, hv, hg, ?_, hcap, hm, fun j y hj hy => ?_⟩
    · rcases Nat.lt_or_ge g w.heap.size with h | h
      · exact h
      · rw [Array.getElem?_eq_none h] at hblk; cases hblk
    · rw [cell_of_row w g j cur e (0, 0) hblk]
      rw [← htk, List.getElem?_take_of_lt (by omega)] at hy
      simpa using hy
theorem Good.uniq {t : ByteArray} {x y : Nat → Nat} (hx : Good t x) (hy : Good t y) : ∀ i, i < 16 → x i = y i := by
  intro i hi
  obtain ⟨u, hu⟩ : ∃ u, (cuts 32 t)[i]? = some u := ⟨_, List.getElem?_eq_getElem (by rw [hx.1]; exact hi)⟩
  have h1 := hx.2 i u hu
  have h2 := hy.2 i u hu
  exact hexT_inj h1.1 h2.1 (h1.2.1.symm.trans h2.2.1)
theorem cell_same {w w' : World} {g : Nat} (h : w'.heap[g]? = w.heap[g]?) {j : Nat} : w'.cell? ⟨g, j, none⟩ = w.cell? ⟨g, j, none⟩ := by
  simp only [World.cell?, h]
end Go.Proofs.YtnfnlgmnnjgemaaGreatDoor
