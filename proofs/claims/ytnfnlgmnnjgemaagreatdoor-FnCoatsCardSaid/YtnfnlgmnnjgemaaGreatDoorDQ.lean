/- Contracts: a film out of what it reflects over two backings. -/
import Derived.Test.YtnfnlgmnnjgemaaGreatDoorCP
import Derived.Test.YtnfnlgmnnjgemaaGreatDoorCR
import Derived.Test.YtnfnlgmnnjgemaaGreatDoorCZ
namespace Go.Proofs.YtnfnlgmnnjgemaaGreatDoor
open Go.RowKit
set_option maxRecDepth 100000

def filmOkP (p : Nat → Option Nat) : Bool :=
  allTo 16 (fun i => share (p i)) && allTo 16 (fun i => share (p (16 + i))) && allTo 16 (fun i => share (p (32 + i)))
    && allTo 16 (fun i => least (p i) (p (32 + i))) && allTo 16 (fun i => least (p (16 + i)) (p (32 + i)))
theorem filmOk_is (a : Nat → Nat) : filmOk a = filmOkP fun i => canon .f32 (a i) := by
  simp only [filmOk, filmOkP, rowAt, Nat.zero_add]
theorem filmOkP_congr {p q : Nat → Option Nat} (h : ∀ i, i < 48 → p i = q i) : filmOkP p = filmOkP q := by
  unfold filmOkP
  rw [allTo_congr (q := fun i => share (q i)) fun i hi => by rw [h i (by omega)], allTo_congr (p := fun i => share (p (16 + i))) (q := fun i => share (q (16 + i))) fun i hi => by rw [h _ (by omega)],
    allTo_congr (p := fun i => share (p (32 + i))) (q := fun i => share (q (32 + i))) fun i hi => by rw [h _ (by omega)], allTo_congr (p := fun i => least (p i) (p (32 + i))) (q := fun i => least (q i) (q (32 + i))) fun i hi => by rw [h _ (by omega), h _ (by omega)],
    allTo_congr (p := fun i => least (p (16 + i)) (p (32 + i))) (q := fun i => least (q (16 + i)) (q (32 + i))) fun i hi => by rw [h _ (by omega), h _ (by omega)]]
def okBack (q : Option Nat) : Bool := share q && !feq q (canon .f32 0)
def twoT (b o q : Option Nat) : Option Nat := if fgt o b then froot (fdiv (fmul (fsub o b) (fsub (canon .f32 1065353216) (fmul b q))) q) else canon .f32 0
def twoAt (b o q : Nat → Option Nat) (i : Nat) : Option Nat := if i < 16 then b i else if i < 32 then b (i - 16) else twoT (b (i - 32)) (o (i - 32)) (q (i - 32))
def twoRes (b o q : Nat → Option Nat) : (Nat → Option Nat) × Int :=
  if allTo 16 (fun i => share (b i)) && allTo 16 (fun i => share (o i)) && allTo 16 (fun i => okBack (q i)) then if filmOkP (twoAt b o q) then (twoAt b o q, 0) else (fun _ => canon .f32 0, 4) else (fun _ => canon .f32 0, 2)
theorem film3_upd (r b t : Nat → Nat) {k : Nat} (hk : k < 16) (v : Nat) : fA 48 (upd (film3 r b t) (32 + k) v) = fA 48 (film3 r b (upd t k v)) := by
  apply fA_congr
  intro i hi
  unfold upd film3
  by_cases h : i = 32 + k
  · subst h
    rw [if_pos rfl, if_neg (by omega), if_neg (by omega)]
    dsimp only
    rw [if_pos (by omega)]
  · rw [if_neg h]
    by_cases h1 : i < 16
    · rw [if_pos h1, if_pos h1]
    · rw [if_neg h1, if_neg h1]
      by_cases h2 : i < 32
      · rw [if_pos h2, if_pos h2]
      · rw [if_neg h2, if_neg h2]
        dsimp only
        rw [if_neg (by omega)]
theorem two_is {b o q t : Nat → Nat} (h : ∀ j, j < 16 → canon .f32 (t j) = twoT (canon .f32 (b j)) (canon .f32 (o j)) (canon .f32 (q j))) : ∀ i, i < 48 → canon .f32 (film3 b b t i) = twoAt (fun i => canon .f32 (b i)) (fun i => canon .f32 (o i)) (fun i => canon .f32 (q i)) i := by
  intro i hi
  unfold film3 twoAt
  by_cases h1 : i < 16
  · rw [if_pos h1, if_pos h1]
  · rw [if_neg h1, if_neg h1]
    by_cases h2 : i < 32
    · rw [if_pos h2, if_pos h2]
    · rw [if_neg h2, if_neg h2, h _ (by omega)]

end Go.Proofs.YtnfnlgmnnjgemaaGreatDoor
