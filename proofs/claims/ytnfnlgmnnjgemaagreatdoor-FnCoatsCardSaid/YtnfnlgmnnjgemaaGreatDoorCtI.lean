/- Two coats: the facts of the law, about the words that the calls give back. -/
import Derived.Test.YtnfnlgmnnjgemaaGreatDoorCtG
import Derived.Test.YtnfnlgmnnjgemaaGreatDoorLG
import Derived.Test.YtnfnlgmnnjgemaaGreatDoorHA
import Derived.Great.Walk
namespace Go.Proofs.YtnfnlgmnnjgemaaGreatDoor
open Go.RowKit
set_option maxRecDepth 100000

/-- Two layers, one behind the other. -/
def two33 (A : Nat → Nat) (i : Nat) : Nat := A (if i < 33 then i else i - 33)
theorem lay_two (A : Nat → Nat) (k : Nat) (hk : k < 2) : ∀ i, i < 33 → lay (two33 A) k i = A i := fun i hi => by
  unfold lay rowAt two33
  have : k = 0 ∨ k = 1 := by omega
  rcases this with rfl | rfl
  · rw [if_pos (by omega), show 0 * 33 + i = i by omega]
  · rw [if_neg (by omega), show 1 * 33 + i - 33 = i by omega]
theorem two_built (A : Nat → Nat) : Program.builtSlice Tryz.prog 28 2 [(0, .agg (fA 33 A)), (1, .agg (fA 33 A))] = some (fA 66 (two33 A)) := by kernel_rfl
section
variable {A : Nat → Nat} {K S : Nat → Rat} {n : Nat}
theorem coat_film (h : LayS (fun i => canon .f32 (A i)) K S n) (hn : n < 33) : filmOfRes A = (filmAt (fun i => canon .f32 (A i)), 0) := film_res h.l (by omega)
theorem twice_eighth : ∀ m, m < 33 → fmul (canon .f32 1073741824) (eighth m) = eighth (2 * m) := by decide +kernel
theorem twice_some : ∀ m, m < 33 → (fmul (canon .f32 1073741824) (eighth m)).isSome = true := by decide +kernel
/-- The layer of twice the thickness. -/
theorem coat_double (h : LayS (fun i => canon .f32 (A i)) K S n) (hn : n < 33) (hx : canon .f32 (A 32) = eighth n) {V : Nat} (hV : canon .f32 V = fmul (canon .f32 1073741824) (canon .f32 (A 32))) : Lay (fun i => canon .f32 (upd A 32 V i)) K S (2 * n) := by
  refine ⟨fun i hi => ?_, fun i hi => ?_, ?_⟩
  · have e : upd A 32 V i = A i := by unfold upd; rw [if_neg (by omega)]
    rw [e]; exact h.l.k i hi
  · have e : upd A 32 V (16 + i) = A (16 + i) := by unfold upd; rw [if_neg (by omega)]
    rw [e]; exact h.l.s i hi
  · have e : upd A 32 V 32 = V := by unfold upd; rw [if_pos rfl]
    rw [e, hV, hx, twice_eighth n hn]
    exact eighth_is (2 * n) (by omega)
theorem lay_film {D : Nat → Nat} {m : Nat} (h : Lay (fun i => canon .f32 (D i)) K S m) (hm : m ≤ 256) : filmOfRes D = (filmAt (fun i => canon .f32 (D i)), 0) := film_res h hm
/-- Two coats. -/
theorem coat_stack (h : LayS (fun i => canon .f32 (A i)) K S n) (hn : n < 33) {d : Nat → Option Nat} (hd : Lay d K S (2 * n)) : ∃ sv, stackRes (two33 A) 2 = (sv, 0) ∧ ∀ i, i < 16 → near (sv i) (filmAt d i) (canon .f32 1017370378) = true ∧ near (sv (32 + i)) (filmAt d (32 + i)) (canon .f32 1017370378) = true := by
  have l0 : Lay (fun i => canon .f32 (lay (two33 A) 0 i)) K S n := h.l.to fun i hi => by rw [lay_two A 0 (by omega) i hi]
  have l1 : Lay (fun i => canon .f32 (lay (two33 A) 1 i)) K S n := h.l.to fun i hi => by rw [lay_two A 1 (by omega) i hi]
  obtain ⟨e0, _⟩ := coat_f l0 hn
  obtain ⟨e1, R, T, m1⟩ := coat_f l1 hn
  have same : ∀ i, i < 48 → filmAt (fun i => canon .f32 (lay (two33 A) 0 i)) i = filmAt (fun i => canon .f32 (lay (two33 A) 1 i)) i := filmAt_congr fun i hi => by rw [lay_two A 0 (by omega) i hi, lay_two A 1 (by omega) i hi]
  obtain ⟨c0, hq⟩ := stack_one (m1.m.to same)
  obtain ⟨c1, hs⟩ := coat_near l1 hd hn hq m1
  have f0 : layFilm (two33 A) 0 = (filmAt (fun i => canon .f32 (lay (two33 A) 0 i)), 0) := e0
  have f1 : layFilm (two33 A) 1 = (filmAt (fun i => canon .f32 (lay (two33 A) 1 i)), 0) := e1
  refine ⟨_, ?_, hs⟩
  unfold stackRes
  rw [if_pos (allTo_true fun k hk => ?_), if_pos (by decide), go_on (by rw [f0]) (by rw [f0, c0]), f0, c0, go_on (by rw [f1]) (by rw [f1, c1]), f1, c1]
  · rfl
  · have : k = 0 ∨ k = 1 := by omega
    rcases this with rfl | rfl
    · exact layer_ok l0
    · exact layer_ok l1
/-- What is lost. -/
theorem coat_lost (h : LayS (fun i => canon .f32 (A i)) K S n) (hn : n < 33) {F : Nat → Nat} (hF : ∀ i, i < 48 → canon .f32 (F i) = filmAt (fun i => canon .f32 (A i)) i) : filmOk F = true ∧ lostRes F = (fun i => lostAt (canon .f32 (F i)) (canon .f32 (F (32 + i))), 0) ∧
    ∀ i, i < 16 → (fadd (canon .f32 (F i)) (canon .f32 (F (32 + i)))).isSome = true ∧ (fadd (fadd (canon .f32 (F i)) (canon .f32 (F (32 + i)))) (lostAt (canon .f32 (F i)) (canon .f32 (F (32 + i))))).isSome = true ∧ near (fadd (fadd (canon .f32 (F i)) (canon .f32 (F (32 + i)))) (lostAt (canon .f32 (F i)) (canon .f32 (F (32 + i))))) (canon .f32 1065353216) (canon .f32 990057071) = true := by
  obtain ⟨_, R, T, m⟩ := coat_f h.l hn
  have ok : filmOk F = true := film_ok hF m.m (by grind)
  refine ⟨ok, ?_, fun i hi => ?_⟩
  · unfold lostRes; rw [if_pos ok]
  · obtain ⟨r0, _, r2⟩ := m.m.r i hi
    rw [hF i (by omega), hF (32 + i) (by omega)]
    exact all_near r0 r2 (m.m.r0 i hi).1 (by have := (m.m.r0 i hi).2; grind) (m.m.t0 i hi).1 (m.m.t0 i hi).2 (m.m.sum i hi)
/-- Very thick. -/
theorem coat_thick2 (h : LayS (fun i => canon .f32 (A i)) K S n) : thickRes (fun i => canon .f32 (rowAt A 0 i)) (fun i => canon .f32 (rowAt A 16 i)) = (fun i => thickAt (canon .f32 (A i)) (canon .f32 (A (16 + i))), 0) := by
  have e : (fun i => canon .f32 (rowAt A 0 i)) = fun i => canon .f32 (A i) := funext fun i => by rw [rowAt, Nat.zero_add]
  rw [e]
  exact (coat_thick h).1
/-- Over it. -/
theorem coat_paint (h : LayS (fun i => canon .f32 (A i)) K S n) (hn : n < 33) {t : Nat → Nat} (ht : ∀ i, i < 16 → canon .f32 (t i) = thickAt (canon .f32 (A i)) (canon .f32 (A (16 + i)))) :
    paintMade (filmOfRes A) (fun i => canon .f32 (t i)) = (overAt (filmAt fun i => canon .f32 (A i)) fun i => canon .f32 (t i), 0) ∧ ∀ i, i < 16 → fgt (canon .f32 (A (16 + i))) (canon .f32 0) = true → near (overAt (filmAt fun i => canon .f32 (A i)) (fun i => canon .f32 (t i)) i) (canon .f32 (t i)) (canon .f32 1022739087) = true := by
  obtain ⟨_, R, T, m⟩ := coat_f h.l hn
  obtain ⟨c, hs⟩ := coat_over (t := fun i => canon .f32 (t i)) h hn m ht
  refine ⟨?_, hs⟩
  rw [coat_film h hn]
  unfold paintMade
  rw [if_pos rfl]
  exact c
/-- How much is seen. -/
theorem coat_cons (h : LayS (fun i => canon .f32 (A i)) K S n) (hn : n < 33) {D : Nat → Nat} (hd : Lay (fun i => canon .f32 (D i)) K S (2 * n)) : ∃ c e, conMade (filmOfRes A) = (c, 0) ∧ conMade (filmOfRes D) = (e, 0) ∧ fle e (fadd c (canon .f32 1008981770)) = true ∧ fge c (canon .f32 0) = true ∧ fle c (canon .f32 1065353216) = true := by
  obtain ⟨c1, c2, k1, k2, k3⟩ := coat_less h.l hd hn
  refine ⟨(conMade (filmMade fun i => canon .f32 (A i))).1, (conMade (filmMade fun i => canon .f32 (D i))).1, ?_, ?_, k1, k2, k3⟩
  · rw [coat_film h hn, ← (coat_f h.l hn).1, ← c1]
  · rw [lay_film hd (by omega), ← (coat_g hd hn).1, ← c2]
theorem coat_bits (h : LayS (fun i => canon .f32 (A i)) K S n) : ∀ i, i < 33 → bitsOf (canon .f32 (A i)) < 4294967296 := fun i hi => by
  cases e : canon .f32 (A i) with
  | none => decide
  | some b => exact h.lt i hi b e
end
theorem same_layer {y a : Nat → Nat} (h : ∀ i, i < 33 → canon .f32 (y i) = canon .f32 (a i)) : sameLayer y a = true := by
  unfold sameLayer same16
  rw [Bool.and_eq_true, Bool.and_eq_true]
  exact ⟨⟨allTo_true fun i hi => by rw [rowAt, rowAt, h _ (by omega)]; exact beq_self_eq_true _, allTo_true fun i hi => by rw [rowAt, rowAt, h _ (by omega)]; exact beq_self_eq_true _⟩, by rw [h 32 (by omega)]; exact beq_self_eq_true _⟩
theorem le_sum {x y z : Option Nat} (h : fle x (fadd y z) = true) : (fadd y z).isSome = true := by
  cases hs : fadd y z with
  | some b => rfl
  | none => rw [hs] at h; cases x <;> cases h
end Go.Proofs.YtnfnlgmnnjgemaaGreatDoor
