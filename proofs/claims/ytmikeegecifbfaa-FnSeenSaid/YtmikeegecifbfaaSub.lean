/- A part of a row of float32 that lies in a block: reading it, writing it. No program is named here. -/
import Derived.Test.YtmikeegecifbfaaRow
import Derived.Deep.MidRow
namespace Go.Proofs.Ytmikeegecifbfaa
open Go.RowKit

/-- The row from an offset on. -/
def rowAt (b : Nat → Nat) (o : Nat) : Nat → Nat := fun j => b (o + j)
/-- A row with m numbers put in from an offset on. -/
def putAt (b : Nat → Nat) (o m : Nat) (c : Nat → Nat) : Nat → Nat := fun j => if o ≤ j ∧ j < o + m then c (j - o) else b j

section
variable {P : Program} {w : World} {g n : Nat} {t : TypeId} {b : Nat → Nat}
theorem rangeAt_part (h : Blk w g t (fA n b)) {o m : Nat} (hm : o + m ≤ n) : w.rangeAt g o (fA m (rowAt b o)).toList := by
  intro j v hv
  rw [h.cell, get_fA]
  rw [Array.getElem?_toList, get_fA] at hv
  by_cases hj : j < m
  · rw [if_pos hj] at hv
    rw [if_pos (by omega)]
    exact hv
  · rw [if_neg hj] at hv
    cases hv
theorem load_part (ty : TypeId) {d : TypeDesc} (h : Blk w g t (fA n b)) (o m : Nat) (hm : o + m ≤ n) (hu : P.underlying ty = some d) (hd : d.isRow = true) (hi : (P.info? ty).map (·.size) = some m) :
    (Instr.loadAt ty (.pointer (some ⟨g, o, none⟩))).run P w = .ok (.agg (fA m (rowAt b o))) w :=
  run_loadAt_mid w g o ty (fA m (rowAt b o)).toList d (rangeAt_part h hm) hu hd (by simpa using hi)

/-- A part is read. -/
theorem wpList_load_part {ops : Array Oper} {rest : List Oper} {op : Oper} {a : Act} {Q : Exit → Act → World → Prop} (hgd : op.guard = none) (ty : TypeId) (x : Operand) (ho : op.op = .load ty x)
    (o m : Nat) {d : TypeDesc} (h0 : Blk w g t (fA n b)) (hx : a.eval x = .pointer (some ⟨g, o, none⟩)) (hm : o + m ≤ n) (hu : P.underlying ty = some d) (hd : d.isRow = true)
    (hi : (P.info? ty).map (·.size) = some m) (h : wpList P ops Q rest (a.put op.dst (.agg (fA m (rowAt b o)))) w) : wpList P ops Q (op :: rest) a w :=
  wpList_load_mid hgd ty x ho g o hx (fA m (rowAt b o)).toList d (rangeAt_part h0 hm) hu hd (by simpa using hi) h

/-- A part is read, where the operation's guard says yes. -/
theorem wpList_load_partW {ops : Array Oper} {rest : List Oper} {op : Oper} {a : Act} {Q : Exit → Act → World → Prop} (hgd : Region.wanted op (yielded ops a.tmps) = true) (ty : TypeId) (x : Operand) (ho : op.op = .load ty x)
    (o m : Nat) {d : TypeDesc} (h0 : Blk w g t (fA n b)) (hx : a.eval x = .pointer (some ⟨g, o, none⟩)) (hm : o + m ≤ n) (hu : P.underlying ty = some d) (hd : d.isRow = true)
    (hi : (P.info? ty).map (·.size) = some m) (h : wpList P ops Q rest (a.put op.dst (.agg (fA m (rowAt b o)))) w) : wpList P ops Q (op :: rest) a w :=
  wpList_step fun K hK => by
    rw [if_pos hgd]
    exact wp_load_mid ty x ho g o hx (fA m (rowAt b o)).toList d (rangeAt_part h0 hm) hu hd (by simpa using hi) (hK _ _ h)

theorem setCell_row {cs : Array Value} (h : Blk w g t cs) (i : Nat) (u : Value) : w.setCell ⟨g, i, none⟩ u = w.setRow g (cs.setIfInBounds i u) := by
  unfold World.setCell World.setRow
  congr 1
  apply Array.ext_getElem?
  intro k
  rw [Array.getElem?_modify, Array.getElem?_modify]
  by_cases hk : g = k
  · subst hk
    unfold Blk at h
    simp [h]
  · simp [hk]
theorem setRow_twice (w : World) (g : Nat) (a b : Array Value) : (w.setRow g a).setRow g b = w.setRow g b := by
  unfold World.setRow
  congr 1
  apply Array.ext_getElem?
  intro k
  rw [Array.getElem?_modify, Array.getElem?_modify, Array.getElem?_modify]
  by_cases hk : g = k
  · subst hk
    cases w.heap[g]? with
    | none => simp
    | some o => cases o <;> simp
  · simp [hk]
theorem setCells_row (m : Nat) : ∀ (o : Nat) (c : Nat → Nat) (w : World) (b : Nat → Nat), Blk w g t (fA n b) → w.setCells g o (fA (m + 1) c).toList = w.setRow g (fA n (putAt b o (m + 1) c)) := by
  induction m with
  | zero =>
    intro o c w b h
    show (w.setCell ⟨g, o, none⟩ (.float .f32 (c 0))) = _
    rw [setCell_row h, fA_set]
    congr 1
    apply fA_congr
    intro i _
    unfold putAt
    by_cases hi : i = o
    · subst hi; simp
    · rw [if_neg hi, if_neg (by omega)]
  | succ m ih =>
    intro o c w b h
    have hl : (fA (m + 1 + 1) c).toList = .float .f32 (c 0) :: (fA (m + 1) fun i => c (i + 1)).toList := by
      unfold fA
      rw [List.range_succ_eq_map]
      simp [List.map_map, Function.comp_def]
    rw [hl]
    show (w.setCell ⟨g, o, none⟩ (.float .f32 (c 0))).setCells g (o + 1) _ = _
    have h1 := h.setF o (c 0)
    rw [ih (o + 1) _ _ _ h1, setCell_row h, setRow_twice]
    congr 1
    apply fA_congr
    intro i _
    unfold putAt upd
    by_cases hi : i = o
    · subst hi
      rw [if_neg (by omega), if_pos rfl, if_pos (by omega)]
      simp
    · by_cases h2 : o + 1 ≤ i ∧ i < o + 1 + (m + 1)
      · rw [if_pos h2, if_pos (by omega)]
        show c (i - (o + 1) + 1) = c (i - o)
        congr 1
        omega
      · rw [if_neg h2, if_neg hi, if_neg (by omega)]
theorem there_part (h : Blk w g t (fA n b)) {o m : Nat} (hm : o + m ≤ n) : w.there g o m := by
  intro j hj
  rw [h.cell, get_fA_lt b (by omega)]
  exact ⟨rfl, h.frozen _⟩
/-- A part is written. -/
theorem wpList_store_part {ops : Array Oper} {rest : List Oper} {op : Oper} {a : Act} {Q : Exit → Act → World → Prop} (hgd : op.guard = none) (ty : TypeId) (x y : Operand) (ho : op.op = .store ty x y)
    (o m : Nat) (c : Nat → Nat) (h0 : Blk w g t (fA n b)) (hx : a.eval x = .pointer (some ⟨g, o, none⟩)) (hy : a.eval y = .agg (fA m c)) (hm : 0 < m ∧ o + m ≤ n)
    (hi : (P.info? ty).map (·.size) = some m) (h : wpList P ops Q rest (a.put op.dst undef) (w.setRow g (fA n (putAt b o m c)))) : wpList P ops Q (op :: rest) a w := by
  obtain ⟨m, rfl⟩ : ∃ k, m = k + 1 := ⟨m - 1, by omega⟩
  exact wpList_store_mid hgd ty x y ho g o (fA (m + 1) c) hx hy (by rw [size_fA]; exact there_part h0 hm.2) (by rw [size_fA]; exact hi) (all_fA _ _) (by rw [setCells_row m o c w b h0]; exact h)
end
end Go.Proofs.Ytmikeegecifbfaa
