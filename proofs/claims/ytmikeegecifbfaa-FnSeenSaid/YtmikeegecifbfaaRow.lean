/- Rows of float32 as values and as blocks of memory: reading, writing, cutting; a block that is known whole. No program is named here. -/
import Derived.Test.YtmikeegecifbfaaFlt
import Derived.Below
import Derived.Laws.Rows
namespace Go.Proofs.Ytmikeegecifbfaa
open Go.RowKit

/-- n words as values of float32. -/
def fA (n : Nat) (b : Nat → Nat) : Array Value := ((List.range n).map fun i => Value.float .f32 (b i)).toArray

@[simp] theorem size_fA (n : Nat) (b : Nat → Nat) : (fA n b).size = n := by simp [fA]
theorem get_fA (n : Nat) (b : Nat → Nat) (i : Nat) : (fA n b)[i]? = if i < n then some (.float .f32 (b i)) else none := by
  unfold fA
  rw [List.getElem?_toArray, List.getElem?_map]
  split
  · rename_i h; rw [List.getElem?_range h]; rfl
  · rename_i h; rw [List.getElem?_eq_none (by simpa using h)]; rfl
theorem get_fA_lt {n : Nat} (b : Nat → Nat) {i : Nat} (h : i < n) : (fA n b)[i]? = some (.float .f32 (b i)) := by rw [get_fA, if_pos h]
theorem fA_congr {n : Nat} {b c : Nat → Nat} (h : ∀ i, i < n → b i = c i) : fA n b = fA n c := by
  unfold fA
  congr 1
  apply List.map_congr_left
  intro i hi
  rw [h i (by simpa using hi)]
theorem fA_set (n : Nat) (b : Nat → Nat) (i v : Nat) : (fA n b).setIfInBounds i (.float .f32 v) = fA n (fun j => if j = i then v else b j) := by
  apply Array.ext_getElem?
  intro k
  rw [Array.getElem?_setIfInBounds, get_fA, get_fA, size_fA]
  by_cases hk : i = k
  · subst hk; simp
  · simp [hk, Ne.symm hk]
theorem fA_extract (n : Nat) (b : Nat → Nat) (lo hi : Nat) (h : hi ≤ n) : (fA n b).extract lo hi = fA (hi - lo) (fun j => b (lo + j)) := by
  apply Array.ext_getElem?
  intro k
  rw [Array.getElem?_extract, get_fA, get_fA, size_fA]
  by_cases hk : k < hi - lo
  · simp [hk, show min hi n = hi by omega, show lo + k < n by omega]
  · simp [hk, show min hi n = hi by omega]
theorem fA_of_cells (cs : Array Value) (h : ∀ i, i < cs.size → ∃ b, cs[i]? = some (.float .f32 b)) : ∃ b, cs = fA cs.size b := by
  refine ⟨fun i => match cs[i]? with | some (.float _ b) => b | _ => 0, ?_⟩
  apply Array.ext_getElem?
  intro k
  rw [get_fA]
  by_cases hk : k < cs.size
  · obtain ⟨b, hb⟩ := h k hk
    rw [if_pos hk]
    simp only [hb]
  · rw [if_neg hk, Array.getElem?_eq_none (by omega)]
theorem all_fA (n : Nat) (b : Nat → Nat) : (fA n b).all (·.oneCell') = true := by
  rw [Array.all_eq_true_iff_forall_mem]
  intro x hx
  simp [fA] at hx
  obtain ⟨i, hi, rfl⟩ := hx
  rfl

/-! ### A row that is filled from its begin on -/
def upd (c : Nat → Nat) (k v : Nat) : Nat → Nat := fun j => if j = k then v else c j
theorem upd_same (c : Nat → Nat) (k v : Nat) : upd c k v k = v := by simp [upd]
theorem upd_other (c : Nat → Nat) {k j : Nat} (v : Nat) (h : j ≠ k) : upd c k v j = c j := by simp [upd, h]
theorem upd_to {c : Nat → Nat} {k v : Nat} {Q : Nat → Nat → Prop} (h : ∀ j, j < k → Q j (c j)) (hv : Q k v) : ∀ j, j < k + 1 → Q j (upd c k v j) := by
  intro j hj
  by_cases e : j = k
  · subst e; rw [upd_same]; exact hv
  · rw [upd_other c v e]; exact h j (by omega)
theorem upd_from {c o : Nat → Nat} {k v : Nat} (h : ∀ j, k ≤ j → c j = o j) : ∀ j, k + 1 ≤ j → upd c k v j = o j := by
  intro j hj
  rw [upd_other c v (by omega)]
  exact h j (by omega)

/-! ### Operations -/
section
variable {P : Program} (w : World)

@[go_sem] theorem run_store_float (a : Addr) (k : FloatKind) (b : Nat) (m : Mode) : (store a (.float k b) m).run P w = stored P w a (.float k b) m := run_store P w a _ m rfl

theorem run_index_fA (T e : TypeId) (n : Nat) (b : Nat → Nat) (i : Int) (hu : P.underlying T = some (.array n e)) (he : P.underlying e = some (.float .f32)) (hz : (P.info? e).map (·.size) = some 1)
    (h0 : 0 ≤ i) (h1 : i < n) : (Instr.index T (.agg (fA n b)) (.int .i64 i)).run P w = .ok (.float .f32 (b i.toNat)) w := by
  obtain ⟨j, rfl⟩ := Int.eq_ofNat_of_zero_le h0
  have hj : j < n := by omega
  cases hq : P.info? e with
  | none => simp [hq] at hz
  | some inf =>
    have hs : inf.size = 1 := by simpa [hq] using hz
    have hagg : (isAgg e).run P w = .ok false w := by
      unfold isAgg
      rw [Sem.run_bind, run_underlying he w]
      rfl
    simp only [Instr.index, asIntOf, Sem.run_bind, Sem.run_pure, Result.andThen_ok, run_underlying hu]
    have hg := get_fA_lt b hj
    rw [Array.getElem?_eq_getElem (by simpa using hj)] at hg
    simp [hj, sizeOf, typeInfo, hq, hs, part, hagg, Option.some.inj hg]
end

/-! ### A block that is known whole (after a page of the guide) -/
def Blk (w : World) (g : Nat) (t : TypeId) (cs : Array Value) : Prop := w.heap[g]? = some (.cells cs t (0, 0))

section
variable {w w' : World} {g : Nat} {t : TypeId} {cs : Array Value}
theorem Blk.lt (h : Blk w g t cs) : g < w.heap.size := by
  rcases Nat.lt_or_ge g w.heap.size with hlt | hge
  · exact hlt
  · unfold Blk at h; rw [Array.getElem?_eq_none hge] at h; cases h
theorem Blk.cell (h : Blk w g t cs) (i : Nat) : w.cell? ⟨g, i, none⟩ = cs[i]? := cell_of_row w g i cs t (0, 0) h
theorem Blk.frozen (h : Blk w g t cs) (i : Nat) : w.frozen? ⟨g, i, none⟩ = false := by
  unfold Blk at h
  simp [World.frozen?, h]
theorem Blk.new (w : World) (t : TypeId) (cs : Array Value) : Blk (w.alloc (.cells cs t)) w.heap.size t cs := heap_alloc_new w _
theorem Blk.new_at (w : World) (t : TypeId) {cs cs' : Array Value} {g : Nat} (hg : g = w.heap.size) (hcs : cs = cs') : Blk (w.alloc (.cells cs t)) g t cs' := by
  subst hg; subst hcs; exact Blk.new w t cs
theorem Blk.drewN (h : Blk w g t cs) (n : Nat) : Blk (w.drewN n) g t cs := h
theorem Blk.alloc (h : Blk w g t cs) (o : Obj) : Blk (w.alloc o) g t cs := (Below.heap_alloc w o g h.lt).trans h
theorem Blk.set_ (h : Blk w g t cs) (i : Nat) (u : Value) : Blk (w.setCell ⟨g, i, none⟩ u) g t (cs.setIfInBounds i u) := by
  unfold Blk at h ⊢
  simp [World.setCell, Array.getElem?_modify, h]
theorem Blk.setF {n : Nat} {b : Nat → Nat} (h : Blk w g t (fA n b)) (i v : Nat) : Blk (w.setCell ⟨g, i, none⟩ (.float .f32 v)) g t (fA n (upd b i v)) := by
  have := h.set_ i (.float .f32 v)
  rwa [fA_set] at this
theorem Blk.setRow {cs' : Array Value} (h : Blk w g t cs) : Blk (w.setRow g cs') g t cs' := setRow_heap w g cs cs' t _ h
theorem Blk.farRow {g' : Nat} {cs' : Array Value} (h : Blk w g t cs) (hne : g ≠ g') : Blk (w.setRow g' cs') g t cs := (setRow_other w g' g cs' hne).trans h
theorem Blk.to {cs' : Array Value} (h : Blk w g t cs) (e : cs = cs') : Blk w g t cs' := e ▸ h
theorem Blk.far (h : Blk w g t cs) {p : Addr} (hp : g ≠ p.block) (u : Value) : Blk (w.setCell p u) g t cs := (Below.heap_setCell w p u g hp).trans h
theorem Blk.below {B : Nat} (h : Blk w g t cs) (hb : Below B w w') (hg : g < B) : Blk w' g t cs := (hb.block g hg).trans h
end

theorem Below.drewN' {B : Nat} {a w : World} (h : Below B a w) (n : Nat) : Below B a (w.drewN n) := ⟨h.os, h.tape, h.output, h.size, h.block⟩
theorem Below.setRow' {B : Nat} {a w : World} (h : Below B a w) {g : Nat} (hg : B ≤ g) (cs : Array Value) : Below B a (w.setRow g cs) :=
  h.trans ⟨rfl, rfl, rfl, by simp, fun k hk => setRow_other w g k cs (by omega)⟩
theorem bcell {W w1 : World} {B : Nat} (hb : Below B W w1) : (∀ b o, b < B → w1.cell? ⟨b, o, none⟩ = W.cell? ⟨b, o, none⟩) ∧ (∀ b o, b < B → w1.frozen? ⟨b, o, none⟩ = W.frozen? ⟨b, o, none⟩) :=
  ⟨fun b o h => hb.cell (p := ⟨b, o, none⟩) h, fun b o h => hb.frozen (p := ⟨b, o, none⟩) h⟩

theorem setRow_new (w : World) (cs cs' : Array Value) (t : TypeId) : (w.alloc (.cells cs t)).setRow w.heap.size cs' = w.alloc (.cells cs' t) := by
  unfold World.setRow World.alloc
  congr 1
  apply Array.ext_getElem?
  intro k
  rw [Array.getElem?_modify]
  by_cases hk : w.heap.size = k
  · subst hk
    simp
  · have hk' : k ≠ w.heap.size := fun e => hk e.symm
    simp [hk, hk', Array.getElem?_push]
/-- A row is stored into the block that was laid just before. -/
theorem wpList_store_new {P : Program} {ops : Array Oper} {rest : List Oper} {o : Oper} {a : Act} {w : World} {Q : Exit → Act → World → Prop} {t : TypeId} {old : Array Value} (hgd : o.guard = none) (ty : TypeId) (x y : Operand) (ho : o.op = .store ty x y)
    (cells : Array Value) (hx : a.eval x = .pointer (some ⟨w.heap.size, 0, none⟩)) (hy : a.eval y = .agg cells)
    (hi : (P.info? ty).map (·.size) = some cells.size) (hold : old.size = cells.size) (h1 : cells.all (·.oneCell') = true)
    (h : wpList P ops Q rest (a.put o.dst undef) (w.alloc (.cells cells t))) : wpList P ops Q (o :: rest) a (w.alloc (.cells old t)) :=
  wpList_store_row hgd ty x y ho w.heap.size cells hx hy t old (heap_alloc_new w _) hi hold h1 (by rw [setRow_new]; exact h)

theorem wpList_buildSlice {P : Program} {ops : Array Oper} {rest : List Oper} {o : Oper} {a : Act} {w : World} {Q : Exit → Act → World → Prop} (hgd : o.guard = none) (t : TypeId) (n : Nat) (parts : Array (Nat × Operand)) (ho : o.op = .buildSlice t n parts)
    (v : Value) (w' : World) (hr : (Instr.buildSlice t n (parts.map fun (i, x) => (i, a.eval x))).run P w = .ok v w') (h : wpList P ops Q rest (a.put o.dst v) w') : wpList P ops Q (o :: rest) a w :=
  wpList_plain hgd fun K hK => by
    unfold Oper.wp execOp
    simp only [ho, Sem.run_bind, hr, Result.andThen_ok]
    exact hK _ _ h

theorem results_cell_row2 {P : Program} {fn : Func} {p t2 : Tmp} {ty : TypeId} (h : fn.results = #[.cell p ty, .tmp t2]) (tmps : Array Value) (w : World) (g : Nat) (t : TypeId) (cs : Array Value) (fr : Nat × Nat) (d : TypeDesc)
    (hp : tmps.getD p undef = .pointer (some ⟨g, 0, none⟩)) (hg : w.heap[g]? = some (.cells cs t fr))
    (hu : P.underlying ty = some d) (hd : (match d with | .struct _ | .array _ _ => true | _ => false) = true) (hi : (P.info? ty).map (·.size) = some cs.size) :
    (results fn tmps).run P w = .ok (.tuple #[.agg cs, tmps.getD t2 undef]) w := by
  have hp' : tmps[p]?.getD undef = .pointer (some ⟨g, 0, none⟩) := by simpa using hp
  simp [results, h, hp', asAddr, run_loadVar_row w g t ty cs fr d hg hu hd hi]

end Go.Proofs.Ytmikeegecifbfaa
