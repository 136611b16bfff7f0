/- Contracts: the films that the laws draw; a text with a byte ahead of it. -/
import Derived.Test.YtfpjiclkhjdihaaFle
import Derived.Laws.AppendOwn
import Derived.Laws.OwnMore
import Derived.OwnWalk
namespace Go.Proofs.Ytfpjiclkhjdihaa
open Go.RowKit
set_option maxRecDepth 100000

theorem A2Film_any (a : Option Addr) (n c : Nat) (f : Nat → Nat) (w : World) (hB : Byt w a n f) : Calls Try.prog 6 #[.slice a n c] w fun e w' => ∃ r : Nat → Nat, Flm (fun i => canon .f32 (r i)) ∧ e = .returned (.agg (fA 48 r)) ∧ Below w.heap.size w w' := by
  have hZ : Blk (w.alloc (.cells (fA 48 fun _ => 0) 28)) w.heap.size 28 (fA 48 fun _ => 0) := Blk.new _ _ _
  have hb0 : Below w.heap.size w (w.alloc (.cells (fA 48 fun _ => 0) 28)) := (by repeat (first | assumption | exact Below.refl _ _ | refine bDrew ?_ _ | refine Below.alloc ?_ (by first | omega | (simp; done) | (simp; omega)) _ | refine Below.setCell ?_ (by first | omega | (simp; done) | (simp; omega)) _ | refine bRow ?_ (by first | omega | (simp; done) | (simp; omega)) _))
  have hg : (w.alloc (.cells (fA 48 fun _ => 0) 28)).heap.size = w.heap.size + 1 := by simp
  go_enter Try.func6, Try.ntmps6
  go_wp2_with fail
  refine (l00From_any a n c f _ (hB.below hb0)).mono ?_
  rintro e w1 ⟨rfl, hs, hS, hb⟩
  have hZ := hZ.below hb hZ.lt
  have hb := bCall hb0 hb (by simp)
  rw [hg] at hS ⊢
  go_wp2_with fail
  refine (film_any (w.heap.size + 1) a n c f 0 (by omega) _ hS).mono ?_
  rintro e w2 ⟨r, hF, rfl, hB, _⟩
  have hZ := hB.blk hZ (by omega)
  have hb : Below w.heap.size w w2 := hb.trans ((hB.mono (by rw [hs]; omega) : Bar w.heap.size (w.heap.size + 1) w1 w2).below (by omega))
  have HF := Lib.hid hF
  clear hF
  go_wp2_with (first | (refine wpList_store_row rfl 28 _ _ rfl _ _ rfl rfl _ _ hZ (by kernel_rfl) (by simp only [size_fA]) (all_fA _ _) ?_))
  exact bodyPost_ret (results_cell_row rfl _ _ w.heap.size _ _ _ _ rfl hZ.setRow Try.underlying28 rfl (by kernel_rfl)) rfl ⟨r, HF.out, rfl, bRow hb (Nat.le_refl _) _⟩
theorem A2Film_low (a : Option Addr) (n c : Nat) (f : Nat → Nat) (h0 : 0 < n) (h2 : f 0 % 3 = 2) (w : World) (hB : Byt w a n f) : Calls Try.prog 6 #[.slice a n c] w fun e w' => ∃ r : Nat → Nat, Flm (fun i => canon .f32 (r i)) ∧ Low (fun i => canon .f32 (r i)) ∧ e = .returned (.agg (fA 48 r)) ∧ Below w.heap.size w w' := by
  have hZ : Blk (w.alloc (.cells (fA 48 fun _ => 0) 28)) w.heap.size 28 (fA 48 fun _ => 0) := Blk.new _ _ _
  have hb0 : Below w.heap.size w (w.alloc (.cells (fA 48 fun _ => 0) 28)) := (by repeat (first | assumption | exact Below.refl _ _ | refine bDrew ?_ _ | refine Below.alloc ?_ (by first | omega | (simp; done) | (simp; omega)) _ | refine Below.setCell ?_ (by first | omega | (simp; done) | (simp; omega)) _ | refine bRow ?_ (by first | omega | (simp; done) | (simp; omega)) _))
  have hg : (w.alloc (.cells (fA 48 fun _ => 0) 28)).heap.size = w.heap.size + 1 := by simp
  go_enter Try.func6, Try.ntmps6
  go_wp2_with fail
  refine (l00From_any a n c f _ (hB.below hb0)).mono ?_
  rintro e w1 ⟨rfl, hs, hS, hb⟩
  have hZ := hZ.below hb hZ.lt
  have hb := bCall hb0 hb (by simp)
  rw [hg] at hS ⊢
  go_wp2_with fail
  refine (film_first (w.heap.size + 1) a n c f h0 h2 _ hS).mono ?_
  rintro e w2 ⟨r, hF, hL, rfl, hB, _⟩
  have hZ := hB.blk hZ (by omega)
  have hb : Below w.heap.size w w2 := hb.trans ((hB.mono (by rw [hs]; omega) : Bar w.heap.size (w.heap.size + 1) w1 w2).below (by omega))
  have HF := Lib.hid hF
  have HL := Lib.hid hL
  clear hF hL
  go_wp2_with (first | (refine wpList_store_row rfl 28 _ _ rfl _ _ rfl rfl _ _ hZ (by kernel_rfl) (by simp only [size_fA]) (all_fA _ _) ?_))
  exact bodyPost_ret (results_cell_row rfl _ _ w.heap.size _ _ _ _ rfl hZ.setRow Try.underlying28 rfl (by kernel_rfl)) rfl ⟨r, HF.out, HL.out, rfl, bRow hb (Nat.le_refl _) _⟩
/-- A byte, and then a text. -/
def ahead (x : Nat) (f : Nat → Nat) (i : Nat) : Nat := if i = 0 then x else f (i - 1)
theorem info_u8 : (Try.prog.info? 5).map (fun i => (i.zero, i.size, i.bytes)) = some (some (.int .u8 0), 1, 1) := by kernel_rfl
theorem wpList_ahead {ops : Array Oper} {rest : List Oper} {o : Oper} {a : Act} {w : World} {Q : Exit → Act → World → Prop} (hgd : o.guard = none) (s x : Operand)
    (ho : o.op = .call { callee := .builtin .append, args := #[s, x], argTypes := #[22, 22] }) (g y : Nat) (hy : y < 256) (hs : a.eval s = .slice (some ⟨g, 0, none⟩) 1 1) (hg : Blk w g 5 #[.int .u8 y])
    (b : Option Addr) (n c : Nat) (f : Nat → Nat) (hx : a.eval x = .slice b n c) (hB : Byt w b n f) (hn : n ≤ 3000)
    (h : ∀ b' c' w', Byt w' b' (n + 1) (ahead y f) → Below g w w' → wpList Try.prog ops Q rest (a.put o.dst (.slice b' (n + 1) c')) w') : wpList Try.prog ops Q (o :: rest) a w := by
  have hg' : w.heap[g]? = some (.cells #[.int .u8 y] 5 (0, 0)) := hg
  obtain ⟨i, hi, hz0, hz1, hz2⟩ := info_parts info_u8
  have hown : w.ownsRow g 5 1 (.slice (some ⟨g, 0, none⟩) 1 1) 1 [.int .u8 y] := ⟨rfl, .inr ⟨g, 1, #[.int .u8 y], rfl, Nat.le_refl _, hg', Nat.le_refl _, by decide, rfl, rfl⟩⟩
  by_cases h0 : n = 0
  · subst h0
    have hrun : (Builtin.append_ #[22, 22] o.type #[.slice (some ⟨g, 0, none⟩) 1 1, .slice b 0 c]).run Try.prog w = .ok (.slice (some ⟨g, 0, none⟩) 1 1) w := by
      cases b <;> simp [Builtin.append_, run_underlying Try.underlying22, sizeOf, typeInfo, hi, Builtin.lenOf, Builtin.firstCells, storeCells, loadCells, loadCellsFrom]
    refine wpList_plain hgd fun K hK => ?_
    unfold Oper.wp
    simp [execOp, ho, resolve, invoke, builtin, hs, hx, hrun, Result.andThen]
    refine hK _ _ (h _ 1 w ⟨by decide, fun j hj => ?_⟩ (Below.refl _ _))
    obtain rfl : j = 0 := by omega
    exact ⟨_, rfl, hg.lt, by rw [show (⟨g, 0, none⟩ : Addr).add 0 = ⟨g, 0, none⟩ by simp [Addr.add]]; exact hg.cell 0, hy⟩
  · obtain ⟨ad, rfl, _⟩ := hB.cell 0 (by omega)
    refine wpList_append_own w hgd s x 22 ho g 5 i (.int .u8 0) 1 1 Try.underlying22 hi hz0 hz1 hz2 rfl (by decide) _ 1 [.int .u8 y] hs hown ad n c ((List.range n).map fun j => .int .u8 (f j)) hx (by simp) ?_ ?_ (by unfold maxLen; omega) (by omega) (Nat.le_of_lt hg.lt) ?_
    · intro j u hu
      by_cases hj : j < n
      · simp [hj] at hu
        subst hu
        obtain ⟨ad', h1, _, h3, _⟩ := hB.cell j hj
        cases h1
        exact h3
      · simp [hj] at hu
    · intro u hu
      simp at hu
      obtain ⟨j, _, rfl⟩ := hu
      rfl
    · intro v' w' hown' hgr _
      rcases hown'.2 with ⟨_, h1⟩ | ⟨g', cap, cur, rfl, hb', hg2, hnc, hcm, hcs, htake⟩
      · omega
      · rw [Nat.add_comm 1 n]
        refine h _ cap w' ⟨by unfold maxLen; omega, fun j hj => ?_⟩ ⟨hgr.os, hgr.tape, hgr.output, hgr.size, fun k hk => hgr.block k (Nat.lt_trans hk hg.lt) (by simp [Value.ownBlock]; omega)⟩
        have hc := hown'.cells (g := g') rfl j
        refine ⟨_, rfl, (Array.getElem?_eq_some_iff.1 hg2).1, ?_, ?_⟩
        · refine hc _ ?_
          unfold ahead
          cases j with
          | zero => simp
          | succ j =>
            have hjn : j < n := by omega
            simp [hjn]
        · unfold ahead
          split
          · exact hy
          · exact (hB.cell (j - 1) (by omega)).choose_spec.2.2.2
end Go.Proofs.Ytfpjiclkhjdihaa
