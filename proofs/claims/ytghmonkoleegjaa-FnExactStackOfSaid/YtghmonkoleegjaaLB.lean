/- Slices of layers: opened as an argument, made, copied. -/
import Derived.Test.YtghmonkoleegjaaCM
import Derived.ProofKit
import Derived.OpenShut
import Derived.WideShapes
import Derived.ChangeArms
import Derived.Laws.MakeOwn
namespace Go.Proofs.Ytghmonkoleegjaa
open Go.RowKit
set_option maxRecDepth 100000

theorem trod_float {H : Type} {enc : TypeId × Value → H} {P : Program} {w : World} {base : Nat} {spare : Nat → Bool} {held : Bool} {fuel : Nat} {t : TypeId} {cs : List Value} {x : DataW H × List MemPlace} {k : FloatKind} (ht : P.underlying t = some (.float k)) (h : DataW.trod enc P w base spare held fuel t cs = some x) : ∃ b, cs = [.float k b] := by
  cases fuel with
  | zero => simp [DataW.trod] at h
  | succ n =>
    unfold DataW.trod at h
    rw [ht] at h
    split at h <;> simp_all
/-- The cells of an array of float32. -/
theorem trod_row {H : Type} {enc : TypeId × Value → H} {P : Program} {w : World} {base : Nat} {spare : Nat → Bool} {held : Bool} {fuel : Nat} {t e : TypeId} {cs : List Value} {x : DataW H × List MemPlace} {n : Nat} (ht : P.underlying t = some (.array n e)) (he : P.underlying e = some (.float .f32)) (hc : P.cellsOf e = 1) (h : DataW.trod enc P w base spare held fuel t cs = some x) :
    ∀ i, i < n → ∃ b, cs[i]? = some (.float .f32 b) := by
  obtain ⟨xs, m, _, _, _, hl, hx⟩ := DataW.trod_array ht h
  intro i hi
  have h1 := hx i hi
  rw [hc, Nat.mul_one] at h1
  obtain ⟨y, hy⟩ : ∃ y, xs[i]? = some y := ⟨_, List.getElem?_eq_getElem (by omega)⟩
  rw [hy] at h1
  obtain ⟨b, hb⟩ := trod_float he h1
  refine ⟨b, ?_⟩
  have h2 := congrArg (fun l => l[0]?) hb
  simpa [List.getElem?_take, List.getElem?_drop] using h2
/-- Layers as they lie in memory. -/
structure Lays (w : World) (a : Option Addr) (len : Nat) (f : Nat → Nat) : Prop where
  small : len ≤ maxLen
  cell : 0 < len → ∃ g o, a = some ⟨g, o, none⟩ ∧ g < w.heap.size ∧ ∀ k, k < 33 * len → w.cell? ⟨g, o + k, none⟩ = some (.float .f32 (f k))
theorem Lays.below {w w' : World} {a : Option Addr} {len : Nat} {f : Nat → Nat} (h : Lays w a len f) (hb : Below w.heap.size w w') : Lays w' a len f :=
  ⟨h.small, fun h0 => by
    obtain ⟨g, o, h1, h2, h3⟩ := h.cell h0
    exact ⟨g, o, h1, Nat.lt_of_lt_of_le h2 hb.size, fun k hk => by rw [hb.cell (p := ⟨g, o + k, none⟩) h2]; exact h3 k hk⟩⟩
theorem Lays.to {B : Nat} {w w' : World} {a : Option Addr} {len : Nat} {f : Nat → Nat} (h : Lays w a len f) (hb : Below B w w') (hB : w.heap.size ≤ B) : Lays w' a len f := h.below (hb.mono hB)
theorem Lays.range {w : World} {g o len : Nat} {f : Nat → Nat} {i : Nat} (h : ∀ k, k < 33 * len → w.cell? ⟨g, o + k, none⟩ = some (.float .f32 (f k))) (hi : i < len) : w.rangeAt g (o + i * 33) (fA 33 (rowAt f (i * 33))).toList := by
  intro j v hv
  rw [Array.getElem?_toList, get_fA] at hv
  by_cases hj : j < 33
  · rw [if_pos hj] at hv
    rw [show o + i * 33 + j = o + (i * 33 + j) by omega, h (i * 33 + j) (by omega)]
    exact hv
  · rw [if_neg hj] at hv
    cases hv
/-- A slice of layers among the arguments, opened. -/
theorem open_lays {H : Type} {enc : TypeId × Value → H} {P : Program} {W : World} {held : Bool} {t e c u : TypeId} {a : Option Addr} {len cap : Nat} {d : DataW H} {ps : List MemPlace} {f0 f1 f2 : Field}
    (ht : P.underlying t = some (.slice e)) (he : P.underlying e = some (.struct #[f0, f1, f2])) (h0 : f0.offset = 0 ∧ f0.type = c) (h1 : f1.offset = 16 ∧ f1.type = c) (h2 : f2.offset = 32 ∧ f2.type = u) (hc : P.underlying c = some (.array 16 u)) (hu : P.underlying u = some (.float .f32)) (cu : P.cellsOf u = 1) (cc : P.cellsOf c = 16) (ce : P.cellsOf e = 33)
    (h : DataW.Trod enc P W 0 (fun _ => true) held t (.slice a len cap) d ps) : ∃ f, Lays W a len f := by
  obtain ⟨fuel, hf⟩ := h
  rcases DataW.trod_slice ht hf with ⟨hcs, _⟩ | ⟨x, l, k, elems, rest, n, _, hcs, _, _, hl, hm, hlen, hel, _, _⟩
  · simp [Value.cells] at hcs
    obtain ⟨rfl, rfl, rfl⟩ := hcs
    exact ⟨fun _ => 0, Nat.zero_le _, fun h => absurd h (by omega)⟩
  · simp [Value.cells] at hcs
    obtain ⟨rfl, rfl, rfl⟩ := hcs
    -- each element's cells
    have key : ∀ i, i < len → ∀ j, j < 33 → ∃ b, W.cell? ((x.add (i * 33)).add j) = some (.float .f32 b) := by
      intro i hi
      have h3 := hel i hi
      rw [ce] at h3
      obtain ⟨y, hy⟩ : ∃ y, elems[i]? = some y := ⟨_, List.getElem?_eq_getElem (by omega)⟩
      rw [hy, Option.bind_eq_some_iff] at h3
      obtain ⟨cs, hcs, hty⟩ := h3
      obtain ⟨_, hcl, hcc⟩ := World.cells?_some hcs
      obtain ⟨xs, m, _, _, _, hxl, hxx⟩ := DataW.trod_struct he hty
      have g0 := hxx 0 f0 rfl
      have g1 := hxx 1 f1 rfl
      have g2 := hxx 2 f2 rfl
      have hxl' : xs.length = 3 := hxl
      obtain ⟨y0, hy0⟩ : ∃ y, xs[0]? = some y := ⟨_, List.getElem?_eq_getElem (by omega)⟩
      obtain ⟨y1, hy1⟩ : ∃ y, xs[1]? = some y := ⟨_, List.getElem?_eq_getElem (by omega)⟩
      obtain ⟨y2, hy2⟩ : ∃ y, xs[2]? = some y := ⟨_, List.getElem?_eq_getElem (by omega)⟩
      rw [h0.1, h0.2, hy0, cc] at g0
      rw [h1.1, h1.2, hy1, cc] at g1
      rw [h2.1, h2.2, hy2, cu] at g2
      have r0 := trod_row hc hu cu g0
      have r1 := trod_row hc hu cu g1
      obtain ⟨b2, r2⟩ := trod_float hu g2
      intro j hj
      rw [hcc j hj]
      by_cases j0 : j < 16
      · obtain ⟨b, hb⟩ := r0 j j0
        exact ⟨b, by simpa [List.getElem?_take, List.getElem?_drop, j0] using hb⟩
      · by_cases j1 : j < 32
        · obtain ⟨b, hb⟩ := r1 (j - 16) (by omega)
          refine ⟨b, ?_⟩
          rw [List.getElem?_take, if_pos (by omega), List.getElem?_drop, show 16 + (j - 16) = j by omega] at hb
          exact hb
        · obtain rfl : j = 32 := by omega
          refine ⟨b2, ?_⟩
          have h4 := congrArg (fun l => l[0]?) r2
          simpa [List.getElem?_take, List.getElem?_drop] using h4
    refine ⟨fun k => match W.cell? ⟨x.block, x.off + k, none⟩ with | some (.float _ b) => b | _ => 0, Nat.le_trans hl hm, fun hpos => ?_⟩
    have hs : x.spot = none := by
      obtain ⟨b, hb⟩ := key 0 hpos 0 (by omega)
      have e0 : (x.add (0 * 33)).add 0 = x := by simp [Addr.add]
      rw [e0] at hb
      unfold World.cell? at hb
      split at hb
      · rename_i c _ _ _
        cases hsp : x.spot with
        | none => rfl
        | some s => rw [hsp] at hb; simp at hb
      · cases hb
    have hx : x = ⟨x.block, x.off, none⟩ := by cases x; simp at hs; subst hs; rfl
    have hcell : ∀ k, k < 33 * len → ∃ b, W.cell? ⟨x.block, x.off + k, none⟩ = some (.float .f32 b) := by
      intro k hk
      obtain ⟨b, hb⟩ := key (k / 33) (by omega) (k % 33) (Nat.mod_lt _ (by omega))
      have e1 : (x.add (k / 33 * 33)).add (k % 33) = ⟨x.block, x.off + k, none⟩ := by
        have h5 := Nat.div_add_mod k 33
        have h6 : k / 33 * 33 + k % 33 = k := by omega
        rw [hx]
        unfold Addr.add
        by_cases q1 : k / 33 * 33 = 0
        · rw [if_pos q1]
          by_cases q2 : k % 33 = 0
          · rw [if_pos q2]; congr 1; simp only; omega
          · rw [if_neg q2]; congr 1; simp only; omega
        · rw [if_neg q1]
          by_cases q2 : k % 33 = 0
          · rw [if_pos q2]; congr 1; simp only; omega
          · rw [if_neg q2]; congr 1; simp only; omega
      rw [e1] at hb
      exact ⟨b, hb⟩
    refine ⟨x.block, x.off, congrArg some hx, ?_, fun k hk => ?_⟩
    · obtain ⟨b, hb⟩ := hcell 0 (by omega)
      apply Nat.lt_of_not_le
      intro hge
      have h3 : (W.heap[x.block]?) = none := Array.getElem?_eq_none hge
      simp [World.cell?, h3] at hb
    · obtain ⟨b, hb⟩ := hcell k hk
      rw [hb]
/-- A row of layers is made. -/
theorem run_make_lays {P : Program} (w : World) {t e : TypeId} (ht : P.underlying t = some (.slice e)) (hi : (P.info? e).map (fun i => (i.zero, i.size, i.bytes)) = some (some (.agg (fA 33 fun _ => 0)), 33, 132)) {n : Nat} (hn : n ≤ 1048576) :
    (Instr.makeSlice t (.int .i64 n) (.int .i64 n)).run P w = .ok (.slice (some ⟨w.heap.size, 0, none⟩) n n) (w.alloc (.cells (fA (33 * n) fun _ => 0) e)) := by
  cases hq : P.info? e with
  | none => simp [hq] at hi
  | some i =>
    simp only [hq, Option.map_some, Option.some.injEq, Prod.mk.injEq] at hi
    obtain ⟨h1, h2, h3⟩ := hi
    have hr := run_make (P := P) w t e i _ ht hq h1 .i64 .i64 n n (by omega) (Int.le_refl _) (by rw [h3]; omega) (by omega)
    rw [hr]
    simp only [Int.toNat_natCast]
    have e1 : madeCells (Value.agg (fA 33 fun _ => 0)).cells (n * i.size) = fA (33 * n) fun _ => 0 := by
      rw [h2, Nat.mul_comm]
      apply Array.ext_getElem?
      intro k
      rw [get_fA]
      have hc : (Value.agg (fA 33 fun _ => 0)).cells = fA 33 fun _ => 0 := rfl
      rw [hc]
      by_cases hk : k < 33 * n
      · rw [if_pos hk]
        have hm : k % 33 < 33 := Nat.mod_lt _ (by omega)
        have hg := get_fA_lt (fun _ => 0) hm
        simp [madeCells, hk]
        rw [Array.getElem!_eq_getD, Array.getD_eq_getD_getElem?, hg]
        rfl
      · rw [if_neg hk, Array.getElem?_eq_none (by simp [madeCells]; omega)]
    rw [e1]
end Go.Proofs.Ytghmonkoleegjaa
