/- Slices of layers: opened as an argument, made, copied. Contracts: layers that lie within a row: valid, their films. Contracts: stacks of layers, first part: tests of slices of layers, copies of them. Stacks of layers as films; what the law compares. Contracts: stacks of layers, the program. Contracts: stacks of layers, the reference. -/
import Derived.Test.YtnfnlgmnnjgemaaGreatDoorCN
import Derived.ProofKit
import Derived.OpenShut
import Derived.WideShapes
import Derived.ChangeArms
import Derived.Laws.MakeOwn
import Derived.Test.YtnfnlgmnnjgemaaGreatDoorDM
import Derived.Test.YtnfnlgmnnjgemaaGreatDoorDO
import Derived.Test.YtnfnlgmnnjgemaaGreatDoorHeld
namespace Go.Proofs.YtnfnlgmnnjgemaaGreatDoor
open Go.RowKit
set_option maxRecDepth 100000

theorem trod_float {H : Type} {enc : TypeId × Value → H} {P : Program} {w : World} {base : Nat} {spare : Nat → Bool} {held : Bool} {fuel : Nat} {t : TypeId} {cs : List Value} {x : DataW H × List MemPlace} {k : FloatKind} (ht : P.underlying t = some (.float k)) (h : DataW.trod enc P w base spare held fuel t cs = some x) : ∃ b, cs = [.float k b] := by
  cases fuel with
  | zero => simp [DataW.trod] at h
  | succ n =>
    unfold DataW.trod at h
    rw [ht] at h
    split at h <;> simp_all
/-- The cells of an array of float32. -/
theorem trod_row {H : Type} {enc : TypeId × Value → H} {P : Program} {w : World} {base : Nat} {spare : Nat → Bool} {held : Bool} {fuel : Nat} {t e : TypeId} {cs : List Value} {x : DataW H × List MemPlace} {n : Nat} (ht : P.underlying t = some (.array n e)) (he : P.underlying e = some (.float .f32)) (hc : P.cellsOf e = 1) (h : DataW.trod enc P w base spare held fuel t cs = some x) :
    ∀ i, i < n → ∃ b, cs[i]? = some (.float .f32 b) := by
  obtain ⟨xs, m, _, _, _, hl, hx⟩ := DataW.trod_array ht h
  intro i hi
  have h1 := hx i hi
  rw [hc, Nat.mul_one] at h1
  obtain ⟨y, hy⟩ : ∃ y, xs[i]? = some y := ⟨_, List.getElem?_eq_getElem (by omega)⟩
  rw [hy] at h1
  obtain ⟨b, hb⟩ := trod_float he h1
  refine ⟨b, ?_⟩
  have h2 := congrArg (fun l => l[0]?) hb
  simpa [List.getElem?_take, List.getElem?_drop] using h2
/-- Layers as they lie in memory. -/
structure Lays (w : World) (a : Option Addr) (len : Nat) (f : Nat → Nat) : Prop where
  small : len ≤ maxLen
  cell : 0 < len → ∃ g o, a = some ⟨g, o, none⟩ ∧ g < w.heap.size ∧ ∀ k, k < 33 * len → w.cell? ⟨g, o + k, none⟩ = some (.float .f32 (f k))
theorem Lays.below {w w' : World} {a : Option Addr} {len : Nat} {f : Nat → Nat} (h : Lays w a len f) (hb : Below w.heap.size w w') : Lays w' a len f :=
  ⟨h.small, fun h0 => by
    obtain ⟨g, o, h1, h2, h3⟩ := h.cell h0
    exact ⟨g, o, h1, Nat.lt_of_lt_of_le h2 hb.size, fun k hk => by rw [hb.cell (p := ⟨g, o + k, none⟩) h2]; exact h3 k hk⟩⟩
theorem Lays.to {B : Nat} {w w' : World} {a : Option Addr} {len : Nat} {f : Nat → Nat} (h : Lays w a len f) (hb : Below B w w') (hB : w.heap.size ≤ B) : Lays w' a len f := h.below (hb.mono hB)
theorem Lays.range {w : World} {g o len : Nat} {f : Nat → Nat} {i : Nat} (h : ∀ k, k < 33 * len → w.cell? ⟨g, o + k, none⟩ = some (.float .f32 (f k))) (hi : i < len) : w.rangeAt g (o + i * 33) (fA 33 (rowAt f (i * 33))).toList := by
  intro j v hv
  rw [Array.getElem?_toList, get_fA] at hv
  by_cases hj : j < 33
  · rw [if_pos hj] at hv
    rw [show o + i * 33 + j = o + (i * 33 + j) by omega, h (i * 33 + j) (by omega)]
    exact hv
  · rw [if_neg hj] at hv
    cases hv
/-- A slice of layers among the arguments, opened. -/
theorem open_lays {H : Type} {enc : TypeId × Value → H} {P : Program} {W : World} {held : Bool} {t e c u : TypeId} {a : Option Addr} {len cap : Nat} {d : DataW H} {ps : List MemPlace} {f0 f1 f2 : Field}
    (ht : P.underlying t = some (.slice e)) (he : P.underlying e = some (.struct #[f0, f1, f2])) (h0 : f0.offset = 0 ∧ f0.type = c) (h1 : f1.offset = 16 ∧ f1.type = c) (h2 : f2.offset = 32 ∧ f2.type = u) (hc : P.underlying c = some (.array 16 u)) (hu : P.underlying u = some (.float .f32)) (cu : P.cellsOf u = 1) (cc : P.cellsOf c = 16) (ce : P.cellsOf e = 33)
    (h : DataW.Trod enc P W 0 (fun _ => true) held t (.slice a len cap) d ps) : ∃ f, Lays W a len f := by
  obtain ⟨fuel, hf⟩ := h
  rcases DataW.trod_slice ht hf with ⟨hcs, _⟩ | ⟨x, l, k, elems, rest, n, _, hcs, _, _, hl, hm, hlen, hel, _, _⟩
  · simp [Value.cells] at hcs
    obtain ⟨rfl, rfl, rfl⟩ := hcs
    exact ⟨fun _ => 0, Nat.zero_le _, fun h => absurd h (by omega)⟩
  · simp [Value.cells] at hcs
    obtain ⟨rfl, rfl, rfl⟩ := hcs
    -- each element's cells
    have key : ∀ i, i < len → ∀ j, j < 33 → ∃ b, W.cell? ((x.add (i * 33)).add j) = some (.float .f32 b) := by
      intro i hi
      have h3 := hel i hi
      rw [ce] at h3
      obtain ⟨y, hy⟩ : ∃ y, elems[i]? = some y := ⟨_, List.getElem?_eq_getElem (by omega)⟩
      rw [hy, Option.bind_eq_some_iff] at h3
      obtain ⟨cs, hcs, hty⟩ := h3
      obtain ⟨_, hcl, hcc⟩ := World.cells?_some hcs
      obtain ⟨xs, m, _, _, _, hxl, hxx⟩ := DataW.trod_struct he hty
      have g0 := hxx 0 f0 rfl
      have g1 := hxx 1 f1 rfl
      have g2 := hxx 2 f2 rfl
      have hxl' : xs.length = 3 := hxl
      obtain ⟨y0, hy0⟩ : ∃ y, xs[0]? = some y := ⟨_, List.getElem?_eq_getElem (by omega)⟩
      obtain ⟨y1, hy1⟩ : ∃ y, xs[1]? = some y := ⟨_, List.getElem?_eq_getElem (by omega)⟩
      obtain ⟨y2, hy2⟩ : ∃ y, xs[2]? = some y := ⟨_, List.getElem?_eq_getElem (by omega)⟩
      rw [h0.1, h0.2, hy0, cc] at g0
      rw [h1.1, h1.2, hy1, cc] at g1
      rw [h2.1, h2.2, hy2, cu] at g2
      have r0 := trod_row hc hu cu g0
      have r1 := trod_row hc hu cu g1
      obtain ⟨b2, r2⟩ := trod_float hu g2
      intro j hj
      rw [hcc j hj]
      by_cases j0 : j < 16
      · obtain ⟨b, hb⟩ := r0 j j0
        exact ⟨b, by simpa [List.getElem?_take, List.getElem?_drop, j0] using hb⟩
      · by_cases j1 : j < 32
        · obtain ⟨b, hb⟩ := r1 (j - 16) (by omega)
          refine ⟨b, ?_⟩
          rw [List.getElem?_take, if_pos (by omega), List.getElem?_drop, show 16 + (j - 16) = j by omega] at hb
          exact hb
        · obtain rfl : j = 32 := by omega
          refine ⟨b2, ?_⟩
          have h4 := congrArg (fun l => l[0]?) r2
          simpa [List.getElem?_take, List.getElem?_drop] using h4
    refine ⟨fun k => match W.cell? ⟨x.block, x.off + k, none⟩ with | some (.float _ b) => b | _ => 0, Nat.le_trans hl hm, fun hpos => ?_⟩
    have hs : x.spot = none := by
      obtain ⟨b, hb⟩ := key 0 hpos 0 (by omega)
      have e0 : (x.add (0 * 33)).add 0 = x := by simp [Addr.add]
      rw [e0] at hb
      unfold World.cell? at hb
      split at hb
      · rename_i c _ _ _
        cases hsp : x.spot with
        | none => rfl
        | some s => rw [hsp] at hb; simp at hb
      · cases hb
    have hx : x = ⟨x.block, x.off, none⟩ := by cases x; simp at hs; subst hs; rfl
    have hcell : ∀ k, k < 33 * len → ∃ b, W.cell? ⟨x.block, x.off + k, none⟩ = some (.float .f32 b) := by
      intro k hk
      obtain ⟨b, hb⟩ := key (k / 33) (by omega) (k % 33) (Nat.mod_lt _ (by omega))
      have e1 : (x.add (k / 33 * 33)).add (k % 33) = ⟨x.block, x.off + k, none⟩ := by
        have h5 := Nat.div_add_mod k 33
        have h6 : k / 33 * 33 + k % 33 = k := by omega
        rw [hx]
        unfold Addr.add
        by_cases q1 : k / 33 * 33 = 0
        · rw [if_pos q1]
          by_cases q2 : k % 33 = 0
          · rw [if_pos q2]; congr 1; simp only; omega
          · rw [if_neg q2]; congr 1; simp only; omega
        · rw [if_neg q1]
          by_cases q2 : k % 33 = 0
          · rw [if_pos q2]; congr 1; simp only; omega
          · rw [if_neg q2]; congr 1; simp only; omega
      rw [e1] at hb
      exact ⟨b, hb⟩
    refine ⟨x.block, x.off, congrArg some hx, ?_, fun k hk => ?_⟩
    · obtain ⟨b, hb⟩ := hcell 0 (by omega)
      apply Nat.lt_of_not_le
      intro hge
      have h3 : (W.heap[x.block]?) = none := Array.getElem?_eq_none hge
      simp [World.cell?, h3] at hb
    · obtain ⟨b, hb⟩ := hcell k hk
      rw [hb]
/-- A row of layers is made. -/
theorem run_make_lays {P : Program} (w : World) {t e : TypeId} (ht : P.underlying t = some (.slice e)) (hi : (P.info? e).map (fun i => (i.zero, i.size, i.bytes)) = some (some (.agg (fA 33 fun _ => 0)), 33, 132)) {n : Nat} (hn : n ≤ 1048576) :
    (Instr.makeSlice t (.int .i64 n) (.int .i64 n)).run P w = .ok (.slice (some ⟨w.heap.size, 0, none⟩) n n) (w.alloc (.cells (fA (33 * n) fun _ => 0) e)) := by
  cases hq : P.info? e with
  | none => simp [hq] at hi
  | some i =>
    simp only [hq, Option.map_some, Option.some.injEq, Prod.mk.injEq] at hi
    obtain ⟨h1, h2, h3⟩ := hi
    have hr := run_make (P := P) w t e i _ ht hq h1 .i64 .i64 n n (by omega) (Int.le_refl _) (by rw [h3]; omega) (by omega)
    rw [hr]
    simp only [Int.toNat_natCast]
    have e1 : madeCells (Value.agg (fA 33 fun _ => 0)).cells (n * i.size) = fA (33 * n) fun _ => 0 := by
      rw [h2, Nat.mul_comm]
      apply Array.ext_getElem?
      intro k
      rw [get_fA]
      have hc : (Value.agg (fA 33 fun _ => 0)).cells = fA 33 fun _ => 0 := rfl
      rw [hc]
      by_cases hk : k < 33 * n
      · rw [if_pos hk]
        have hm : k % 33 < 33 := Nat.mod_lt _ (by omega)
        have hg := get_fA_lt (fun _ => 0) hm
        simp [madeCells, hk]
        rw [Array.getElem!_eq_getD, Array.getD_eq_getD_getElem?, hg]
        rfl
      · rw [if_neg hk, Array.getElem?_eq_none (by simp [madeCells]; omega)]
    rw [e1]
end Go.Proofs.YtnfnlgmnnjgemaaGreatDoor

namespace Go.Proofs.YtnfnlgmnnjgemaaGreatDoor
open Go.RowKit
set_option maxRecDepth 100000

theorem l02OkAt_any (g o n : Nat) (T : TypeId) (F : Nat → Nat) (w : World) (ho : o + 33 ≤ n) (hA : Blk w g T (fA n F)) : Calls Tryz.prog 25 #[.pointer (some ⟨g, o, none⟩)] w (RetB w (layerOk (rowAt F o))) := by
  have r0 : rowAt F o = rowAt (rowAt F o) 0 := by funext j; simp [rowAt]
  have r1 : rowAt F (o + 16) = rowAt (rowAt F o) 16 := by funext j; simp [rowAt, Nat.add_assoc]
  have R0 := Lib.hid r0
  have R1 := Lib.hid r1
  clear r0 r1
  go_enter Tryz.func25, Tryz.ntmps25
  go_wp2_with (refine wpList_load_part rfl 26 _ rfl (o) 16 hA rfl (by omega) Tryz.underlying26 rfl (by kernel_rfl) ?_)
  rw [R0.out]
  generalize ha : rowAt F o = a at *
  refine (l02Amounts_any (rowAt a 0) w).mono ?_
  rintro e w1 ⟨rfl, hb⟩
  have hA := hA.below hb hA.lt
  cases h0 : (allTo 16 fun i => amount (canon .f32 (rowAt a 0 i))) with
  | false =>
    have H0 := Lib.hid h0
    clear h0
    go_wp2
    go_ret
    exact ⟨congrArg (fun x => Ending.returned (Value.bool x)) (by have h := H0.out; simp only [layerOk, h, Bool.false_and]), hb⟩
  | true =>
    have H0 := Lib.hid h0
    clear h0
    go_wp2_with (refine wpList_load_partW rfl 26 _ rfl (o + 16) 16 hA rfl (by omega) Tryz.underlying26 rfl (by kernel_rfl) ?_)
    rw [R1.out]
    refine (l02Amounts_any (rowAt a 16) w1).mono ?_
    rintro e w2 ⟨rfl, hb1⟩
    have hA := hA.below hb1 hA.lt
    have hb := bCall hb hb1 hb.size
    clear hb1
    cases h1 : (allTo 16 fun i => amount (canon .f32 (rowAt a 16 i))) with
    | false =>
      have H1 := Lib.hid h1
      clear h1
      go_wp2
      go_ret
      exact ⟨congrArg (fun x => Ending.returned (Value.bool x)) (by have h := H1.out; simp only [layerOk, h, Bool.and_false, Bool.false_and]), hb⟩
    | true =>
      have H1 := Lib.hid h1
      clear h1
      have c1 : w2.cell? ⟨g, o + 32, none⟩ = some (.float .f32 (a 32)) := (hA.cell (o + 32)).trans ((get_fA_lt F (by omega)).trans (by rw [← ha]; rfl))
      clear ha
      go_wp2_with fail
      refine (l02Amount_any (a 32) w2).mono ?_
      rintro e w3 ⟨rfl, n, rfl⟩
      go_wp2
      go_ret
      exact ⟨congrArg (fun x => Ending.returned (Value.bool x)) (by have h := H0.out; have h' := H1.out; simp only [layerOk, h, h', Bool.true_and]), (by repeat (first | assumption | exact Below.refl _ _ | refine bDrew ?_ _ | refine Below.alloc ?_ (by first | omega | (simp; done) | (simp; omega)) _ | refine Below.setCell ?_ (by first | omega | (simp; done) | (simp; omega)) _ | refine bRow ?_ (by first | omega | (simp; done) | (simp; omega)) _))⟩
set_option maxHeartbeats 2000000 in
theorem l02FilmAt_any (g o nn : Nat) (T : TypeId) (F : Nat → Nat) (a : Nat → Nat) (ha : ∀ j, a j = F (o + j)) (w : World) (ho : o + 33 ≤ nn) (hA : Blk w g T (fA nn F)) : Calls Tryz.prog 26 #[.pointer (some ⟨g, o, none⟩)] w (RetCC 48 w (filmMade fun i => canon .f32 (a i)).1 (filmMade fun i => canon .f32 (a i)).2) := by
  have Ha := Lib.hid ha
  clear ha
  have hg := hA.lt
  have hZ : Blk ((w.alloc (.cells (fA 48 fun _ => 0) 31)).alloc (.cells (fA 48 fun _ => 0) 31)) w.heap.size 31 (fA 48 fun _ => 0) := (Blk.new _ _ _).alloc _
  have hO : Blk ((w.alloc (.cells (fA 48 fun _ => 0) 31)).alloc (.cells (fA 48 fun _ => 0) 31)) (w.heap.size + 1) 31 (fA 48 fun _ => 0) := Blk.new_at _ _ (by simp) rfl
  have hb : Below w.heap.size w ((w.alloc (.cells (fA 48 fun _ => 0) 31)).alloc (.cells (fA 48 fun _ => 0) 31)) := (by repeat (first | assumption | exact Below.refl _ _ | refine bDrew ?_ _ | refine Below.alloc ?_ (by first | omega | (simp; done) | (simp; omega)) _ | refine Below.setCell ?_ (by first | omega | (simp; done) | (simp; omega)) _ | refine bRow ?_ (by first | omega | (simp; done) | (simp; omega)) _))
  have hA2 : Blk (((w.alloc (.cells (fA 48 fun _ => 0) 31)).alloc (.cells (fA 48 fun _ => 0) 31)).setRow (w.heap.size + 1) (fA 48 fun _ => 0)) g T (fA nn F) := ((hA.alloc _).alloc _).farRow (by omega)
  have c0 : ∀ o1 o2 cs, (((w.alloc o1).alloc o2).setRow (w.heap.size + 1) cs).cell? ⟨g, o + 32, none⟩ = some (.float .f32 (a 32)) := fun o1 o2 cs => (Blk.cell (((hA.alloc o1).alloc o2).farRow (g' := w.heap.size + 1) (cs' := cs) (by omega)) (o + 32)).trans ((get_fA_lt F (by omega)).trans (by rw [Ha.out]))
  go_enter Tryz.func26, Tryz.ntmps26
  go_upto_region 2 with (first | (refine wpList_build_as rfl 31 _ rfl (fA 48 fun _ => 0) (by kernel_rfl) ?_) | (refine wpList_store_row rfl 31 _ _ rfl _ _ rfl rfl _ _ hO (by kernel_rfl) (by simp only [size_fA]) (all_fA _ _) ?_))
  go_simp
  go_cut [5] from 5 (fun x wc => ∃ X, x = .float .f32 X ∧ Hid (canon .f32 X = thinX (canon .f32 (a 32))) ∧ Below w.heap.size w wc ∧ Blk wc g T (fA nn F) ∧ Blk wc w.heap.size 31 (fA 48 fun _ => 0) ∧ Blk wc (w.heap.size + 1) 31 (fA 48 fun _ => 0))
  case first =>
    go_wp2
    go_meet
    case rel => exact ⟨_, rfl, Lib.hid (c_div ..), bDrew (bRow hb (by omega) _) _, Blk.drewN hA2 _, Blk.drewN (hZ.farRow (by omega)) _, Blk.drewN hO.setRow _⟩
  case rest =>
  clear hZ hO hb hA2 c0 hA
  obtain ⟨X, rfl, HX, hb, hA, hZ, hO⟩ := hcut
  go_wp2
  go_loopw [6, 7, 8, 9, 10, 11] (fun i _ _ _ _ _ wr => ∃ (k : Nat) (cur : Nat → Nat), k ≤ 16 ∧ i = .int .i64 k ∧ Below w.heap.size w wr ∧ Blk wr g T (fA nn F) ∧ Blk wr w.heap.size 31 (fA 48 fun _ => 0) ∧ Blk wr (w.heap.size + 1) 31 (fA 48 cur) ∧ Hid ((∀ j, j < k → (!tooStrong (canon .f32 (a j)) (canon .f32 (a (16 + j))) (thinX (canon .f32 (a 32)))) = true) ∧ Filled (fun i => canon .f32 (a i)) cur k)) (fun i _ _ _ _ _ _ => 16 - (intOf i).toNat)
  case atStart => exact ⟨0, fun _ => 0, by omega, rfl, hb, hA, hZ, hO, Lib.hid ⟨fun j h => absurd h (by omega), fun j h => absurd h (by omega)⟩⟩
  case round =>
    clear hO hA hZ hb
    obtain ⟨k, cur, hk, rfl, hb, hA, hZ, hC, HC⟩ := hrel
    by_cases hlt : k < 16
    · have c0 : wr.cell? ⟨g, o + k, none⟩ = some (.float .f32 (a k)) := (hA.cell (o + k)).trans ((get_fA_lt F (by omega)).trans (by rw [Ha.out]))
      have c1 : wr.cell? ⟨g, o + 16 + k, none⟩ = some (.float .f32 (a (16 + k))) := (hA.cell (o + 16 + k)).trans ((get_fA_lt F (by omega)).trans (by rw [Ha.out, Nat.add_assoc]))
      go_wp2_with fail
      (refine wp_region_loose_lit (fun w' => ∃ n, w' = wr.drewN n) (fun _ _ _ => False) (by kernel_rfl) (by kernel_rfl) ⟨fcnt .mul .f32 (a (16 + k)) X + 1, rfl⟩ ?_)
      repeat (refine wpLoose_plain rfl (fun K hK w1 hw1 => ?_); obtain ⟨n, rfl⟩ := hw1; go_simp; refine ⟨⟨_, rfl⟩, hK _ ?_⟩; clear hK K)
      (refine wpLoose_nil ?_; intro _ hw'; obtain ⟨nq, rfl⟩ := hw')
      clear c0 c1
      have hc1 : ∀ w1 w2 w3 w4, (FloatKind.f32.format.order (fval .sub .f32 (fval .sub .f32 1065353216 (fval .mul .f32 (a k) X w1) w2) (fval .mul .f32 (a (16 + k)) X w3) w4) 0 == some .lt) = flt (thinT (canon .f32 (a k)) (canon .f32 (a (16 + k))) (thinX (canon .f32 (a 32)))) (canon .f32 0) := fun w1 w2 w3 w4 => by rw [o_lt, c_sub, c_sub, c_mul, c_mul, HX.out]; rfl
      have hc2 : ∀ w1, (FloatKind.f32.format.order (fval .mul .f32 (a (16 + k)) X w1) 1065353216 == some .gt) = fgt (thinR (canon .f32 (a (16 + k))) (thinX (canon .f32 (a 32)))) (canon .f32 1065353216) := fun w1 => by rw [o_gt, c_mul, HX.out]; rfl
      cases h1 : flt (thinT (canon .f32 (a k)) (canon .f32 (a (16 + k))) (thinX (canon .f32 (a 32)))) (canon .f32 0) with
      | true =>
        have Hm : Hid ((filmMade fun i => canon .f32 (a i)) = (fun _ => canon .f32 0, 3)) := Lib.hid (by
          have hq : (allTo 16 fun i => !tooStrong (canon .f32 (a i)) (canon .f32 (a (16 + i))) (thinX (canon .f32 (a 32)))) = false := allTo_false hlt (by simp only [tooStrong, strong, h1, Bool.true_or, Bool.not_true])
          simp only [filmMade, hq, Bool.false_eq_true, if_false])
        rw [h1] at hc1
        have hZ := Blk.drewN hZ nq
        have hb := bDrew hb nq
        clear h1 hc2
        go_wp2_with (first | (refine wpList_build_as rfl 31 _ rfl (fA 48 fun _ => 0) (by kernel_rfl) ?_) | (refine wpList_store_row rfl 31 _ _ rfl _ _ rfl rfl _ _ hZ (by kernel_rfl) (by simp only [size_fA]) (all_fA _ _) ?_)); exact bodyPost_ret (results_cell_row2 rfl _ _ (w.heap.size) _ _ _ _ rfl hZ.setRow Tryz.underlying31 rfl (by kernel_rfl)) rfl (RetCC.as Hm.out ⟨_, rfl, fun _ _ => rfl, (by repeat (first | assumption | exact Below.refl _ _ | refine bDrew ?_ _ | refine Below.alloc ?_ (by first | omega | (simp; done) | (simp; omega)) _ | refine Below.setCell ?_ (by first | omega | (simp; done) | (simp; omega)) _ | refine bRow ?_ (by first | omega | (simp; done) | (simp; omega)) _))⟩)
      | false =>
        rw [h1] at hc1
        cases h2 : fgt (thinR (canon .f32 (a (16 + k))) (thinX (canon .f32 (a 32)))) (canon .f32 1065353216) with
        | true =>
          have Hm : Hid ((filmMade fun i => canon .f32 (a i)) = (fun _ => canon .f32 0, 3)) := Lib.hid (by
            have hq : (allTo 16 fun i => !tooStrong (canon .f32 (a i)) (canon .f32 (a (16 + i))) (thinX (canon .f32 (a 32)))) = false := allTo_false hlt (by simp only [tooStrong, strong, h1, h2, Bool.false_or, Bool.not_true])
            simp only [filmMade, hq, Bool.false_eq_true, if_false])
          rw [h2] at hc2
          have hZ := Blk.drewN hZ nq
          have hb := bDrew hb nq
          clear h1 h2
          go_wp2_with (first | (refine wpList_build_as rfl 31 _ rfl (fA 48 fun _ => 0) (by kernel_rfl) ?_) | (refine wpList_store_row rfl 31 _ _ rfl _ _ rfl rfl _ _ hZ (by kernel_rfl) (by simp only [size_fA]) (all_fA _ _) ?_)); exact bodyPost_ret (results_cell_row2 rfl _ _ (w.heap.size) _ _ _ _ rfl hZ.setRow Tryz.underlying31 rfl (by kernel_rfl)) rfl (RetCC.as Hm.out ⟨_, rfl, fun _ _ => rfl, (by repeat (first | assumption | exact Below.refl _ _ | refine bDrew ?_ _ | refine Below.alloc ?_ (by first | omega | (simp; done) | (simp; omega)) _ | refine Below.setCell ?_ (by first | omega | (simp; done) | (simp; omega)) _ | refine bRow ?_ (by first | omega | (simp; done) | (simp; omega)) _))⟩)
        | false =>
          have HS : Hid ((!tooStrong (canon .f32 (a k)) (canon .f32 (a (16 + k))) (thinX (canon .f32 (a 32)))) = true) := Lib.hid (by simp only [tooStrong, strong, h1, h2, Bool.false_or, Bool.not_false])
          rw [h2] at hc2
          clear h1 h2
          go_wp2
          clear hc1 hc2
          go_loopw [7, 8, 9, 10, 11] (fun r t n _ _ w2 => ∃ (m rr tt : Nat), m ≤ 10 ∧ n = .int .i64 m ∧ r = .float .f32 rr ∧ t = .float .f32 tt ∧ Hid ((canon .f32 rr, canon .f32 tt) = dblN (thin (canon .f32 (a k)) (canon .f32 (a (16 + k))) (thinX (canon .f32 (a 32)))) m) ∧ ∃ n, w2 = wr.drewN n) (fun _ _ n _ _ _ => 10 - (intOf n).toNat)
          case atStart => exact ⟨0, _, _, by omega, rfl, rfl, rfl, Lib.hid (by rw [c_sub, c_sub, c_mul, c_mul, c_mul, HX.out]; rfl), _, rfl⟩
          case round =>
            obtain ⟨m, rr, tt, hm, rfl, rfl, rfl, HR, n0, rfl⟩ := hrel
            by_cases hlt2 : m < 10
            · go_wp2
              go_roundw
              case rel => exact ⟨m + 1, _, _, by omega, by go_num, rfl, rfl, Lib.hid (by simp only [c_add, c_div, c_mul, c_sub]; show dbl (canon .f32 rr, canon .f32 tt) = _; rw [HR.out]; rfl), _, rfl⟩
              case measure => simp [intOf]; omega
            · obtain rfl : m = 10 := by omega
              have c3 : wr.cell? ⟨w.heap.size + 1, k, none⟩ = some (.float .f32 (cur k)) := (hC.cell k).trans (get_fA_lt cur (by omega))
              have c4 : wr.cell? ⟨w.heap.size + 1, 16 + k, none⟩ = some (.float .f32 (cur (16 + k))) := (hC.cell (16 + k)).trans (get_fA_lt cur (by omega))
              have c5 : wr.cell? ⟨w.heap.size + 1, 32 + k, none⟩ = some (.float .f32 (cur (32 + k))) := (hC.cell (32 + k)).trans (get_fA_lt cur (by omega))
              have f3 := hC.frozen k
              have f4 := hC.frozen (16 + k)
              have f5 := hC.frozen (32 + k)
              go_wp2
              go_roundw
              case rel =>
                refine ⟨k + 1, _, by omega, by go_num, (((bDrew hb _).setCell (by dsimp only; omega) _).setCell (by dsimp only; omega) _).setCell (by dsimp only; omega) _, Blk.far (Blk.far (Blk.far (Blk.drewN hA _) (by dsimp only; omega) _) (by dsimp only; omega) _) (by dsimp only; omega) _, Blk.far (Blk.far (Blk.far (Blk.drewN hZ _) (by dsimp only; omega) _) (by dsimp only; omega) _) (by dsimp only; omega) _, Blk.setF (Blk.setF (Blk.setF (Blk.drewN hC _) k _) (16 + k) _) (32 + k) _, Lib.hid ⟨?_, HC.out.2.next hlt (congrArg (·.1) HR.out) (congrArg (·.2) HR.out)⟩⟩
                intro j hj
                by_cases e : j = k
                · subst e; exact HS.out
                · exact HC.out.1 j (by omega)
              case measure => simp [intOf]; omega
    · obtain rfl : k = 16 := by omega
      have Hm : Hid ((filmMade fun i => canon .f32 (a i)) = ((finFilmRes (filmAt fun i => canon .f32 (a i))).1, (finFilmRes (filmAt fun i => canon .f32 (a i))).2)) := Lib.hid (by
        have hq : (allTo 16 fun i => !tooStrong (canon .f32 (a i)) (canon .f32 (a (16 + i))) (thinX (canon .f32 (a 32)))) = true := allTo_true HC.out.1
        simp only [filmMade, hq, if_true])
      go_wp2_with (refine wpList_load_row rfl 31 _ rfl _ rfl _ _ (0, 0) _ hC Tryz.underlying31 rfl (by kernel_rfl) ?_)
      refine (l02Made_any cur wr).mono ?_
      rintro e w4 ⟨q, rfl, hq, hb1⟩
      have hZ := hZ.below hb1 hZ.lt
      have hb := bCall hb hb1 hb.size
      have Hq := Lib.hid hq
      clear hq hb1
      go_wp2_with (refine wpList_store_row rfl 31 _ _ rfl _ _ rfl rfl _ _ hZ (by kernel_rfl) (by simp only [size_fA]) (all_fA _ _) ?_)
      exact bodyPost_ret (results_cell_row2 rfl _ _ (w.heap.size) _ _ _ _ rfl hZ.setRow Tryz.underlying31 rfl (by kernel_rfl)) rfl (RetCC.as Hm.out (finFilm_congr HC.out.2.all ⟨q, rfl, Hq.out, (by repeat (first | assumption | exact Below.refl _ _ | refine bDrew ?_ _ | refine Below.alloc ?_ (by first | omega | (simp; done) | (simp; omega)) _ | refine Below.setCell ?_ (by first | omega | (simp; done) | (simp; omega)) _ | refine bRow ?_ (by first | omega | (simp; done) | (simp; omega)) _))⟩))
end Go.Proofs.YtnfnlgmnnjgemaaGreatDoor

namespace Go.Proofs.YtnfnlgmnnjgemaaGreatDoor
open Go.RowKit
set_option maxRecDepth 100000

/-- One layer of a row of layers. -/
def lay (F : Nat → Nat) (i : Nat) : Nat → Nat := rowAt F (i * 33)
theorem notValid_any (a : Nat → Nat) (w : World) : Calls Tryz.prog 28 #[.agg (fA 33 a)] w (RetB w (!layerOk a)) := by
  have hA : Blk (w.alloc (.cells (fA 33 a) 28)) w.heap.size 28 (fA 33 a) := Blk.new _ _ _
  go_enter Tryz.func28, Tryz.ntmps28
  go_wp2_with (refine wpList_load_row rfl 28 _ rfl _ rfl _ _ (0, 0) _ hA Tryz.underlying28 rfl (by kernel_rfl) ?_)
  refine (iValidLayer_any a _).mono ?_
  rintro e w1 ⟨rfl, hb⟩
  go_wp2
  go_ret
  exact ⟨rfl, bCall (by repeat (first | assumption | exact Below.refl _ _ | refine bDrew ?_ _ | refine Below.alloc ?_ (by first | omega | (simp; done) | (simp; omega)) _ | refine Below.setCell ?_ (by first | omega | (simp; done) | (simp; omega)) _ | refine bRow ?_ (by first | omega | (simp; done) | (simp; omega)) _)) hb (by first | omega | (simp; done) | (simp; omega))⟩
theorem indexLayers_any (g n : Nat) (T : TypeId) (F : Nat → Nat) (w : World) (hB : Blk w g T (fA (33 * n) F)) (hn : n ≤ 1048576) :
    Calls Tryz.prog 64 #[.slice (some ⟨g, 0, none⟩) n n, .func (.func 28) #[] #[]] w fun e w' => ∃ i : Int, e = .returned (.int .i64 i) ∧ decide (0 ≤ i) = !(allTo n fun k => layerOk (lay F k)) ∧ Below w.heap.size w w' := by
  have he' : ∀ (args : Array Value) (w : World), (callFunc 28 args).run Tryz.prog w = .ok (.enter 28 args) w := fun _ _ => by kernel_rfl
  go_enter Tryz.func64, Tryz.ntmps64
  go_wp2
  go_loopw [5, 8] (fun _ i wr => ∃ (k : Nat), k ≤ n ∧ i = .int .i64 k ∧ (∀ j, j < k → layerOk (lay F j) = true) ∧ Below w.heap.size w wr) (fun _ i _ => n - (intOf i).toNat)
  case atStart => exact ⟨0, by omega, rfl, fun j h => absurd h (by omega), (by repeat (first | assumption | exact Below.refl _ _ | refine bDrew ?_ _ | refine Below.alloc ?_ (by first | omega | (simp; done) | (simp; omega)) _ | refine Below.setCell ?_ (by first | omega | (simp; done) | (simp; omega)) _ | refine bRow ?_ (by first | omega | (simp; done) | (simp; omega)) _))⟩
  case round =>
    obtain ⟨k, hk, rfl, hc, hb⟩ := hrel
    have Hc := Lib.hid hc
    clear hc
    by_cases hlt : k < n
    · have hA := hB.below hb hB.lt
      go_wp2_with (refine wpList_load_part rfl 28 _ rfl (k * 33) 33 hA rfl (by omega) Tryz.underlying28 rfl (by kernel_rfl) ?_)
      refine (notValid_any (lay F k) _).mono ?_
      rintro e w1 ⟨rfl, hb1⟩
      have hb := bCall hb hb1 hb.size
      clear hA
      cases hq : layerOk (lay F k) with
      | false =>
        have Hq := Lib.hid hq
        clear hq
        go_wp2
        go_ret
        exact ⟨_, rfl, by rw [allTo_false hlt Hq.out]; simp, hb⟩
      | true =>
        have Hq := Lib.hid hq
        clear hq
        go_wp2
        go_roundw
        case rel =>
          refine ⟨k + 1, by omega, by go_num, ?_, hb⟩
          intro j hj
          by_cases e : j = k
          · subst e; exact Hq.out
          · exact Hc.out j (by omega)
        case measure => simp [intOf]; omega
    · obtain rfl : k = n := by omega
      go_wp2
      go_ret
      exact ⟨_, rfl, by rw [allTo_true Hc.out]; rfl, hb⟩
theorem containsLayers_any (g n : Nat) (T : TypeId) (F : Nat → Nat) (w : World) (hB : Blk w g T (fA (33 * n) F)) (hn : n ≤ 1048576) :
    Calls Tryz.prog 27 #[.slice (some ⟨g, 0, none⟩) n n, .func (.func 28) #[] #[]] w (RetB w (!(allTo n fun k => layerOk (lay F k)))) := by
  go_enter Tryz.func27, Tryz.ntmps27
  go_wp2_with fail
  refine (indexLayers_any g n T F w hB hn).mono ?_
  rintro e w1 ⟨i, rfl, hi, hb⟩
  have Hi := Lib.hid hi
  clear hi
  go_wp2
  go_ret
  exact ⟨congrArg (fun x => Ending.returned (Value.bool x)) Hi.out, hb⟩
end Go.Proofs.YtnfnlgmnnjgemaaGreatDoor

namespace Go.Proofs.YtnfnlgmnnjgemaaGreatDoor
open Go.RowKit
set_option maxRecDepth 100000

theorem addAt_congr {f g f' g' : Nat → Option Nat} (hf : ∀ i, i < 48 → f i = f' i) (hg : ∀ i, i < 48 → g i = g' i) : ∀ i, i < 48 → addAt f g i = addAt f' g' i := by
  intro i hi
  unfold addAt
  by_cases h1 : i < 16
  · rw [if_pos h1, if_pos h1, hf i (by omega), hf (16 + i) (by omega), hf (32 + i) (by omega), hg i (by omega)]
  · rw [if_neg h1, if_neg h1]
    by_cases h2 : i < 32
    · rw [if_pos h2, if_pos h2, hf i (by omega), hg i (by omega), hg (i - 16) (by omega), hg (16 + i) (by omega)]
    · rw [if_neg h2, if_neg h2, hf i (by omega), hg i (by omega), hg (i - 32) (by omega), hf (i - 16) (by omega)]
theorem addRes_congr {f g f' g' : Nat → Option Nat} (hf : ∀ i, i < 48 → f i = f' i) (hg : ∀ i, i < 48 → g i = g' i) : (addRes f g).2 = (addRes f' g').2 ∧ ∀ i, i < 48 → (addRes f g).1 i = (addRes f' g').1 i := by
  unfold addRes
  have e1 : (allTo 16 fun i => gapOk (f (16 + i)) (g i)) = allTo 16 fun i => gapOk (f' (16 + i)) (g' i) := allTo_congr fun i hi => by rw [hf _ (by omega), hg _ (by omega)]
  rw [e1]
  have ha := addAt_congr hf hg
  have e2 : finFilm (addAt f g) = finFilm (addAt f' g') := by
    unfold finFilm
    rw [allTo_congr (q := fun i => fin (addAt f' g' i)) fun i hi => by rw [ha i (by omega)], allTo_congr (p := fun i => fin (addAt f g (16 + i))) (q := fun i => fin (addAt f' g' (16 + i))) fun i hi => by rw [ha _ (by omega)],
      allTo_congr (p := fun i => fin (addAt f g (32 + i))) (q := fun i => fin (addAt f' g' (32 + i))) fun i hi => by rw [ha _ (by omega)]]
  by_cases hs : (allTo 16 fun i => gapOk (f' (16 + i)) (g' i)) = true
  · rw [if_pos hs, if_pos hs]
    unfold finFilmRes
    rw [e2]
    by_cases hq : finFilm (addAt f' g') = true
    · rw [if_pos hq, if_pos hq]
      exact ⟨rfl, ha⟩
    · rw [if_neg hq, if_neg hq]
      exact ⟨rfl, fun _ _ => rfl⟩
  · rw [if_neg hs, if_neg hs]
    exact ⟨rfl, fun _ _ => rfl⟩

def layFilm (F : Nat → Nat) (k : Nat) : (Nat → Option Nat) × Int := filmMade fun i => canon .f32 (lay F k i)
def stackGo (F : Nat → Nat) : Nat → Nat → (Nat → Option Nat) → (Nat → Option Nat) × Int
  | 0, _, acc => (acc, 0)
  | r + 1, k, acc => if (layFilm F k).2 = 0 then if (addRes acc (layFilm F k).1).2 = 0 then stackGo F r (k + 1) (addRes acc (layFilm F k).1).1 else (fun _ => canon .f32 0, (addRes acc (layFilm F k).1).2) else (fun _ => canon .f32 0, (layFilm F k).2)
def stackRes (F : Nat → Nat) (n : Nat) : (Nat → Option Nat) × Int := if allTo n (fun k => layerOk (lay F k)) then if n ≤ 12 then stackGo F n 0 emptyAt else (fun _ => canon .f32 0, 3) else (fun _ => canon .f32 0, 1)
theorem go_bad {F : Nat → Nat} {r k : Nat} {acc : Nat → Option Nat} (h : ¬ (layFilm F k).2 = 0) : stackGo F (r + 1) k acc = (fun _ => canon .f32 0, (layFilm F k).2) := by show (if _ then _ else _) = _; rw [if_neg h]
theorem go_stop {F : Nat → Nat} {r k : Nat} {acc : Nat → Option Nat} (h : (layFilm F k).2 = 0) (h2 : ¬ (addRes acc (layFilm F k).1).2 = 0) : stackGo F (r + 1) k acc = (fun _ => canon .f32 0, (addRes acc (layFilm F k).1).2) := by show (if _ then _ else _) = _; rw [if_pos h, if_neg h2]
theorem go_on {F : Nat → Nat} {r k : Nat} {acc : Nat → Option Nat} (h : (layFilm F k).2 = 0) (h2 : (addRes acc (layFilm F k).1).2 = 0) : stackGo F (r + 1) k acc = stackGo F r (k + 1) (addRes acc (layFilm F k).1).1 := by show (if _ then _ else _) = _; rw [if_pos h, if_pos h2]
theorem filmOf_lay {F : Nat → Nat} {n k : Nat} (h : (allTo n fun k => layerOk (lay F k)) = true) (hk : k < n) : filmOfRes (lay F k) = layFilm F k := by
  have h1 := allTo_get h hk
  unfold filmOfRes
  rw [if_pos h1]
  rfl

end Go.Proofs.YtnfnlgmnnjgemaaGreatDoor

namespace Go.Proofs.YtnfnlgmnnjgemaaGreatDoor
open Go.RowKit
set_option maxRecDepth 100000

set_option maxHeartbeats 4000000 in
theorem iStackOf_any (g n : Nat) (T : TypeId) (F : Nat → Nat) (w : World) (hL : Blk w g T (fA (33 * n) F)) (hn : n ≤ 1048576) : Calls Tryz.prog 8 #[.slice (some ⟨g, 0, none⟩) n n] w (RetCC 48 w (stackRes F n).1 (stackRes F n).2) := by
  have hg := hL.lt
  have hZ : Blk (w.alloc (.cells (fA 48 fun _ => 0) 31)) w.heap.size 31 (fA 48 fun _ => 0) := Blk.new _ _ _
  have hb : Below w.heap.size w (w.alloc (.cells (fA 48 fun _ => 0) 31)) := (by repeat (first | assumption | exact Below.refl _ _ | refine bDrew ?_ _ | refine Below.alloc ?_ (by first | omega | (simp; done) | (simp; omega)) _ | refine Below.setCell ?_ (by first | omega | (simp; done) | (simp; omega)) _ | refine bRow ?_ (by first | omega | (simp; done) | (simp; omega)) _))
  have hL := hL.alloc (.cells (fA 48 fun _ => 0) 31)
  go_enter Tryz.func8, Tryz.ntmps8
  go_wp2_with fail
  refine (containsLayers_any g n T F _ hL hn).mono ?_
  rintro e w1 ⟨rfl, hb1⟩
  have hL := hL.below hb1 hL.lt
  have hZ := hZ.below hb1 hZ.lt
  have hb := bCall hb hb1 hb.size; clear hb1
  cases h0 : (allTo n fun k => layerOk (lay F k)) with
  | false =>
    have Hm : Hid (stackRes F n = (fun _ => canon .f32 0, 1)) := Lib.hid (by unfold stackRes; rw [h0]; rfl)
    clear h0
    go_wp2_with (first | (refine wpList_build_as rfl 31 _ rfl (fA 48 fun _ => 0) (by kernel_rfl) ?_) | (refine wpList_store_row rfl 31 _ _ rfl _ _ rfl rfl _ _ hZ (by kernel_rfl) (by simp only [size_fA]) (all_fA _ _) ?_)); exact bodyPost_ret (results_cell_row2 rfl _ _ (w.heap.size) _ _ _ _ rfl hZ.setRow Tryz.underlying31 rfl (by kernel_rfl)) rfl (RetCC.as Hm.out ⟨_, rfl, fun _ _ => rfl, (by repeat (first | assumption | exact Below.refl _ _ | refine bDrew ?_ _ | refine Below.alloc ?_ (by first | omega | (simp; done) | (simp; omega)) _ | refine Below.setCell ?_ (by first | omega | (simp; done) | (simp; omega)) _ | refine bRow ?_ (by first | omega | (simp; done) | (simp; omega)) _))⟩)
  | true =>
    have H0 := Lib.hid h0
    clear h0
    by_cases h12 : n ≤ 12
    · have Hm0 : Hid (stackRes F n = stackGo F n 0 emptyAt) := Lib.hid (by unfold stackRes; rw [if_pos H0.out, if_pos h12])
      go_wp2_with fail
      refine (iEmptyFilm_any _).mono ?_
      rintro e w2 ⟨r0, rfl, hr0, hb1⟩
      have hL := hL.below hb1 hL.lt
      have hZ := hZ.below hb1 hZ.lt
      have hb := bCall hb hb1 hb.size; clear hb1
      have hx2 := hZ.lt
      have hx3 := hL.lt
      have hL := hL.alloc (.cells (fA 48 r0) 31)
      have hZ := hZ.alloc (.cells (fA 48 r0) 31)
      have hO : Blk (w2.alloc (.cells (fA 48 r0) 31)) w2.heap.size 31 (fA 48 r0) := Blk.new _ _ _
      have hb : Below w.heap.size w (w2.alloc (.cells (fA 48 r0) 31)) := hb.alloc hb.size _
      have HR0 := Lib.hid hr0
      clear hr0
      go_wp2_with (refine wpList_store_new rfl 31 _ _ rfl _ rfl rfl (by kernel_rfl) rfl (all_fA _ _) ?_)
      go_loopw [6, 7, 8, 21] (fun _ _ _ i wr => ∃ (k : Nat) (cur : Nat → Nat) (A : Nat → Option Nat), k ≤ n ∧ i = .int .i64 k ∧ Below w.heap.size w wr ∧ Blk wr g T (fA (33 * n) F) ∧ Blk wr w.heap.size 31 (fA 48 fun _ => 0) ∧ Blk wr w2.heap.size 31 (fA 48 cur) ∧ Hid (∀ i, i < 48 → canon .f32 (cur i) = A i) ∧ Hid (stackRes F n = stackGo F (n - k) k A)) (fun _ _ _ i _ => n - (intOf i).toNat)
      case atStart => exact ⟨0, r0, emptyAt, by omega, rfl, hb, hL, hZ, hO, HR0, Hm0⟩
      case round =>
        clear hL hZ hO hb
        obtain ⟨k, cur, A, hk, rfl, hb, hL, hZ, hO, HA, HG⟩ := hrel
        by_cases hlt : k < n
        · have hX : Blk (wr.alloc (.cells (fA 33 (lay F k)) 28)) wr.heap.size 28 (fA 33 (lay F k)) := Blk.new _ _ _
          have hxr := hO.lt
          have hxs := hb.size
          go_wp2_with (first | (refine wpList_store_new rfl 28 _ _ rfl _ rfl rfl (by kernel_rfl) rfl (all_fA _ _) ?_) | (refine wpList_load_part rfl 28 _ rfl (k * 33) 33 hL rfl (by omega) Tryz.underlying28 rfl (by kernel_rfl) ?_) | (refine wpList_load_row rfl 28 _ rfl _ rfl _ _ (0, 0) _ hX Tryz.underlying28 rfl (by kernel_rfl) ?_))
          have hL := hL.alloc (.cells (fA 33 (lay F k)) 28)
          have hZ := hZ.alloc (.cells (fA 33 (lay F k)) 28)
          have hO := hO.alloc (.cells (fA 33 (lay F k)) 28)
          have hb : Below w.heap.size w (wr.alloc (.cells (fA 33 (lay F k)) 28)) := hb.alloc hb.size _
          clear hX
          refine (iFilmOf_any (lay F k) _).mono ?_
          rintro e w3 ⟨r1, rfl, hr1, hb1⟩
          have hL := hL.below hb1 hL.lt
          have hZ := hZ.below hb1 hZ.lt
          have hO := hO.below hb1 hO.lt
          have hb := bCall hb hb1 hb.size; clear hb1
          rw [filmOf_lay H0.out hlt] at hr1 ⊢
          have H1 := Lib.hid hr1
          clear hr1
          have hL := hL.alloc (.cells (fA 48 r1) 31)
          have hZ := hZ.alloc (.cells (fA 48 r1) 31)
          have hO := hO.alloc (.cells (fA 48 r1) 31)
          have hx4 := hO.lt
          have hx5 := hb.size
          have hQ : Blk (w3.alloc (.cells (fA 48 r1) 31)) w3.heap.size 31 (fA 48 r1) := Blk.new _ _ _
          have hb : Below w.heap.size w (w3.alloc (.cells (fA 48 r1) 31)) := hb.alloc hb.size _
          by_cases h1 : (layFilm F k).2 = 0
          · have HC1 := Lib.hid h1
            rw [h1]
            clear h1
            go_wp2_with (first | (refine wpList_store_new rfl 31 _ _ rfl _ rfl rfl (by kernel_rfl) rfl (all_fA _ _) ?_) | (refine wpList_load_row rfl 31 _ rfl _ rfl _ _ (0, 0) _ hO Tryz.underlying31 rfl (by kernel_rfl) ?_) | (refine wpList_load_row rfl 31 _ rfl _ rfl _ _ (0, 0) _ hQ Tryz.underlying31 rfl (by kernel_rfl) ?_))
            refine (add_any cur r1 _).mono ?_
            rintro e w4 ⟨r2, rfl, hr2, hb1⟩
            have hL := hL.below hb1 hL.lt
            have hZ := hZ.below hb1 hZ.lt
            have hO := hO.below hb1 hO.lt
            have hb := bCall hb hb1 hb.size
            obtain ⟨ec, ef⟩ := addRes_congr HA.out H1.out
            rw [ec]
            have H2 : Hid (∀ i, i < 48 → canon .f32 (r2 i) = (addRes A (layFilm F k).1).1 i) := Lib.hid fun i hi => (hr2 i hi).trans (ef i hi)
            clear ec ef hr2 hb1 hQ
            by_cases h2 : (addRes A (layFilm F k).1).2 = 0
            · have HG2 : Hid (stackRes F n = stackGo F (n - (k + 1)) (k + 1) (addRes A (layFilm F k).1).1) := Lib.hid (by
                have h := HG.out
                rw [show n - k = n - (k + 1) + 1 by omega, go_on HC1.out h2] at h
                exact h)
              rw [h2]
              clear h2
              go_wp2_with (first | (refine wpList_store_row rfl 31 _ _ rfl _ _ rfl rfl _ _ hO (by kernel_rfl) (by simp only [size_fA]) (all_fA _ _) ?_) | fail)
              go_roundw
              case rel => exact ⟨k + 1, r2, _, by omega, by go_num, bRow hb (by omega) _, hL.farRow (by omega), hZ.farRow (by omega), hO.setRow, H2, HG2⟩
              case measure => simp [intOf]; omega
            · have Hm : Hid (stackRes F n = (fun _ => canon .f32 0, (addRes A (layFilm F k).1).2)) := Lib.hid (by
                have h := HG.out
                rw [show n - k = n - (k + 1) + 1 by omega, go_stop HC1.out h2] at h
                exact h)
              have hZ2 : Blk (w4.setRow w2.heap.size (fA 48 r2)) w.heap.size 31 (fA 48 fun _ => 0) := hZ.farRow (by omega)
              have hb2 : Below w.heap.size w (w4.setRow w2.heap.size (fA 48 r2)) := bRow hb (by omega) _
              generalize (addRes A (layFilm F k).1).2 = c at *
              go_wp2_with (first | (refine wpList_build_as rfl 31 _ rfl (fA 48 fun _ => 0) (by kernel_rfl) ?_) | (refine wpList_store_row rfl 31 _ _ rfl _ _ rfl rfl _ _ hO (by kernel_rfl) (by simp only [size_fA]) (all_fA _ _) ?_) | (refine wpList_store_row rfl 31 _ _ rfl _ _ rfl rfl _ _ hZ2 (by kernel_rfl) (by simp only [size_fA]) (all_fA _ _) ?_))
              exact bodyPost_ret (results_cell_row2 rfl _ _ (w.heap.size) _ _ _ _ rfl hZ2.setRow Tryz.underlying31 rfl (by kernel_rfl)) rfl (RetCC.as Hm.out ⟨_, rfl, fun _ _ => rfl, (by repeat (first | assumption | exact Below.refl _ _ | refine bDrew ?_ _ | refine Below.alloc ?_ (by first | omega | (simp; done) | (simp; omega)) _ | refine Below.setCell ?_ (by first | omega | (simp; done) | (simp; omega)) _ | refine bRow ?_ (by first | omega | (simp; done) | (simp; omega)) _))⟩)
          · have Hm : Hid (stackRes F n = (fun _ => canon .f32 0, (layFilm F k).2)) := Lib.hid (by
              have h := HG.out
              obtain ⟨q, hq⟩ : ∃ q, n - k = q + 1 := ⟨n - k - 1, by omega⟩
              rw [h, hq, go_bad h1])
            generalize (layFilm F k).2 = c at *
            go_wp2_with (first | (refine wpList_store_new rfl 31 _ _ rfl _ rfl rfl (by kernel_rfl) rfl (all_fA _ _) ?_) | (refine wpList_build_as rfl 31 _ rfl (fA 48 fun _ => 0) (by kernel_rfl) ?_) | (refine wpList_store_row rfl 31 _ _ rfl _ _ rfl rfl _ _ hZ (by kernel_rfl) (by simp only [size_fA]) (all_fA _ _) ?_))
            exact bodyPost_ret (results_cell_row2 rfl _ _ (w.heap.size) _ _ _ _ rfl hZ.setRow Tryz.underlying31 rfl (by kernel_rfl)) rfl (RetCC.as Hm.out ⟨_, rfl, fun _ _ => rfl, (by repeat (first | assumption | exact Below.refl _ _ | refine bDrew ?_ _ | refine Below.alloc ?_ (by first | omega | (simp; done) | (simp; omega)) _ | refine Below.setCell ?_ (by first | omega | (simp; done) | (simp; omega)) _ | refine bRow ?_ (by first | omega | (simp; done) | (simp; omega)) _))⟩)
        · obtain rfl : k = n := by omega
          have Hm : Hid (stackRes F k = (A, 0)) := Lib.hid (by rw [HG.out, Nat.sub_self]; rfl)
          go_wp2_with (first | (refine wpList_load_row rfl 31 _ rfl _ rfl _ _ (0, 0) _ hO Tryz.underlying31 rfl (by kernel_rfl) ?_) | (refine wpList_store_row rfl 31 _ _ rfl _ _ rfl rfl _ _ hZ (by kernel_rfl) (by simp only [size_fA]) (all_fA _ _) ?_))
          exact bodyPost_ret (results_cell_row2 rfl _ _ (w.heap.size) _ _ _ _ rfl hZ.setRow Tryz.underlying31 rfl (by kernel_rfl)) rfl (RetCC.as Hm.out ⟨cur, rfl, HA.out, (by repeat (first | assumption | exact Below.refl _ _ | refine bDrew ?_ _ | refine Below.alloc ?_ (by first | omega | (simp; done) | (simp; omega)) _ | refine Below.setCell ?_ (by first | omega | (simp; done) | (simp; omega)) _ | refine bRow ?_ (by first | omega | (simp; done) | (simp; omega)) _))⟩)
    · have Hm : Hid (stackRes F n = (fun _ => canon .f32 0, 3)) := Lib.hid (by unfold stackRes; rw [if_pos H0.out, if_neg h12])
      go_wp2_with (first | (refine wpList_build_as rfl 31 _ rfl (fA 48 fun _ => 0) (by kernel_rfl) ?_) | (refine wpList_store_row rfl 31 _ _ rfl _ _ rfl rfl _ _ hZ (by kernel_rfl) (by simp only [size_fA]) (all_fA _ _) ?_)); exact bodyPost_ret (results_cell_row2 rfl _ _ (w.heap.size) _ _ _ _ rfl hZ.setRow Tryz.underlying31 rfl (by kernel_rfl)) rfl (RetCC.as Hm.out ⟨_, rfl, fun _ _ => rfl, (by repeat (first | assumption | exact Below.refl _ _ | refine bDrew ?_ _ | refine Below.alloc ?_ (by first | omega | (simp; done) | (simp; omega)) _ | refine Below.setCell ?_ (by first | omega | (simp; done) | (simp; omega)) _ | refine bRow ?_ (by first | omega | (simp; done) | (simp; omega)) _))⟩)
end Go.Proofs.YtnfnlgmnnjgemaaGreatDoor

namespace Go.Proofs.YtnfnlgmnnjgemaaGreatDoor
open Go.RowKit
set_option maxRecDepth 100000

set_option maxHeartbeats 4000000 in
theorem sStackOf_any (g n : Nat) (T : TypeId) (F : Nat → Nat) (w : World) (hL : Blk w g T (fA (33 * n) F)) (hn : n ≤ 1048576) : Calls Tryz.prog 9 #[.slice (some ⟨g, 0, none⟩) n n] w (RetCC 48 w (stackRes F n).1 (stackRes F n).2) := by
  have hg := hL.lt
  have hZ : Blk (w.alloc (.cells (fA 48 fun _ => 0) 31)) w.heap.size 31 (fA 48 fun _ => 0) := Blk.new _ _ _
  have hb : Below w.heap.size w (w.alloc (.cells (fA 48 fun _ => 0) 31)) := (by repeat (first | assumption | exact Below.refl _ _ | refine bDrew ?_ _ | refine Below.alloc ?_ (by first | omega | (simp; done) | (simp; omega)) _ | refine Below.setCell ?_ (by first | omega | (simp; done) | (simp; omega)) _ | refine bRow ?_ (by first | omega | (simp; done) | (simp; omega)) _))
  have hL := hL.alloc (.cells (fA 48 fun _ => 0) 31)
  go_enter Tryz.func9, Tryz.ntmps9
  go_wp2
  go_loopw [4] (fun i wr => ∃ (k : Nat), k ≤ n ∧ i = .int .i64 k ∧ (∀ j, j < k → layerOk (lay F j) = true) ∧ Below w.heap.size w wr ∧ Blk wr g T (fA (33 * n) F) ∧ Blk wr w.heap.size 31 (fA 48 fun _ => 0)) (fun i _ => n - (intOf i).toNat)
  case atStart => exact ⟨0, by omega, rfl, fun j h => absurd h (by omega), hb, hL, hZ⟩
  case round =>
    clear hL hZ hb
    obtain ⟨k, hk, rfl, hc, hb, hL, hZ⟩ := hrel
    have Hc := Lib.hid hc
    clear hc
    by_cases hlt : k < n
    · go_wp2_with fail
      refine (l02OkAt_any g (k * 33) (33 * n) T F _ (by omega) hL).mono ?_
      rintro e w1 ⟨rfl, hb1⟩
      have hL := hL.below hb1 hL.lt
      have hZ := hZ.below hb1 hZ.lt
      have hb := bCall hb hb1 hb.size; clear hb1
      cases hq : layerOk (rowAt F (k * 33)) with
      | false =>
        have Hm : Hid (stackRes F n = (fun _ => canon .f32 0, 1)) := Lib.hid (by
          have h : (allTo n fun k => layerOk (lay F k)) = false := allTo_false hlt hq
          unfold stackRes
          rw [h]
          rfl)
        clear hq
        go_wp2_with (first | (refine wpList_build_as rfl 31 _ rfl (fA 48 fun _ => 0) (by kernel_rfl) ?_) | (refine wpList_store_row rfl 31 _ _ rfl _ _ rfl rfl _ _ hZ (by kernel_rfl) (by simp only [size_fA]) (all_fA _ _) ?_)); exact bodyPost_ret (results_cell_row2 rfl _ _ (w.heap.size) _ _ _ _ rfl hZ.setRow Tryz.underlying31 rfl (by kernel_rfl)) rfl (RetCC.as Hm.out ⟨_, rfl, fun _ _ => rfl, (by repeat (first | assumption | exact Below.refl _ _ | refine bDrew ?_ _ | refine Below.alloc ?_ (by first | omega | (simp; done) | (simp; omega)) _ | refine Below.setCell ?_ (by first | omega | (simp; done) | (simp; omega)) _ | refine bRow ?_ (by first | omega | (simp; done) | (simp; omega)) _))⟩)
      | true =>
        have Hq : Hid (layerOk (lay F k) = true) := Lib.hid hq
        clear hq
        go_wp2
        go_roundw
        case rel =>
          refine ⟨k + 1, by omega, by go_num, ?_, hb, hL, hZ⟩
          intro j hj
          by_cases e : j = k
          · subst e; exact Hq.out
          · exact Hc.out j (by omega)
        case measure => simp [intOf]; omega
    · obtain rfl : n = k := by omega
      have H0 : Hid ((allTo n fun i => layerOk (lay F i)) = true) := Lib.hid (allTo_true Hc.out)
      clear Hc hk hlt
      by_cases h12 : n ≤ 12
      · have Hm0 : Hid (stackRes F n = stackGo F n 0 emptyAt) := Lib.hid (by unfold stackRes; rw [if_pos H0.out, if_pos h12])
        go_wp2_with fail
        refine (l02Empty_any _).mono ?_
        rintro e w2 ⟨r0, rfl, hr0, hb1⟩
        have hL := hL.below hb1 hL.lt
        have hZ := hZ.below hb1 hZ.lt
        have hb := bCall hb hb1 hb.size; clear hb1
        have hx2 := hZ.lt
        have hx3 := hL.lt
        have hL := hL.alloc (.cells (fA 48 r0) 31)
        have hZ := hZ.alloc (.cells (fA 48 r0) 31)
        have hO : Blk (w2.alloc (.cells (fA 48 r0) 31)) w2.heap.size 31 (fA 48 r0) := Blk.new _ _ _
        have hb : Below w.heap.size w (w2.alloc (.cells (fA 48 r0) 31)) := hb.alloc hb.size _
        have HR0 := Lib.hid hr0
        clear hr0
        go_wp2_with (refine wpList_store_new rfl 31 _ _ rfl _ rfl rfl (by kernel_rfl) rfl (all_fA _ _) ?_)
        go_loopw [6, 7, 8, 9, 10] (fun i _ _ _ _ wr => ∃ (k : Nat) (cur : Nat → Nat) (A : Nat → Option Nat), k ≤ n ∧ i = .int .i64 k ∧ Below w.heap.size w wr ∧ Blk wr g T (fA (33 * n) F) ∧ Blk wr w.heap.size 31 (fA 48 fun _ => 0) ∧ Blk wr w2.heap.size 31 (fA 48 cur) ∧ Hid (∀ i, i < 48 → canon .f32 (cur i) = A i) ∧ Hid (stackRes F n = stackGo F (n - k) k A)) (fun i _ _ _ _ _ => n - (intOf i).toNat)
        case atStart => exact ⟨0, r0, emptyAt, by omega, rfl, hb, hL, hZ, hO, HR0, Hm0⟩
        case round =>
          clear hL hZ hO hb
          obtain ⟨k, cur, A, hk, rfl, hb, hL, hZ, hO, HA, HG⟩ := hrel
          by_cases hlt : k < n
          · have hxr := hO.lt
            have hxs := hb.size
            go_wp2_with fail
            refine (l02FilmAt_any g (k * 33) (33 * n) T F (lay F k) (fun j => rfl) _ (by omega) hL).mono ?_
            rintro e w3 ⟨r1, rfl, hr1, hb1⟩
            have hL := hL.below hb1 hL.lt
            have hZ := hZ.below hb1 hZ.lt
            have hO := hO.below hb1 hO.lt
            have hb := bCall hb hb1 hb.size; clear hb1
            have H1 : Hid (∀ i, i < 48 → canon .f32 (r1 i) = (layFilm F k).1 i) := Lib.hid hr1
            rw [show (filmMade fun i => canon .f32 (lay F k i)) = layFilm F k from rfl]
            clear hr1
            have hL := hL.alloc (.cells (fA 48 r1) 31)
            have hZ := hZ.alloc (.cells (fA 48 r1) 31)
            have hO := hO.alloc (.cells (fA 48 r1) 31)
            have hx4 := hO.lt
            have hx5 := hb.size
            have hQ : Blk (w3.alloc (.cells (fA 48 r1) 31)) w3.heap.size 31 (fA 48 r1) := Blk.new _ _ _
            have hb : Below w.heap.size w (w3.alloc (.cells (fA 48 r1) 31)) := hb.alloc hb.size _
            by_cases h1 : (layFilm F k).2 = 0
            · have HC1 := Lib.hid h1
              rw [h1]
              clear h1
              go_wp2_with (first | (refine wpList_store_new rfl 31 _ _ rfl _ rfl rfl (by kernel_rfl) rfl (all_fA _ _) ?_))
              refine (l02Add_any w2.heap.size w3.heap.size 31 31 cur r1 _ hO hQ).mono ?_
              rintro e w4 ⟨r2, rfl, hr2, hb1⟩
              have hL := hL.below hb1 hL.lt
              have hZ := hZ.below hb1 hZ.lt
              have hO := hO.below hb1 hO.lt
              have hb := bCall hb hb1 hb.size
              obtain ⟨ec, ef⟩ := addRes_congr HA.out H1.out
              rw [ec]
              have H2 : Hid (∀ i, i < 48 → canon .f32 (r2 i) = (addRes A (layFilm F k).1).1 i) := Lib.hid fun i hi => (hr2 i hi).trans (ef i hi)
              clear ec ef hr2 hb1 hQ
              have hx6 := hO.lt
              have hL := hL.alloc (.cells (fA 48 r2) 31)
              have hZ := hZ.alloc (.cells (fA 48 r2) 31)
              have hO := hO.alloc (.cells (fA 48 r2) 31)
              have hN : Blk (w4.alloc (.cells (fA 48 r2) 31)) w4.heap.size 31 (fA 48 r2) := Blk.new _ _ _
              have hb : Below w.heap.size w (w4.alloc (.cells (fA 48 r2) 31)) := hb.alloc hb.size _
              by_cases h2 : (addRes A (layFilm F k).1).2 = 0
              · have HG2 : Hid (stackRes F n = stackGo F (n - (k + 1)) (k + 1) (addRes A (layFilm F k).1).1) := Lib.hid (by
                  have h := HG.out
                  rw [show n - k = n - (k + 1) + 1 by omega, go_on HC1.out h2] at h
                  exact h)
                rw [h2]
                clear h2
                go_wp2_with (first | (refine wpList_store_new rfl 31 _ _ rfl _ rfl rfl (by kernel_rfl) rfl (all_fA _ _) ?_) | (refine wpList_load_row rfl 31 _ rfl _ rfl _ _ (0, 0) _ hN Tryz.underlying31 rfl (by kernel_rfl) ?_) | (refine wpList_store_row rfl 31 _ _ rfl _ _ rfl rfl _ _ hO (by kernel_rfl) (by simp only [size_fA]) (all_fA _ _) ?_))
                go_roundw
                case rel => exact ⟨k + 1, r2, _, by omega, by go_num, bRow hb (by omega) _, hL.farRow (by omega), hZ.farRow (by omega), hO.setRow, H2, HG2⟩
                case measure => simp [intOf]; omega
              · have Hm : Hid (stackRes F n = (fun _ => canon .f32 0, (addRes A (layFilm F k).1).2)) := Lib.hid (by
                  have h := HG.out
                  rw [show n - k = n - (k + 1) + 1 by omega, go_stop HC1.out h2] at h
                  exact h)
                generalize (addRes A (layFilm F k).1).2 = c at *
                go_wp2_with (first | (refine wpList_store_new rfl 31 _ _ rfl _ rfl rfl (by kernel_rfl) rfl (all_fA _ _) ?_) | (refine wpList_build_as rfl 31 _ rfl (fA 48 fun _ => 0) (by kernel_rfl) ?_) | (refine wpList_store_row rfl 31 _ _ rfl _ _ rfl rfl _ _ hZ (by kernel_rfl) (by simp only [size_fA]) (all_fA _ _) ?_))
                exact bodyPost_ret (results_cell_row2 rfl _ _ (w.heap.size) _ _ _ _ rfl hZ.setRow Tryz.underlying31 rfl (by kernel_rfl)) rfl (RetCC.as Hm.out ⟨_, rfl, fun _ _ => rfl, (by repeat (first | assumption | exact Below.refl _ _ | refine bDrew ?_ _ | refine Below.alloc ?_ (by first | omega | (simp; done) | (simp; omega)) _ | refine Below.setCell ?_ (by first | omega | (simp; done) | (simp; omega)) _ | refine bRow ?_ (by first | omega | (simp; done) | (simp; omega)) _))⟩)
            · have Hm : Hid (stackRes F n = (fun _ => canon .f32 0, (layFilm F k).2)) := Lib.hid (by
                have h := HG.out
                obtain ⟨q, hq⟩ : ∃ q, n - k = q + 1 := ⟨n - k - 1, by omega⟩
                rw [h, hq, go_bad h1])
              generalize (layFilm F k).2 = c at *
              go_wp2_with (first | (refine wpList_store_new rfl 31 _ _ rfl _ rfl rfl (by kernel_rfl) rfl (all_fA _ _) ?_) | (refine wpList_build_as rfl 31 _ rfl (fA 48 fun _ => 0) (by kernel_rfl) ?_) | (refine wpList_store_row rfl 31 _ _ rfl _ _ rfl rfl _ _ hZ (by kernel_rfl) (by simp only [size_fA]) (all_fA _ _) ?_))
              exact bodyPost_ret (results_cell_row2 rfl _ _ (w.heap.size) _ _ _ _ rfl hZ.setRow Tryz.underlying31 rfl (by kernel_rfl)) rfl (RetCC.as Hm.out ⟨_, rfl, fun _ _ => rfl, (by repeat (first | assumption | exact Below.refl _ _ | refine bDrew ?_ _ | refine Below.alloc ?_ (by first | omega | (simp; done) | (simp; omega)) _ | refine Below.setCell ?_ (by first | omega | (simp; done) | (simp; omega)) _ | refine bRow ?_ (by first | omega | (simp; done) | (simp; omega)) _))⟩)
          · obtain rfl : k = n := by omega
            have Hm : Hid (stackRes F k = (A, 0)) := Lib.hid (by rw [HG.out, Nat.sub_self]; rfl)
            go_wp2_with (first | (refine wpList_load_row rfl 31 _ rfl _ rfl _ _ (0, 0) _ hO Tryz.underlying31 rfl (by kernel_rfl) ?_) | (refine wpList_store_row rfl 31 _ _ rfl _ _ rfl rfl _ _ hZ (by kernel_rfl) (by simp only [size_fA]) (all_fA _ _) ?_))
            exact bodyPost_ret (results_cell_row2 rfl _ _ (w.heap.size) _ _ _ _ rfl hZ.setRow Tryz.underlying31 rfl (by kernel_rfl)) rfl (RetCC.as Hm.out ⟨cur, rfl, HA.out, (by repeat (first | assumption | exact Below.refl _ _ | refine bDrew ?_ _ | refine Below.alloc ?_ (by first | omega | (simp; done) | (simp; omega)) _ | refine Below.setCell ?_ (by first | omega | (simp; done) | (simp; omega)) _ | refine bRow ?_ (by first | omega | (simp; done) | (simp; omega)) _))⟩)
      · have Hm : Hid (stackRes F n = (fun _ => canon .f32 0, 3)) := Lib.hid (by unfold stackRes; rw [if_pos H0.out, if_neg h12])
        go_wp2_with (first | (refine wpList_build_as rfl 31 _ rfl (fA 48 fun _ => 0) (by kernel_rfl) ?_) | (refine wpList_store_row rfl 31 _ _ rfl _ _ rfl rfl _ _ hZ (by kernel_rfl) (by simp only [size_fA]) (all_fA _ _) ?_)); exact bodyPost_ret (results_cell_row2 rfl _ _ (w.heap.size) _ _ _ _ rfl hZ.setRow Tryz.underlying31 rfl (by kernel_rfl)) rfl (RetCC.as Hm.out ⟨_, rfl, fun _ _ => rfl, (by repeat (first | assumption | exact Below.refl _ _ | refine bDrew ?_ _ | refine Below.alloc ?_ (by first | omega | (simp; done) | (simp; omega)) _ | refine Below.setCell ?_ (by first | omega | (simp; done) | (simp; omega)) _ | refine bRow ?_ (by first | omega | (simp; done) | (simp; omega)) _))⟩)
end Go.Proofs.YtnfnlgmnnjgemaaGreatDoor
