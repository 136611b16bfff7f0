/- Contracts: a film out of what it reflects over two backings. -/
import Derived.Test.YtfpjiclkhjdihaaCP
import Derived.Test.YtfpjiclkhjdihaaCR
import Derived.Test.YtfpjiclkhjdihaaCZ
namespace Go.Proofs.Ytfpjiclkhjdihaa
open Go.RowKit
set_option maxRecDepth 100000

def filmOkP (p : Nat → Option Nat) : Bool :=
  allTo 16 (fun i => share (p i)) && allTo 16 (fun i => share (p (16 + i))) && allTo 16 (fun i => share (p (32 + i)))
    && allTo 16 (fun i => least (p i) (p (32 + i))) && allTo 16 (fun i => least (p (16 + i)) (p (32 + i)))
theorem filmOk_is (a : Nat → Nat) : filmOk a = filmOkP fun i => canon .f32 (a i) := by
  simp only [filmOk, filmOkP, rowAt, Nat.zero_add]
theorem filmOkP_congr {p q : Nat → Option Nat} (h : ∀ i, i < 48 → p i = q i) : filmOkP p = filmOkP q := by
  unfold filmOkP
  rw [allTo_congr (q := fun i => share (q i)) fun i hi => by rw [h i (by omega)], allTo_congr (p := fun i => share (p (16 + i))) (q := fun i => share (q (16 + i))) fun i hi => by rw [h _ (by omega)],
    allTo_congr (p := fun i => share (p (32 + i))) (q := fun i => share (q (32 + i))) fun i hi => by rw [h _ (by omega)], allTo_congr (p := fun i => least (p i) (p (32 + i))) (q := fun i => least (q i) (q (32 + i))) fun i hi => by rw [h _ (by omega), h _ (by omega)],
    allTo_congr (p := fun i => least (p (16 + i)) (p (32 + i))) (q := fun i => least (q (16 + i)) (q (32 + i))) fun i hi => by rw [h _ (by omega), h _ (by omega)]]
def okBack (q : Option Nat) : Bool := share q && !feq q (canon .f32 0)
def twoT (b o q : Option Nat) : Option Nat := if fgt o b then froot (fdiv (fmul (fsub o b) (fsub (canon .f32 1065353216) (fmul b q))) q) else canon .f32 0
def twoAt (b o q : Nat → Option Nat) (i : Nat) : Option Nat := if i < 16 then b i else if i < 32 then b (i - 16) else twoT (b (i - 32)) (o (i - 32)) (q (i - 32))
def twoRes (b o q : Nat → Option Nat) : (Nat → Option Nat) × Int :=
  if allTo 16 (fun i => share (b i)) && allTo 16 (fun i => share (o i)) && allTo 16 (fun i => okBack (q i)) then if filmOkP (twoAt b o q) then (twoAt b o q, 0) else (fun _ => canon .f32 0, 4) else (fun _ => canon .f32 0, 2)
theorem film3_upd (r b t : Nat → Nat) {k : Nat} (hk : k < 16) (v : Nat) : fA 48 (upd (film3 r b t) (32 + k) v) = fA 48 (film3 r b (upd t k v)) := by
  apply fA_congr
  intro i hi
  unfold upd film3
  by_cases h : i = 32 + k
  · subst h
    rw [if_pos rfl, if_neg (by omega), if_neg (by omega)]
    dsimp only
    rw [if_pos (by omega)]
  · rw [if_neg h]
    by_cases h1 : i < 16
    · rw [if_pos h1, if_pos h1]
    · rw [if_neg h1, if_neg h1]
      by_cases h2 : i < 32
      · rw [if_pos h2, if_pos h2]
      · rw [if_neg h2, if_neg h2]
        dsimp only
        rw [if_neg (by omega)]
theorem two_is {b o q t : Nat → Nat} (h : ∀ j, j < 16 → canon .f32 (t j) = twoT (canon .f32 (b j)) (canon .f32 (o j)) (canon .f32 (q j))) : ∀ i, i < 48 → canon .f32 (film3 b b t i) = twoAt (fun i => canon .f32 (b i)) (fun i => canon .f32 (o i)) (fun i => canon .f32 (q i)) i := by
  intro i hi
  unfold film3 twoAt
  by_cases h1 : i < 16
  · rw [if_pos h1, if_pos h1]
  · rw [if_neg h1, if_neg h1]
    by_cases h2 : i < 32
    · rw [if_pos h2, if_pos h2]
    · rw [if_neg h2, if_neg h2, h _ (by omega)]

theorem okBack_any (x : Nat) (w : World) : Calls Try.prog 52 #[.float .f32 x] w (RetB w (okBack (canon .f32 x))) := by
  cases hz : (FloatKind.f32.format.order x 0 == some .eq) with
  | true =>
    have hz2 : (FloatKind.f32.format.order x 0 != some .eq) = false := by simp only [bne, hz, Bool.not_true]
    have Hz : Hid (feq (canon .f32 x) (canon .f32 0) = true) := Lib.hid (by rw [← o_eq]; exact hz)
    go_enter Try.func52, Try.ntmps52
    go_wp2_with fail
    refine (isShare_any _ _).mono ?_
    rintro e w1 ⟨rfl, n, rfl⟩
    cases h1 : share (canon .f32 x) with
    | false =>
      have H1 := Lib.hid h1
      clear h1
      go_wp2
      go_ret
      exact ⟨congrArg (fun x => Ending.returned (Value.bool x)) (by simp only [okBack, H1.out, Bool.false_and]), (by repeat (first | assumption | exact Below.refl _ _ | refine bDrew ?_ _ | refine Below.alloc ?_ (by first | omega | (simp; done) | (simp; omega)) _ | refine Below.setCell ?_ (by first | omega | (simp; done) | (simp; omega)) _ | refine bRow ?_ (by first | omega | (simp; done) | (simp; omega)) _))⟩
    | true =>
      have H1 := Lib.hid h1
      clear h1
      go_wp2
      go_ret
      exact ⟨congrArg (fun x => Ending.returned (Value.bool x)) (by simp only [okBack, H1.out, Hz.out, Bool.not_true, Bool.and_false]), (by repeat (first | assumption | exact Below.refl _ _ | refine bDrew ?_ _ | refine Below.alloc ?_ (by first | omega | (simp; done) | (simp; omega)) _ | refine Below.setCell ?_ (by first | omega | (simp; done) | (simp; omega)) _ | refine bRow ?_ (by first | omega | (simp; done) | (simp; omega)) _))⟩
  | false =>
    have hz2 : (FloatKind.f32.format.order x 0 != some .eq) = true := by simp only [bne, hz, Bool.not_false]
    have Hz : Hid (feq (canon .f32 x) (canon .f32 0) = false) := Lib.hid (by rw [← o_eq]; exact hz)
    go_enter Try.func52, Try.ntmps52
    go_wp2_with fail
    refine (isShare_any _ _).mono ?_
    rintro e w1 ⟨rfl, n, rfl⟩
    cases h1 : share (canon .f32 x) with
    | false =>
      have H1 := Lib.hid h1
      clear h1
      go_wp2
      go_ret
      exact ⟨congrArg (fun x => Ending.returned (Value.bool x)) (by simp only [okBack, H1.out, Bool.false_and]), (by repeat (first | assumption | exact Below.refl _ _ | refine bDrew ?_ _ | refine Below.alloc ?_ (by first | omega | (simp; done) | (simp; omega)) _ | refine Below.setCell ?_ (by first | omega | (simp; done) | (simp; omega)) _ | refine bRow ?_ (by first | omega | (simp; done) | (simp; omega)) _))⟩
    | true =>
      have H1 := Lib.hid h1
      clear h1
      go_wp2
      go_ret
      exact ⟨congrArg (fun x => Ending.returned (Value.bool x)) (by simp only [okBack, H1.out, Hz.out, Bool.not_false, Bool.and_self]), (by repeat (first | assumption | exact Below.refl _ _ | refine bDrew ?_ _ | refine Below.alloc ?_ (by first | omega | (simp; done) | (simp; omega)) _ | refine Below.setCell ?_ (by first | omega | (simp; done) | (simp; omega)) _ | refine bRow ?_ (by first | omega | (simp; done) | (simp; omega)) _))⟩
set_option maxHeartbeats 4000000 in
theorem iFilmFromTwo_any (b o q : Nat → Nat) (w : World) : Calls Try.prog 25 #[.agg (fA 16 b), .agg (fA 16 o), .agg (fA 16 q)] w
    (RetCC 48 w (twoRes (fun i => canon .f32 (b i)) (fun i => canon .f32 (o i)) fun i => canon .f32 (q i)).1 (twoRes (fun i => canon .f32 (b i)) (fun i => canon .f32 (o i)) fun i => canon .f32 (q i)).2) := by
  have hA : Blk ((((w.alloc (.cells (fA 16 b) 26)).alloc (.cells (fA 16 o) 26)).alloc (.cells (fA 16 q) 26)).alloc (.cells (fA 48 fun _ => 0) 28)) w.heap.size 26 (fA 16 b) := (((Blk.new _ _ _).alloc _).alloc _).alloc _
  have hB : Blk ((((w.alloc (.cells (fA 16 b) 26)).alloc (.cells (fA 16 o) 26)).alloc (.cells (fA 16 q) 26)).alloc (.cells (fA 48 fun _ => 0) 28)) (w.heap.size + 1) 26 (fA 16 o) := ((Blk.new_at _ _ (by simp) rfl).alloc _).alloc _
  have hQ : Blk ((((w.alloc (.cells (fA 16 b) 26)).alloc (.cells (fA 16 o) 26)).alloc (.cells (fA 16 q) 26)).alloc (.cells (fA 48 fun _ => 0) 28)) (w.heap.size + 1 + 1) 26 (fA 16 q) := (Blk.new_at _ _ (by simp) rfl).alloc _
  have hZ : Blk ((((w.alloc (.cells (fA 16 b) 26)).alloc (.cells (fA 16 o) 26)).alloc (.cells (fA 16 q) 26)).alloc (.cells (fA 48 fun _ => 0) 28)) (w.heap.size + 1 + 1 + 1) 28 (fA 48 fun _ => 0) := Blk.new_at _ _ (by simp) rfl
  have hb : Below w.heap.size w ((((w.alloc (.cells (fA 16 b) 26)).alloc (.cells (fA 16 o) 26)).alloc (.cells (fA 16 q) 26)).alloc (.cells (fA 48 fun _ => 0) 28)) := (by repeat (first | assumption | exact Below.refl _ _ | refine bDrew ?_ _ | refine Below.alloc ?_ (by first | omega | (simp; done) | (simp; omega)) _ | refine Below.setCell ?_ (by first | omega | (simp; done) | (simp; omega)) _ | refine bRow ?_ (by first | omega | (simp; done) | (simp; omega)) _))
  go_enter Try.func25, Try.ntmps25
  go_wp2_with (refine wpList_load_row rfl 26 _ rfl _ rfl _ _ (0, 0) _ hA Try.underlying26 rfl (by kernel_rfl) ?_)
  refine (all_any 34 share b _ (fun _ _ => by kernel_rfl) (fun x w => (isShare_any x w).mono fun _ _ h => h.to)).mono ?_
  rintro e w1 ⟨rfl, hb1⟩
  have hA := hA.below hb1 hA.lt
  have hB := hB.below hb1 hB.lt
  have hQ := hQ.below hb1 hQ.lt
  have hZ := hZ.below hb1 hZ.lt
  have hb := bCall hb hb1 hb.size; clear hb1
  cases h0 : (allTo 16 fun i => share (canon .f32 (b i))) with
  | false =>
    have Hm : Hid ((twoRes (fun i => canon .f32 (b i)) (fun i => canon .f32 (o i)) fun i => canon .f32 (q i)) = (fun _ => canon .f32 0, 2)) := Lib.hid (by simp only [twoRes, h0, Bool.false_and, Bool.false_eq_true, if_false])
    clear h0
    go_wp2_with (first | (refine wpList_build_as rfl 28 _ rfl (fA 48 fun _ => 0) (by kernel_rfl) ?_) | (refine wpList_store_row rfl 28 _ _ rfl _ _ rfl rfl _ _ hZ (by kernel_rfl) (by simp only [size_fA]) (all_fA _ _) ?_)); exact bodyPost_ret (results_cell_row2 rfl _ _ (w.heap.size + 1 + 1 + 1) _ _ _ _ rfl hZ.setRow Try.underlying28 rfl (by kernel_rfl)) rfl (RetCC.as Hm.out ⟨_, rfl, fun _ _ => rfl, (by repeat (first | assumption | exact Below.refl _ _ | refine bDrew ?_ _ | refine Below.alloc ?_ (by first | omega | (simp; done) | (simp; omega)) _ | refine Below.setCell ?_ (by first | omega | (simp; done) | (simp; omega)) _ | refine bRow ?_ (by first | omega | (simp; done) | (simp; omega)) _))⟩)
  | true =>
    have H0 := Lib.hid h0
    clear h0
    go_wp2_with (refine wpList_load_partW rfl 26 _ rfl 0 16 hB rfl (by decide) Try.underlying26 rfl (by kernel_rfl) ?_)
    rw [rowAt_zero]
    refine (all_any 34 share o _ (fun _ _ => by kernel_rfl) (fun x w => (isShare_any x w).mono fun _ _ h => h.to)).mono ?_
    rintro e w2 ⟨rfl, hb1⟩
    have hA := hA.below hb1 hA.lt
    have hB := hB.below hb1 hB.lt
    have hQ := hQ.below hb1 hQ.lt
    have hZ := hZ.below hb1 hZ.lt
    have hb := bCall hb hb1 hb.size; clear hb1
    cases h1 : (allTo 16 fun i => share (canon .f32 (o i))) with
    | false =>
      have Hm : Hid ((twoRes (fun i => canon .f32 (b i)) (fun i => canon .f32 (o i)) fun i => canon .f32 (q i)) = (fun _ => canon .f32 0, 2)) := Lib.hid (by simp only [twoRes, h1, Bool.and_false, Bool.false_and, Bool.false_eq_true, if_false])
      clear h1
      go_wp2_with (first | (refine wpList_build_as rfl 28 _ rfl (fA 48 fun _ => 0) (by kernel_rfl) ?_) | (refine wpList_store_row rfl 28 _ _ rfl _ _ rfl rfl _ _ hZ (by kernel_rfl) (by simp only [size_fA]) (all_fA _ _) ?_)); exact bodyPost_ret (results_cell_row2 rfl _ _ (w.heap.size + 1 + 1 + 1) _ _ _ _ rfl hZ.setRow Try.underlying28 rfl (by kernel_rfl)) rfl (RetCC.as Hm.out ⟨_, rfl, fun _ _ => rfl, (by repeat (first | assumption | exact Below.refl _ _ | refine bDrew ?_ _ | refine Below.alloc ?_ (by first | omega | (simp; done) | (simp; omega)) _ | refine Below.setCell ?_ (by first | omega | (simp; done) | (simp; omega)) _ | refine bRow ?_ (by first | omega | (simp; done) | (simp; omega)) _))⟩)
    | true =>
      have H1 := Lib.hid h1
      clear h1
      go_wp2_with (refine wpList_load_partW rfl 26 _ rfl 0 16 hQ rfl (by decide) Try.underlying26 rfl (by kernel_rfl) ?_)
      rw [rowAt_zero]
      refine (all_any 52 okBack q _ (fun _ _ => by kernel_rfl) okBack_any).mono ?_
      rintro e w3 ⟨rfl, hb1⟩
      have hA := hA.below hb1 hA.lt
      have hB := hB.below hb1 hB.lt
      have hQ := hQ.below hb1 hQ.lt
      have hZ := hZ.below hb1 hZ.lt
      have hb := bCall hb hb1 hb.size; clear hb1
      cases h2 : (allTo 16 fun i => okBack (canon .f32 (q i))) with
      | false =>
        have Hm : Hid ((twoRes (fun i => canon .f32 (b i)) (fun i => canon .f32 (o i)) fun i => canon .f32 (q i)) = (fun _ => canon .f32 0, 2)) := Lib.hid (by simp only [twoRes, h2, Bool.and_false, Bool.false_eq_true, if_false])
        clear h2
        go_wp2_with (first | (refine wpList_build_as rfl 28 _ rfl (fA 48 fun _ => 0) (by kernel_rfl) ?_) | (refine wpList_store_row rfl 28 _ _ rfl _ _ rfl rfl _ _ hZ (by kernel_rfl) (by simp only [size_fA]) (all_fA _ _) ?_)); exact bodyPost_ret (results_cell_row2 rfl _ _ (w.heap.size + 1 + 1 + 1) _ _ _ _ rfl hZ.setRow Try.underlying28 rfl (by kernel_rfl)) rfl (RetCC.as Hm.out ⟨_, rfl, fun _ _ => rfl, (by repeat (first | assumption | exact Below.refl _ _ | refine bDrew ?_ _ | refine Below.alloc ?_ (by first | omega | (simp; done) | (simp; omega)) _ | refine Below.setCell ?_ (by first | omega | (simp; done) | (simp; omega)) _ | refine bRow ?_ (by first | omega | (simp; done) | (simp; omega)) _))⟩)
      | true =>
        have H2 := Lib.hid h2
        clear h2
        have hO : Blk (w3.alloc (.cells (fA 48 fun _ => 0) 28)) w3.heap.size 28 (fA 48 fun _ => 0) := Blk.new _ _ _
        have hg : w.heap.size + 1 + 1 + 1 < w3.heap.size := hZ.lt
        have hA0 := hA.alloc (.cells (fA 48 fun _ => 0) 28)
        have hA2 := hA0.farRow (g' := w3.heap.size) (cs' := fA 48 (film3 b b fun _ => 0)) (by omega)
        have hB2 := (hB.alloc (.cells (fA 48 fun _ => 0) 28)).farRow (g' := w3.heap.size) (cs' := fA 48 (film3 b b fun _ => 0)) (by omega)
        have hQ2 := (hQ.alloc (.cells (fA 48 fun _ => 0) 28)).farRow (g' := w3.heap.size) (cs' := fA 48 (film3 b b fun _ => 0)) (by omega)
        have hZ2 := (hZ.alloc (.cells (fA 48 fun _ => 0) 28)).farRow (g' := w3.heap.size) (cs' := fA 48 (film3 b b fun _ => 0)) (by omega)
        have hO2 := hO.setRow (cs' := fA 48 (film3 b b fun _ => 0))
        have hb2 := bRow (Below.alloc hb hb.size (.cells (fA 48 fun _ => 0) 28)) (g := w3.heap.size) hb.size (fA 48 (film3 b b fun _ => 0))
        have hix : ∀ (k : Nat) (w : World), k < 16 → (Instr.index 26 (.agg (fA 16 q)) (.int .i64 k)).run Try.prog w = .ok (.float .f32 (q k)) w := fun k w hk =>
          run_index_fA w 26 24 16 q k Try.underlying26 Try.underlying24 (by kernel_rfl) (by omega) (by omega)
        clear hB hQ hZ hb
        go_wp2_with (first | (refine wpList_load_row rfl 26 _ rfl _ rfl _ _ (0, 0) _ hA Try.underlying26 rfl (by kernel_rfl) ?_) | (refine wpList_load_row rfl 26 _ rfl _ rfl _ _ (0, 0) _ hA0 Try.underlying26 rfl (by kernel_rfl) ?_) | (refine wpList_build_as rfl 28 _ rfl (fA 48 (film3 b b fun _ => 0)) (by kernel_rfl) ?_) | (refine wpList_store_row rfl 28 _ _ rfl _ _ rfl rfl _ _ hO (by kernel_rfl) (by simp only [size_fA]) (all_fA _ _) ?_) | (refine wpList_load_row rfl 26 _ rfl _ rfl _ _ (0, 0) _ hQ2 Try.underlying26 rfl (by kernel_rfl) ?_))
        go_loopw [9, 10, 29] (fun _ _ i wr => ∃ (k : Nat) (t : Nat → Nat), k ≤ 16 ∧ i = .int .i64 k ∧ Below w.heap.size w wr ∧ Blk wr w.heap.size 26 (fA 16 b) ∧ Blk wr (w.heap.size + 1) 26 (fA 16 o) ∧ Blk wr (w.heap.size + 1 + 1 + 1) 28 (fA 48 fun _ => 0) ∧ Blk wr w3.heap.size 28 (fA 48 (film3 b b t)) ∧ Hid ((∀ j, j < k → canon .f32 (t j) = twoT (canon .f32 (b j)) (canon .f32 (o j)) (canon .f32 (q j))) ∧ ∀ j, k ≤ j → t j = 0)) (fun _ _ i _ => 16 - (intOf i).toNat)
        case atStart => exact ⟨0, fun _ => 0, by omega, rfl, hb2, hA2, hB2, hZ2, hO2, Lib.hid ⟨fun j h => absurd h (by omega), fun _ _ => rfl⟩⟩
        case round =>
          clear hA hA0 hO hA2 hB2 hQ2 hZ2 hO2 hb2
          obtain ⟨k, t, hk, rfl, hb, hA, hB, hZ, hC, HC⟩ := hrel
          by_cases hlt : k < 16
          · have hx := fun w => hix k w hlt
            have c0 := (hA.cell k).trans (get_fA_lt b hlt)
            have c1 := (hB.cell k).trans (get_fA_lt o hlt)
            have hy : (FloatKind.f32.format.order (o k) (b k) == some .gt) = fgt (canon .f32 (o k)) (canon .f32 (b k)) := o_gt _ _
            clear hix
            cases hv : fgt (canon .f32 (o k)) (canon .f32 (b k)) with
            | false =>
              rw [hv] at hy
              have HV : Hid (twoT (canon .f32 (b k)) (canon .f32 (o k)) (canon .f32 (q k)) = canon .f32 0) := Lib.hid (by simp only [twoT, hv, Bool.false_eq_true, if_false])
              clear hv
              go_wp2_with fail
              (refine wp_region_loose_lit (fun w' => ∃ n, w' = wr.drewN n) (fun _ _ _ => False) (by kernel_rfl) (by kernel_rfl) ⟨1, rfl⟩ ?_)
              repeat (refine wpLoose_plain rfl (fun K hK w1 hw1 => ?_); obtain ⟨n, rfl⟩ := hw1; go_simp; refine ⟨⟨_, rfl⟩, hK _ ?_⟩; clear hK K)
              (refine wpLoose_nil ?_; intro _ hw'; obtain ⟨nq, rfl⟩ := hw')
              clear hy
              go_wp2
              go_roundw
              case rel =>
                refine ⟨k + 1, t, by omega, by go_num, bDrew hb _, Blk.drewN hA _, Blk.drewN hB _, Blk.drewN hZ _, Blk.drewN hC _, Lib.hid ⟨?_, fun j hj => HC.out.2 j (by omega)⟩⟩
                intro j hj
                by_cases e : j = k
                · subst e; rw [HC.out.2 j (Nat.le_refl _), HV.out]
                · exact HC.out.1 j (by omega)
              case measure => simp [intOf]; omega
            | true =>
              rw [hv] at hy
              have HV : Hid (twoT (canon .f32 (b k)) (canon .f32 (o k)) (canon .f32 (q k)) = froot (fdiv (fmul (fsub (canon .f32 (o k)) (canon .f32 (b k))) (fsub (canon .f32 1065353216) (fmul (canon .f32 (b k)) (canon .f32 (q k))))) (canon .f32 (q k)))) := Lib.hid (by simp only [twoT, hv, if_true])
              clear hv
              go_wp2_with fail
              (refine wp_region_loose_lit (fun w' => ∃ n, w' = wr.drewN n) (fun _ _ _ => False) (by kernel_rfl) (by kernel_rfl) ⟨1, rfl⟩ ?_)
              repeat (refine wpLoose_plain rfl (fun K hK w1 hw1 => ?_); obtain ⟨n, rfl⟩ := hw1; go_simp; refine ⟨⟨_, rfl⟩, hK _ ?_⟩; clear hK K)
              (refine wpLoose_nil ?_; intro _ hw'; obtain ⟨nq, rfl⟩ := hw')
              have c3 : wr.cell? ⟨w3.heap.size, 32 + k, none⟩ = some (.float .f32 (film3 b b t (32 + k))) := (hC.cell (32 + k)).trans (get_fA_lt _ (by omega))
              have f3 := hC.frozen (32 + k)
              go_wp2_with fail
              clear hy
              (refine wp_region_loose_tail 20 (fun w' => ∃ n, w' = wr.drewN n) (GM fmul (fun _ x => froot x)) (by kernel_rfl) (by kernel_rfl) ⟨nq + 1, rfl⟩ ?_; simp only [List.take_succ_cons, List.take_zero, List.drop_succ_cons, List.drop_zero])
              clear nq
              repeat (refine wpLoose_plain rfl (fun K hK w1 hw1 => ?_); obtain ⟨n, rfl⟩ := hw1; go_simp; refine ⟨⟨_, rfl⟩, hK _ ?_⟩; clear hK K)
              (refine wpLoose_plain rfl (fun K hK w1 hw1 => ?_); obtain ⟨n1, rfl⟩ := hw1; go_simp; refine ⟨⟨_, rfl⟩, (mul_any _ _ _).mono ?_, fun u hu => hK _ ?_⟩; (rintro e w' ⟨r, rfl, hr, m, rfl⟩; exact ⟨_, rfl, GM.mk2 hr, _, by rw [World.drewN_drewN]⟩); clear hK K; obtain ⟨r1, rfl, R1⟩ := GM.inv2 hu; clear hu)
              repeat (refine wpLoose_plain rfl (fun K hK w1 hw1 => ?_); obtain ⟨n, rfl⟩ := hw1; go_simp; refine ⟨⟨_, rfl⟩, hK _ ?_⟩; clear hK K)
              (refine wpLoose_plain rfl (fun K hK w1 hw1 => ?_); obtain ⟨n1, rfl⟩ := hw1; go_simp; refine ⟨⟨_, rfl⟩, (mul_any _ _ _).mono ?_, fun u hu => hK _ ?_⟩; (rintro e w' ⟨r, rfl, hr, m, rfl⟩; exact ⟨_, rfl, GM.mk2 hr, _, by rw [World.drewN_drewN]⟩); clear hK K; obtain ⟨r2, rfl, R2⟩ := GM.inv2 hu; clear hu)
              repeat (refine wpLoose_plain rfl (fun K hK w1 hw1 => ?_); obtain ⟨n, rfl⟩ := hw1; go_simp; refine ⟨⟨_, rfl⟩, hK _ ?_⟩; clear hK K)
              (refine wpLoose_plain rfl (fun K hK w1 hw1 => ?_); obtain ⟨n1, rfl⟩ := hw1; go_simp; refine ⟨⟨_, rfl⟩, (root_any _ _).mono ?_, fun u hu => hK _ ?_⟩; (rintro e w' ⟨r, rfl, hr, m, rfl⟩; exact ⟨_, rfl, GM.mk1 hr, _, by rw [World.drewN_drewN]⟩); clear hK K; obtain ⟨r3, rfl, R3⟩ := GM.inv1 hu; clear hu)
              repeat (refine wpLoose_plain rfl (fun K hK w1 hw1 => ?_); obtain ⟨n, rfl⟩ := hw1; go_simp; refine ⟨⟨_, rfl⟩, hK _ ?_⟩; clear hK K)
              (refine wpLoose_nil ?_; intro _ hw'; obtain ⟨nq, rfl⟩ := hw')
              have HR : Hid (canon .f32 r3 = twoT (canon .f32 (b k)) (canon .f32 (o k)) (canon .f32 (q k))) := Lib.hid (by rw [R3.out, c_div, R2.out, c_sub, c_sub, R1.out, HV.out])
              clear R1 R2 R3 hx c0 c1
              go_wp2
              go_roundw
              case rel => exact ⟨k + 1, upd t k r3, by omega, by go_num, (bDrew hb _).setCell (by dsimp only; omega) _, Blk.far (Blk.drewN hA _) (by dsimp only; omega) _, Blk.far (Blk.drewN hB _) (by dsimp only; omega) _, Blk.far (Blk.drewN hZ _) (by dsimp only; omega) _, (Blk.setF (Blk.drewN hC _) (32 + k) _).to (film3_upd b b t hlt r3), Lib.hid ⟨upd_to (Q := fun j v => canon .f32 v = twoT (canon .f32 (b j)) (canon .f32 (o j)) (canon .f32 (q j))) HC.out.1 HR.out, upd_from HC.out.2⟩⟩
              case measure => simp [intOf]; omega
          · obtain rfl : k = 16 := by omega
            clear hix hA hB
            go_wp2_with (refine wpList_load_row rfl 28 _ rfl _ rfl _ _ (0, 0) _ hC Try.underlying28 rfl (by kernel_rfl) ?_)
            refine (iValidFilm_any _ wr).mono ?_
            rintro e w4 ⟨rfl, hb1⟩
            have hC := hC.below hb1 hC.lt
            have hZ := hZ.below hb1 hZ.lt
            have hb := bCall hb hb1 hb.size; clear hb1
            have e0 : filmOk (film3 b b t) = filmOkP (twoAt (fun i => canon .f32 (b i)) (fun i => canon .f32 (o i)) fun i => canon .f32 (q i)) := (filmOk_is _).trans (filmOkP_congr (two_is HC.out.1))
            rw [e0]
            clear e0
            cases h3 : filmOkP (twoAt (fun i => canon .f32 (b i)) (fun i => canon .f32 (o i)) fun i => canon .f32 (q i)) with
            | false =>
              have Hm : Hid ((twoRes (fun i => canon .f32 (b i)) (fun i => canon .f32 (o i)) fun i => canon .f32 (q i)) = (fun _ => canon .f32 0, 4)) := Lib.hid (by simp only [twoRes, H0.out, H1.out, H2.out, h3, Bool.and_self, Bool.false_eq_true, if_false, if_true])
              clear h3
              go_wp2_with (first | (refine wpList_build_as rfl 28 _ rfl (fA 48 fun _ => 0) (by kernel_rfl) ?_) | (refine wpList_store_row rfl 28 _ _ rfl _ _ rfl rfl _ _ hZ (by kernel_rfl) (by simp only [size_fA]) (all_fA _ _) ?_)); exact bodyPost_ret (results_cell_row2 rfl _ _ (w.heap.size + 1 + 1 + 1) _ _ _ _ rfl hZ.setRow Try.underlying28 rfl (by kernel_rfl)) rfl (RetCC.as Hm.out ⟨_, rfl, fun _ _ => rfl, (by repeat (first | assumption | exact Below.refl _ _ | refine bDrew ?_ _ | refine Below.alloc ?_ (by first | omega | (simp; done) | (simp; omega)) _ | refine Below.setCell ?_ (by first | omega | (simp; done) | (simp; omega)) _ | refine bRow ?_ (by first | omega | (simp; done) | (simp; omega)) _))⟩)
            | true =>
              have Hm : Hid ((twoRes (fun i => canon .f32 (b i)) (fun i => canon .f32 (o i)) fun i => canon .f32 (q i)) = (twoAt (fun i => canon .f32 (b i)) (fun i => canon .f32 (o i)) fun i => canon .f32 (q i), 0)) := Lib.hid (by simp only [twoRes, H0.out, H1.out, H2.out, h3, Bool.and_self, if_true])
              clear h3
              go_wp2_with (first | (refine wpList_load_row rfl 28 _ rfl _ rfl _ _ (0, 0) _ hC Try.underlying28 rfl (by kernel_rfl) ?_) | (refine wpList_store_row rfl 28 _ _ rfl _ _ rfl rfl _ _ hZ (by kernel_rfl) (by simp only [size_fA]) (all_fA _ _) ?_))
              exact bodyPost_ret (results_cell_row2 rfl _ _ (w.heap.size + 1 + 1 + 1) _ _ _ _ rfl hZ.setRow Try.underlying28 rfl (by kernel_rfl)) rfl (RetCC.as Hm.out ⟨_, rfl, two_is HC.out.1, (by repeat (first | assumption | exact Below.refl _ _ | refine bDrew ?_ _ | refine Below.alloc ?_ (by first | omega | (simp; done) | (simp; omega)) _ | refine Below.setCell ?_ (by first | omega | (simp; done) | (simp; omega)) _ | refine bRow ?_ (by first | omega | (simp; done) | (simp; omega)) _))⟩)
set_option maxHeartbeats 4000000 in
theorem sFilmFromTwo_any (b o q : Nat → Nat) (w : World) : Calls Try.prog 26 #[.agg (fA 16 b), .agg (fA 16 o), .agg (fA 16 q)] w
    (RetCC 48 w (twoRes (fun i => canon .f32 (b i)) (fun i => canon .f32 (o i)) fun i => canon .f32 (q i)).1 (twoRes (fun i => canon .f32 (b i)) (fun i => canon .f32 (o i)) fun i => canon .f32 (q i)).2) := by
  have hA : Blk ((((w.alloc (.cells (fA 16 b) 26)).alloc (.cells (fA 16 o) 26)).alloc (.cells (fA 16 q) 26)).alloc (.cells (fA 48 fun _ => 0) 28)) w.heap.size 26 (fA 16 b) := (((Blk.new _ _ _).alloc _).alloc _).alloc _
  have hB : Blk ((((w.alloc (.cells (fA 16 b) 26)).alloc (.cells (fA 16 o) 26)).alloc (.cells (fA 16 q) 26)).alloc (.cells (fA 48 fun _ => 0) 28)) (w.heap.size + 1) 26 (fA 16 o) := ((Blk.new_at _ _ (by simp) rfl).alloc _).alloc _
  have hQ : Blk ((((w.alloc (.cells (fA 16 b) 26)).alloc (.cells (fA 16 o) 26)).alloc (.cells (fA 16 q) 26)).alloc (.cells (fA 48 fun _ => 0) 28)) (w.heap.size + 1 + 1) 26 (fA 16 q) := (Blk.new_at _ _ (by simp) rfl).alloc _
  have hZ : Blk ((((w.alloc (.cells (fA 16 b) 26)).alloc (.cells (fA 16 o) 26)).alloc (.cells (fA 16 q) 26)).alloc (.cells (fA 48 fun _ => 0) 28)) (w.heap.size + 1 + 1 + 1) 28 (fA 48 fun _ => 0) := Blk.new_at _ _ (by simp) rfl
  have hb : Below w.heap.size w ((((w.alloc (.cells (fA 16 b) 26)).alloc (.cells (fA 16 o) 26)).alloc (.cells (fA 16 q) 26)).alloc (.cells (fA 48 fun _ => 0) 28)) := (by repeat (first | assumption | exact Below.refl _ _ | refine bDrew ?_ _ | refine Below.alloc ?_ (by first | omega | (simp; done) | (simp; omega)) _ | refine Below.setCell ?_ (by first | omega | (simp; done) | (simp; omega)) _ | refine bRow ?_ (by first | omega | (simp; done) | (simp; omega)) _))
  go_enter Try.func26, Try.ntmps26
  go_wp2_with (refine wpList_load_row rfl 26 _ rfl _ rfl _ _ (0, 0) _ hA Try.underlying26 rfl (by kernel_rfl) ?_)
  refine (l02Share_any b _).mono ?_
  rintro e w1 ⟨rfl, hb1⟩
  have hA := hA.below hb1 hA.lt
  have hB := hB.below hb1 hB.lt
  have hQ := hQ.below hb1 hQ.lt
  have hZ := hZ.below hb1 hZ.lt
  have hb := bCall hb hb1 hb.size; clear hb1
  cases h0 : (allTo 16 fun i => share (canon .f32 (b i))) with
  | false =>
    have Hm : Hid ((twoRes (fun i => canon .f32 (b i)) (fun i => canon .f32 (o i)) fun i => canon .f32 (q i)) = (fun _ => canon .f32 0, 2)) := Lib.hid (by simp only [twoRes, h0, Bool.false_and, Bool.false_eq_true, if_false])
    clear h0
    go_wp2_with (first | (refine wpList_build_as rfl 28 _ rfl (fA 48 fun _ => 0) (by kernel_rfl) ?_) | (refine wpList_store_row rfl 28 _ _ rfl _ _ rfl rfl _ _ hZ (by kernel_rfl) (by simp only [size_fA]) (all_fA _ _) ?_)); exact bodyPost_ret (results_cell_row2 rfl _ _ (w.heap.size + 1 + 1 + 1) _ _ _ _ rfl hZ.setRow Try.underlying28 rfl (by kernel_rfl)) rfl (RetCC.as Hm.out ⟨_, rfl, fun _ _ => rfl, (by repeat (first | assumption | exact Below.refl _ _ | refine bDrew ?_ _ | refine Below.alloc ?_ (by first | omega | (simp; done) | (simp; omega)) _ | refine Below.setCell ?_ (by first | omega | (simp; done) | (simp; omega)) _ | refine bRow ?_ (by first | omega | (simp; done) | (simp; omega)) _))⟩)
  | true =>
    have H0 := Lib.hid h0
    clear h0
    go_wp2_with (refine wpList_load_partW rfl 26 _ rfl 0 16 hB rfl (by decide) Try.underlying26 rfl (by kernel_rfl) ?_)
    rw [rowAt_zero]
    refine (l02Share_any o _).mono ?_
    rintro e w2 ⟨rfl, hb1⟩
    have hA := hA.below hb1 hA.lt
    have hB := hB.below hb1 hB.lt
    have hQ := hQ.below hb1 hQ.lt
    have hZ := hZ.below hb1 hZ.lt
    have hb := bCall hb hb1 hb.size; clear hb1
    cases h1 : (allTo 16 fun i => share (canon .f32 (o i))) with
    | false =>
      have Hm : Hid ((twoRes (fun i => canon .f32 (b i)) (fun i => canon .f32 (o i)) fun i => canon .f32 (q i)) = (fun _ => canon .f32 0, 2)) := Lib.hid (by simp only [twoRes, h1, Bool.and_false, Bool.false_and, Bool.false_eq_true, if_false])
      clear h1
      go_wp2_with (first | (refine wpList_build_as rfl 28 _ rfl (fA 48 fun _ => 0) (by kernel_rfl) ?_) | (refine wpList_store_row rfl 28 _ _ rfl _ _ rfl rfl _ _ hZ (by kernel_rfl) (by simp only [size_fA]) (all_fA _ _) ?_)); exact bodyPost_ret (results_cell_row2 rfl _ _ (w.heap.size + 1 + 1 + 1) _ _ _ _ rfl hZ.setRow Try.underlying28 rfl (by kernel_rfl)) rfl (RetCC.as Hm.out ⟨_, rfl, fun _ _ => rfl, (by repeat (first | assumption | exact Below.refl _ _ | refine bDrew ?_ _ | refine Below.alloc ?_ (by first | omega | (simp; done) | (simp; omega)) _ | refine Below.setCell ?_ (by first | omega | (simp; done) | (simp; omega)) _ | refine bRow ?_ (by first | omega | (simp; done) | (simp; omega)) _))⟩)
    | true =>
      have H1 := Lib.hid h1
      clear h1
      go_wp2_with (refine wpList_load_partW rfl 26 _ rfl 0 16 hQ rfl (by decide) Try.underlying26 rfl (by kernel_rfl) ?_)
      rw [rowAt_zero]
      refine (l02Share_any q _).mono ?_
      rintro e w3 ⟨rfl, hb1⟩
      have hA := hA.below hb1 hA.lt
      have hB := hB.below hb1 hB.lt
      have hQ := hQ.below hb1 hQ.lt
      have hZ := hZ.below hb1 hZ.lt
      have hb := bCall hb hb1 hb.size; clear hb1
      cases h2 : (allTo 16 fun i => share (canon .f32 (q i))) with
      | false =>
        have Hm : Hid ((twoRes (fun i => canon .f32 (b i)) (fun i => canon .f32 (o i)) fun i => canon .f32 (q i)) = (fun _ => canon .f32 0, 2)) := Lib.hid (by
          have h3 : (allTo 16 fun i => okBack (canon .f32 (q i))) = false := by
            cases h4 : (allTo 16 fun i => okBack (canon .f32 (q i))) with
            | false => rfl
            | true =>
              have h5 := allTo_true (n := 16) (p := fun i => share (canon .f32 (q i))) fun j hj => by
                have h6 := allTo_get h4 hj
                simp only [okBack, Bool.and_eq_true] at h6
                exact h6.1
              rw [h5] at h2
              cases h2
          simp only [twoRes, h3, Bool.and_false, Bool.false_eq_true, if_false])
        clear h2
        go_wp2_with (first | (refine wpList_build_as rfl 28 _ rfl (fA 48 fun _ => 0) (by kernel_rfl) ?_) | (refine wpList_store_row rfl 28 _ _ rfl _ _ rfl rfl _ _ hZ (by kernel_rfl) (by simp only [size_fA]) (all_fA _ _) ?_)); exact bodyPost_ret (results_cell_row2 rfl _ _ (w.heap.size + 1 + 1 + 1) _ _ _ _ rfl hZ.setRow Try.underlying28 rfl (by kernel_rfl)) rfl (RetCC.as Hm.out ⟨_, rfl, fun _ _ => rfl, (by repeat (first | assumption | exact Below.refl _ _ | refine bDrew ?_ _ | refine Below.alloc ?_ (by first | omega | (simp; done) | (simp; omega)) _ | refine Below.setCell ?_ (by first | omega | (simp; done) | (simp; omega)) _ | refine bRow ?_ (by first | omega | (simp; done) | (simp; omega)) _))⟩)
      | true =>
        have H2 := Lib.hid h2
        clear h2
        have hO : Blk (w3.alloc (.cells (fA 48 fun _ => 0) 28)) w3.heap.size 28 (fA 48 fun _ => 0) := Blk.new _ _ _
        have hg : w.heap.size + 1 + 1 + 1 < w3.heap.size := hZ.lt
        have hA0 := hA.alloc (.cells (fA 48 fun _ => 0) 28)
        have hA2 := hA0.farRow (g' := w3.heap.size) (cs' := fA 48 (film3 b b fun _ => 0)) (by omega)
        have hB2 := (hB.alloc (.cells (fA 48 fun _ => 0) 28)).farRow (g' := w3.heap.size) (cs' := fA 48 (film3 b b fun _ => 0)) (by omega)
        have hQ2 := (hQ.alloc (.cells (fA 48 fun _ => 0) 28)).farRow (g' := w3.heap.size) (cs' := fA 48 (film3 b b fun _ => 0)) (by omega)
        have hZ2 := (hZ.alloc (.cells (fA 48 fun _ => 0) 28)).farRow (g' := w3.heap.size) (cs' := fA 48 (film3 b b fun _ => 0)) (by omega)
        have hO2 := hO.setRow (cs' := fA 48 (film3 b b fun _ => 0))
        have hb2 := bRow (Below.alloc hb hb.size (.cells (fA 48 fun _ => 0) 28)) (g := w3.heap.size) hb.size (fA 48 (film3 b b fun _ => 0))
        clear hB hQ hZ hb
        go_wp2_with (first | (refine wpList_load_row rfl 26 _ rfl _ rfl _ _ (0, 0) _ hA Try.underlying26 rfl (by kernel_rfl) ?_) | (refine wpList_load_row rfl 26 _ rfl _ rfl _ _ (0, 0) _ hA0 Try.underlying26 rfl (by kernel_rfl) ?_) | (refine wpList_build_as rfl 28 _ rfl (fA 48 (film3 b b fun _ => 0)) (by kernel_rfl) ?_) | (refine wpList_store_row rfl 28 _ _ rfl _ _ rfl rfl _ _ hO (by kernel_rfl) (by simp only [size_fA]) (all_fA _ _) ?_))
        go_loopw [9, 10] (fun i _ wr => ∃ (k : Nat) (t : Nat → Nat), k ≤ 16 ∧ i = .int .i64 k ∧ Below w.heap.size w wr ∧ Blk wr w.heap.size 26 (fA 16 b) ∧ Blk wr (w.heap.size + 1) 26 (fA 16 o) ∧ Blk wr (w.heap.size + 1 + 1) 26 (fA 16 q) ∧ Blk wr (w.heap.size + 1 + 1 + 1) 28 (fA 48 fun _ => 0) ∧ Blk wr w3.heap.size 28 (fA 48 (film3 b b t)) ∧ Hid ((∀ j, j < k → okBack (canon .f32 (q j)) = true) ∧ (∀ j, j < k → canon .f32 (t j) = twoT (canon .f32 (b j)) (canon .f32 (o j)) (canon .f32 (q j))) ∧ ∀ j, k ≤ j → t j = 0)) (fun i _ _ => 16 - (intOf i).toNat)
        case atStart => exact ⟨0, fun _ => 0, by omega, rfl, hb2, hA2, hB2, hQ2, hZ2, hO2, Lib.hid ⟨fun j h => absurd h (by omega), fun j h => absurd h (by omega), fun _ _ => rfl⟩⟩
        case round =>
          clear hA hA0 hO hA2 hB2 hQ2 hZ2 hO2 hb2
          obtain ⟨k, t, hk, rfl, hb, hA, hB, hQ, hZ, hC, HC⟩ := hrel
          by_cases hlt : k < 16
          · have c0 := (hA.cell k).trans (get_fA_lt b hlt)
            have c1 := (hB.cell k).trans (get_fA_lt o hlt)
            have c2 := (hQ.cell k).trans (get_fA_lt q hlt)
            have hy : (FloatKind.f32.format.order (o k) (b k) == some .gt) = fgt (canon .f32 (o k)) (canon .f32 (b k)) := o_gt _ _
            cases hz : (FloatKind.f32.format.order (q k) 0 == some .eq) with
            | true =>
              have Hm : Hid ((twoRes (fun i => canon .f32 (b i)) (fun i => canon .f32 (o i)) fun i => canon .f32 (q i)) = (fun _ => canon .f32 0, 2)) := Lib.hid (by
                have h3 : (allTo 16 fun i => okBack (canon .f32 (q i))) = false := allTo_false hlt (by rw [o_eq] at hz; simp only [okBack, hz, Bool.not_true, Bool.and_false])
                simp only [twoRes, h3, Bool.and_false, Bool.false_eq_true, if_false])
              clear hy
              go_wp2_with (first | (refine wpList_build_as rfl 28 _ rfl (fA 48 fun _ => 0) (by kernel_rfl) ?_) | (refine wpList_store_row rfl 28 _ _ rfl _ _ rfl rfl _ _ hZ (by kernel_rfl) (by simp only [size_fA]) (all_fA _ _) ?_)); exact bodyPost_ret (results_cell_row2 rfl _ _ (w.heap.size + 1 + 1 + 1) _ _ _ _ rfl hZ.setRow Try.underlying28 rfl (by kernel_rfl)) rfl (RetCC.as Hm.out ⟨_, rfl, fun _ _ => rfl, (by repeat (first | assumption | exact Below.refl _ _ | refine bDrew ?_ _ | refine Below.alloc ?_ (by first | omega | (simp; done) | (simp; omega)) _ | refine Below.setCell ?_ (by first | omega | (simp; done) | (simp; omega)) _ | refine bRow ?_ (by first | omega | (simp; done) | (simp; omega)) _))⟩)
            | false =>
            have HK : Hid (okBack (canon .f32 (q k)) = true) := Lib.hid (by
              have h3 := allTo_get H2.out hlt
              rw [o_eq] at hz
              simp only [okBack, h3, hz, Bool.not_false, Bool.and_self])
            cases hv : fgt (canon .f32 (o k)) (canon .f32 (b k)) with
            | false =>
              rw [hv] at hy
              have HV : Hid (twoT (canon .f32 (b k)) (canon .f32 (o k)) (canon .f32 (q k)) = canon .f32 0) := Lib.hid (by simp only [twoT, hv, Bool.false_eq_true, if_false])
              clear hv
              go_wp2_with fail
              (refine wp_region_loose_lit (fun w' => ∃ n, w' = wr.drewN n) (fun _ _ _ => False) (by kernel_rfl) (by kernel_rfl) ⟨1, rfl⟩ ?_)
              repeat (refine wpLoose_plain rfl (fun K hK w1 hw1 => ?_); obtain ⟨n, rfl⟩ := hw1; go_simp; refine ⟨⟨_, rfl⟩, hK _ ?_⟩; clear hK K)
              (refine wpLoose_nil ?_; intro _ hw'; obtain ⟨nq, rfl⟩ := hw')
              clear hy
              go_wp2
              go_roundw
              case rel =>
                refine ⟨k + 1, t, by omega, by go_num, bDrew hb _, Blk.drewN hA _, Blk.drewN hB _, Blk.drewN hQ _, Blk.drewN hZ _, Blk.drewN hC _, Lib.hid ⟨?_, ?_, fun j hj => HC.out.2.2 j (by omega)⟩⟩
                · intro j hj
                  by_cases e : j = k
                  · subst e; exact HK.out
                  · exact HC.out.1 j (by omega)
                · intro j hj
                  by_cases e : j = k
                  · subst e; rw [HC.out.2.2 j (Nat.le_refl _), HV.out]
                  · exact HC.out.2.1 j (by omega)
              case measure => simp [intOf]; omega
            | true =>
              rw [hv] at hy
              have HV : Hid (twoT (canon .f32 (b k)) (canon .f32 (o k)) (canon .f32 (q k)) = froot (fdiv (fmul (fsub (canon .f32 (o k)) (canon .f32 (b k))) (fsub (canon .f32 1065353216) (fmul (canon .f32 (b k)) (canon .f32 (q k))))) (canon .f32 (q k)))) := Lib.hid (by simp only [twoT, hv, if_true])
              clear hv
              go_wp2_with fail
              (refine wp_region_loose_lit (fun w' => ∃ n, w' = wr.drewN n) (fun _ _ _ => False) (by kernel_rfl) (by kernel_rfl) ⟨1, rfl⟩ ?_)
              repeat (refine wpLoose_plain rfl (fun K hK w1 hw1 => ?_); obtain ⟨n, rfl⟩ := hw1; go_simp; refine ⟨⟨_, rfl⟩, hK _ ?_⟩; clear hK K)
              (refine wpLoose_nil ?_; intro _ hw'; obtain ⟨nq, rfl⟩ := hw')
              have c3 : wr.cell? ⟨w3.heap.size, 32 + k, none⟩ = some (.float .f32 (film3 b b t (32 + k))) := (hC.cell (32 + k)).trans (get_fA_lt _ (by omega))
              have f3 := hC.frozen (32 + k)
              go_wp2_with fail
              clear hy
              (refine wp_region_loose_lit (fun w' => ∃ n, w' = wr.drewN n) (fun _ _ _ => False) (by kernel_rfl) (by kernel_rfl) ⟨nq + 1, rfl⟩ ?_)
              clear nq
              repeat (refine wpLoose_plain rfl (fun K hK w1 hw1 => ?_); obtain ⟨n, rfl⟩ := hw1; go_simp; refine ⟨⟨_, rfl⟩, hK _ ?_⟩; clear hK K)
              (refine wpLoose_nil ?_; intro _ hw'; obtain ⟨nq, rfl⟩ := hw')
              go_wp2_with fail
              refine (l01Root_any _ _).mono ?_
              rintro e w4 ⟨r3, rfl, hr3, n3, rfl⟩
              have HR : Hid (canon .f32 r3 = twoT (canon .f32 (b k)) (canon .f32 (o k)) (canon .f32 (q k))) := Lib.hid (by rw [hr3, c_div, c_mul, c_sub, c_sub, c_mul, HV.out])
              clear hr3 c0 c1 c2
              go_wp2
              go_roundw
              case rel =>
                refine ⟨k + 1, upd t k r3, by omega, by go_num, (bDrew hb _).setCell (by dsimp only; omega) _, Blk.far (Blk.drewN hA _) (by dsimp only; omega) _, Blk.far (Blk.drewN hB _) (by dsimp only; omega) _, Blk.far (Blk.drewN hQ _) (by dsimp only; omega) _, Blk.far (Blk.drewN hZ _) (by dsimp only; omega) _, (Blk.setF (Blk.drewN hC _) (32 + k) _).to (film3_upd b b t hlt r3), Lib.hid ⟨?_, upd_to (Q := fun j v => canon .f32 v = twoT (canon .f32 (b j)) (canon .f32 (o j)) (canon .f32 (q j))) HC.out.2.1 HR.out, upd_from HC.out.2.2⟩⟩
                intro j hj
                by_cases e : j = k
                · subst e; exact HK.out
                · exact HC.out.1 j (by omega)
              case measure => simp [intOf]; omega
          · obtain rfl : k = 16 := by omega
            clear hA hB hQ
            go_wp2_with fail
            refine (l02Film_any _ _ _ wr hC).mono ?_
            rintro e w4 ⟨rfl, hb1⟩
            have hC := hC.below hb1 hC.lt
            have hZ := hZ.below hb1 hZ.lt
            have hb := bCall hb hb1 hb.size; clear hb1
            have e0 : filmOk (film3 b b t) = filmOkP (twoAt (fun i => canon .f32 (b i)) (fun i => canon .f32 (o i)) fun i => canon .f32 (q i)) := (filmOk_is _).trans (filmOkP_congr (two_is HC.out.2.1))
            rw [e0]
            clear e0
            have H3 : Hid ((allTo 16 fun i => okBack (canon .f32 (q i))) = true) := Lib.hid (allTo_true HC.out.1)
            cases h3 : filmOkP (twoAt (fun i => canon .f32 (b i)) (fun i => canon .f32 (o i)) fun i => canon .f32 (q i)) with
            | false =>
              have Hm : Hid ((twoRes (fun i => canon .f32 (b i)) (fun i => canon .f32 (o i)) fun i => canon .f32 (q i)) = (fun _ => canon .f32 0, 4)) := Lib.hid (by simp only [twoRes, H0.out, H1.out, H3.out, h3, Bool.and_self, Bool.false_eq_true, if_false, if_true])
              clear h3
              go_wp2_with (first | (refine wpList_build_as rfl 28 _ rfl (fA 48 fun _ => 0) (by kernel_rfl) ?_) | (refine wpList_store_row rfl 28 _ _ rfl _ _ rfl rfl _ _ hZ (by kernel_rfl) (by simp only [size_fA]) (all_fA _ _) ?_)); exact bodyPost_ret (results_cell_row2 rfl _ _ (w.heap.size + 1 + 1 + 1) _ _ _ _ rfl hZ.setRow Try.underlying28 rfl (by kernel_rfl)) rfl (RetCC.as Hm.out ⟨_, rfl, fun _ _ => rfl, (by repeat (first | assumption | exact Below.refl _ _ | refine bDrew ?_ _ | refine Below.alloc ?_ (by first | omega | (simp; done) | (simp; omega)) _ | refine Below.setCell ?_ (by first | omega | (simp; done) | (simp; omega)) _ | refine bRow ?_ (by first | omega | (simp; done) | (simp; omega)) _))⟩)
            | true =>
              have Hm : Hid ((twoRes (fun i => canon .f32 (b i)) (fun i => canon .f32 (o i)) fun i => canon .f32 (q i)) = (twoAt (fun i => canon .f32 (b i)) (fun i => canon .f32 (o i)) fun i => canon .f32 (q i), 0)) := Lib.hid (by simp only [twoRes, H0.out, H1.out, H3.out, h3, Bool.and_self, if_true])
              clear h3
              go_wp2_with (first | (refine wpList_load_row rfl 28 _ rfl _ rfl _ _ (0, 0) _ hC Try.underlying28 rfl (by kernel_rfl) ?_) | (refine wpList_store_row rfl 28 _ _ rfl _ _ rfl rfl _ _ hZ (by kernel_rfl) (by simp only [size_fA]) (all_fA _ _) ?_))
              exact bodyPost_ret (results_cell_row2 rfl _ _ (w.heap.size + 1 + 1 + 1) _ _ _ _ rfl hZ.setRow Try.underlying28 rfl (by kernel_rfl)) rfl (RetCC.as Hm.out ⟨_, rfl, two_is HC.out.2.1, (by repeat (first | assumption | exact Below.refl _ _ | refine bDrew ?_ _ | refine Below.alloc ?_ (by first | omega | (simp; done) | (simp; omega)) _ | refine Below.setCell ?_ (by first | omega | (simp; done) | (simp; omega)) _ | refine bRow ?_ (by first | omega | (simp; done) | (simp; omega)) _))⟩)
end Go.Proofs.Ytfpjiclkhjdihaa
