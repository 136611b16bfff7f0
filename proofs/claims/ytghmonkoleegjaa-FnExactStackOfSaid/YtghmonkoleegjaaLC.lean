/- Contracts: stacks of layers, first part: tests of slices of layers, copies of them. -/
import Derived.Test.YtghmonkoleegjaaLB
import Derived.Test.YtghmonkoleegjaaLD
import Derived.Test.YtghmonkoleegjaaDO
namespace Go.Proofs.Ytghmonkoleegjaa
open Go.RowKit
set_option maxRecDepth 100000

/-- One layer of a row of layers. -/
def lay (F : Nat → Nat) (i : Nat) : Nat → Nat := rowAt F (i * 33)
theorem notValid_any (a : Nat → Nat) (w : World) : Calls Try.prog 34 #[.agg (fA 33 a)] w (RetB w (!layerOk a)) := by
  have hA : Blk (w.alloc (.cells (fA 33 a) 56)) w.heap.size 56 (fA 33 a) := Blk.new _ _ _
  go_enter Try.func34, Try.ntmps34
  go_wp2_with (refine wpList_load_row rfl 56 _ rfl _ rfl _ _ (0, 0) _ hA Try.underlying56 rfl (by kernel_rfl) ?_)
  refine (iValidLayer_any a _).mono ?_
  rintro e w1 ⟨rfl, hb⟩
  go_wp2
  go_ret
  exact ⟨rfl, bCall (by repeat (first | assumption | exact Below.refl _ _ | refine bDrew ?_ _ | refine Below.alloc ?_ (by first | omega | (simp; done) | (simp; omega)) _ | refine Below.setCell ?_ (by first | omega | (simp; done) | (simp; omega)) _ | refine bRow ?_ (by first | omega | (simp; done) | (simp; omega)) _)) hb (by first | omega | (simp; done) | (simp; omega))⟩
theorem indexLayers_any (g n : Nat) (T : TypeId) (F : Nat → Nat) (w : World) (hB : Blk w g T (fA (33 * n) F)) (hn : n ≤ 1048576) :
    Calls Try.prog 63 #[.slice (some ⟨g, 0, none⟩) n n, .func (.func 34) #[] #[]] w fun e w' => ∃ i : Int, e = .returned (.int .i64 i) ∧ decide (0 ≤ i) = !(allTo n fun k => layerOk (lay F k)) ∧ Below w.heap.size w w' := by
  have he' : ∀ (args : Array Value) (w : World), (callFunc 34 args).run Try.prog w = .ok (.enter 34 args) w := fun _ _ => by kernel_rfl
  go_enter Try.func63, Try.ntmps63
  go_wp2
  go_loopw [5, 8] (fun _ i wr => ∃ (k : Nat), k ≤ n ∧ i = .int .i64 k ∧ (∀ j, j < k → layerOk (lay F j) = true) ∧ Below w.heap.size w wr) (fun _ i _ => n - (intOf i).toNat)
  case atStart => exact ⟨0, by omega, rfl, fun j h => absurd h (by omega), (by repeat (first | assumption | exact Below.refl _ _ | refine bDrew ?_ _ | refine Below.alloc ?_ (by first | omega | (simp; done) | (simp; omega)) _ | refine Below.setCell ?_ (by first | omega | (simp; done) | (simp; omega)) _ | refine bRow ?_ (by first | omega | (simp; done) | (simp; omega)) _))⟩
  case round =>
    obtain ⟨k, hk, rfl, hc, hb⟩ := hrel
    have Hc := Lib.hid hc
    clear hc
    by_cases hlt : k < n
    · have hA := hB.below hb hB.lt
      go_wp2_with (refine wpList_load_part rfl 56 _ rfl (k * 33) 33 hA rfl (by omega) Try.underlying56 rfl (by kernel_rfl) ?_)
      refine (notValid_any (lay F k) _).mono ?_
      rintro e w1 ⟨rfl, hb1⟩
      have hb := bCall hb hb1 hb.size
      clear hA
      cases hq : layerOk (lay F k) with
      | false =>
        have Hq := Lib.hid hq
        clear hq
        go_wp2
        go_ret
        exact ⟨_, rfl, by rw [allTo_false hlt Hq.out]; simp, hb⟩
      | true =>
        have Hq := Lib.hid hq
        clear hq
        go_wp2
        go_roundw
        case rel =>
          refine ⟨k + 1, by omega, by go_num, ?_, hb⟩
          intro j hj
          by_cases e : j = k
          · subst e; exact Hq.out
          · exact Hc.out j (by omega)
        case measure => simp [intOf]; omega
    · obtain rfl : k = n := by omega
      go_wp2
      go_ret
      exact ⟨_, rfl, by rw [allTo_true Hc.out]; rfl, hb⟩
theorem containsLayers_any (g n : Nat) (T : TypeId) (F : Nat → Nat) (w : World) (hB : Blk w g T (fA (33 * n) F)) (hn : n ≤ 1048576) :
    Calls Try.prog 33 #[.slice (some ⟨g, 0, none⟩) n n, .func (.func 34) #[] #[]] w (RetB w (!(allTo n fun k => layerOk (lay F k)))) := by
  go_enter Try.func33, Try.ntmps33
  go_wp2_with fail
  refine (indexLayers_any g n T F w hB hn).mono ?_
  rintro e w1 ⟨i, rfl, hi, hb⟩
  have Hi := Lib.hid hi
  clear hi
  go_wp2
  go_ret
  exact ⟨congrArg (fun x => Ending.returned (Value.bool x)) Hi.out, hb⟩
/-- A copy of layers, in a block of its own. -/
def RetLays (w : World) (n : Nat) (F : Nat → Nat) (e : Ending) (w' : World) : Prop := ∃ g, e = .returned (.slice (some ⟨g, 0, none⟩) n n) ∧ w.heap.size ≤ g ∧ Blk w' g 56 (fA (33 * n) F) ∧ Below w.heap.size w w'
theorem toLayerS_any (a : Option Addr) (n c : Nat) (F : Nat → Nat) (w : World) (hA : Lays w a n F) (hn : n ≤ 1048576) : Calls Try.prog 9 #[.slice a n c] w (RetLays w n F) := by
  have hm := fun w => run_make_lays (P := Try.prog) w (t := 31) (e := 56) Try.underlying31 (by kernel_rfl) hn
  have hZ : Blk (w.alloc (.cells (fA (33 * n) fun _ => 0) 56)) w.heap.size 56 (fA (33 * n) fun _ => 0) := Blk.new _ _ _
  go_enter Try.func9, Try.ntmps9
  go_wp2
  go_loopw [4] (fun i wr => ∃ (k : Nat) (cur : Nat → Nat), k ≤ n ∧ i = .int .i64 k ∧ Below w.heap.size w wr ∧ Blk wr w.heap.size 56 (fA (33 * n) cur) ∧ Hid (∀ j, j < 33 * k → cur j = F j)) (fun i _ => n - (intOf i).toNat)
  case atStart => exact ⟨0, fun _ => 0, by omega, rfl, (by repeat (first | assumption | exact Below.refl _ _ | refine bDrew ?_ _ | refine Below.alloc ?_ (by first | omega | (simp; done) | (simp; omega)) _ | refine Below.setCell ?_ (by first | omega | (simp; done) | (simp; omega)) _ | refine bRow ?_ (by first | omega | (simp; done) | (simp; omega)) _)), hZ, Lib.hid fun j h => absurd h (by omega)⟩
  case round =>
    clear hZ
    obtain ⟨k, cur, hk, rfl, hb, hC, HC⟩ := hrel
    by_cases hlt : k < n
    · obtain ⟨g, o, rfl, hg, hcell⟩ := hA.cell (by omega)
      have hr := Lays.range (w := wr) (g := g) (o := o) (len := n) (f := F) (i := k) (fun j hj => by rw [hb.cell (p := ⟨g, o + j, none⟩) hg]; exact hcell j hj) hlt
      clear hm
      go_wp2_with (refine wpList_load_mid rfl 63 _ rfl g (o + k * 33) rfl (fA 33 (rowAt F (k * 33))).toList _ hr Try.underlying63 rfl (by kernel_rfl) ?_)
      refine (toLayer_any (rowAt F (k * 33)) _).mono ?_
      rintro e w1 ⟨rfl, hb1⟩
      have hC := hC.below hb1 hC.lt
      have hb := bCall hb hb1 hb.size; clear hb1
      clear hr hcell
      go_wp2_with (refine wpList_store_part rfl 56 _ _ rfl (k * 33) 33 (rowAt F (k * 33)) hC rfl rfl ⟨by omega, by omega⟩ (by kernel_rfl) ?_)
      go_roundw
      case rel =>
        refine ⟨k + 1, _, by omega, by go_num, bRow hb (Nat.le_refl _) _, hC.setRow, Lib.hid ?_⟩
        intro j hj
        unfold putAt rowAt
        by_cases h : k * 33 ≤ j ∧ j < k * 33 + 33
        · rw [if_pos h]; congr 1; omega
        · rw [if_neg h]; exact HC.out j (by omega)
      case measure => simp [intOf]; omega
    · obtain rfl : k = n := by omega
      go_wp2
      go_ret
      rw [fA_congr (fun i hi => HC.out i hi)] at hC
      exact ⟨_, rfl, Nat.le_refl _, hC, hb⟩
end Go.Proofs.Ytghmonkoleegjaa
