/- Contracts: the laws' own small functions. Contracts: products, sameness of numbers, sums, what is made of the numbers of curves by a function value. Contracts: the reference's curves. Contracts: sums; whether two rows are alike. Contracts: what is made of the numbers of curves by a function value. Contracts: sameness of curves and looks. -/
import Derived.WalkKit
import Derived.WalkSpells
import Derived.Outline
import Derived.Test.YtfpjiclkhjdihaaKit
import Derived.Test.YtfpjiclkhjdihaaChecked
namespace Go.Proofs.Ytfpjiclkhjdihaa
open Go.RowKit
set_option maxRecDepth 100000





end Go.Proofs.Ytfpjiclkhjdihaa

namespace Go.Proofs.Ytfpjiclkhjdihaa
open Go.RowKit
set_option maxRecDepth 100000

theorem mul_any (a b : Nat) (w : World) : Calls Try.prog 54 #[.float .f32 a, .float .f32 b] w (RetFq w (fmul (canon .f32 a) (canon .f32 b))) := by
  go_enter Try.func54, Try.ntmps54
  go_wp2
  go_ret
  exact ⟨_, rfl, c_mul .., _, rfl⟩
theorem mul_enters : Enters Try.prog 54 := fun _ _ => by kernel_rfl

theorem bits32 (b : Nat) (w : World) : (callFunc 88 #[.float .f32 b]).run Try.prog w = .ok (.value (.int .u32 b)) w := by kernel_rfl


theorem l01Same_any (a b : Nat) (w : World) : Calls Try.prog 71 #[.float .f32 a, .float .f32 b] w (RetBq w (canon .f32 a == canon .f32 b)) := by
  have hbits := bits32
  cases ha : canon .f32 a with
  | none =>
    have oa : FloatKind.f32.format.order a a = none := by rw [order_self, ha]; rfl
    cases hb : canon .f32 b with
    | none =>
      have ob : FloatKind.f32.format.order b b = none := by rw [order_self, hb]; rfl
      clear ha hb
      go_enter Try.func71, Try.ntmps71
      go_wp2
      go_ret
      exact ⟨rfl, 0, rfl⟩
    | some y =>
      have ob : FloatKind.f32.format.order b b = some .eq := by rw [order_self, hb]; rfl
      clear ha hb
      go_enter Try.func71, Try.ntmps71
      go_wp2
      go_ret
      exact ⟨rfl, 0, rfl⟩
  | some x =>
    have oa : FloatKind.f32.format.order a a = some .eq := by rw [order_self, ha]; rfl
    cases hb : canon .f32 b with
    | none =>
      have ob : FloatKind.f32.format.order b b = none := by rw [order_self, hb]; rfl
      clear ha hb
      go_enter Try.func71, Try.ntmps71
      go_wp2
      go_ret
      exact ⟨rfl, 0, rfl⟩
    | some y =>
      have ob : FloatKind.f32.format.order b b = some .eq := by rw [order_self, hb]; rfl
      obtain ⟨rfl, _⟩ := canon_eq_some ha
      obtain ⟨rfl, _⟩ := canon_eq_some hb
      clear ha hb
      go_enter Try.func71, Try.ntmps71
      go_wp2
      go_ret
      exact ⟨congrArg (fun x => Ending.returned (Value.bool x)) (by rw [Bool.eq_iff_iff]; simp; omega), 0, rfl⟩

end Go.Proofs.Ytfpjiclkhjdihaa

namespace Go.Proofs.Ytfpjiclkhjdihaa
open Go.RowKit
set_option maxRecDepth 100000

theorem sScaleCurve_any (c : Nat → Nat) (b : Nat) (w : World) :
    Calls Try.prog 73 #[.agg (fA 16 c), .float .f32 b] w (RetC 16 w fun i => fmul (canon .f32 (c i)) (canon .f32 b)) := by
  go_enter Try.func73, Try.ntmps73
  go_wp2
  go_loopw [5] (fun i wr => ∃ (k : Nat) (z cur : Nat → Nat), k ≤ 16 ∧ i = .int .i64 k ∧ Below w.heap.size w wr ∧ Blk wr w.heap.size 26 (fA 16 cur) ∧ Blk wr (w.heap.size + 1) 26 (fA 16 z) ∧ (∀ j, j < k → canon .f32 (cur j) = fmul (canon .f32 (c j)) (canon .f32 b)) ∧ ∀ j, k ≤ j → cur j = c j) (fun i _ => 16 - (intOf i).toNat)
  case atStart => exact ⟨0, fun _ => 0, c, by omega, rfl, (by repeat (first | assumption | exact Below.refl _ _ | refine bDrew ?_ _ | refine Below.alloc ?_ (by first | omega | (simp; done) | (simp; omega)) _ | refine Below.setCell ?_ (by first | omega | (simp; done) | (simp; omega)) _ | refine bRow ?_ (by first | omega | (simp; done) | (simp; omega)) _)), (by first | assumption | (repeat (first | assumption | (apply Blk.new_at; (focus (simp; done)); rfl) | apply Blk.alloc | apply Blk.drewN))), (by first | assumption | (repeat (first | assumption | (apply Blk.new_at; (focus (simp; done)); rfl) | apply Blk.alloc | apply Blk.drewN))), fun j h => absurd h (by omega), fun j _ => rfl⟩
  case round =>
    obtain ⟨k, z, cur, hk, rfl, hb, hC, hZ, hc, ho⟩ := hrel
    have Hc := Lib.hid hc
    have Ho := Lib.hid ho
    by_cases hlt : k < 16
    · have c1 : wr.cell? ⟨w.heap.size, k, none⟩ = some (.float .f32 (c k)) := by rw [hC.cell k, get_fA_lt cur hlt, ho k (Nat.le_refl _)]
      have f1 := hC.frozen k
      clear hc ho
      go_wp2
      go_roundw
      case rel => exact ⟨k + 1, z, _, by omega, by go_num, (by repeat (first | assumption | exact Below.refl _ _ | refine bDrew ?_ _ | refine Below.alloc ?_ (by first | omega | (simp; done) | (simp; omega)) _ | refine Below.setCell ?_ (by first | omega | (simp; done) | (simp; omega)) _ | refine bRow ?_ (by first | omega | (simp; done) | (simp; omega)) _)), hC.setF k _, hZ.far (by dsimp only; omega) _, upd_to (Q := fun j v => canon .f32 v = fmul (canon .f32 (c j)) (canon .f32 b)) Hc.out (c_mul ..), upd_from Ho.out⟩
      case measure => simp [intOf]; omega
    · obtain rfl : k = 16 := by omega
      clear hc ho
      go_wp2_with (first | (refine wpList_load_row rfl 26 _ rfl _ rfl _ _ (0, 0) _ (by first | assumption | (repeat (first | assumption | (apply Blk.new_at; (focus (simp; done)); rfl) | apply Blk.alloc | apply Blk.drewN))) Try.underlying26 rfl (by kernel_rfl) ?_) | (refine wpList_store_row rfl 26 _ _ rfl _ _ rfl rfl _ _ (by first | assumption | (repeat (first | assumption | (apply Blk.new_at; (focus (simp; done)); rfl) | apply Blk.alloc | apply Blk.drewN))) (by kernel_rfl) (by simp only [size_fA]) (all_fA _ _) ?_))
      exact bodyPost_ret (results_cell_row rfl _ _ (w.heap.size + 1) _ _ _ _ rfl hZ.setRow Try.underlying26 rfl (by kernel_rfl)) rfl ⟨_, rfl, Hc.out, (by repeat (first | assumption | exact Below.refl _ _ | refine bDrew ?_ _ | refine Below.alloc ?_ (by first | omega | (simp; done) | (simp; omega)) _ | refine Below.setCell ?_ (by first | omega | (simp; done) | (simp; omega)) _ | refine bRow ?_ (by first | omega | (simp; done) | (simp; omega)) _))⟩
theorem l01Flat_any (a : Nat) (w : World) : Calls Try.prog 76 #[.float .f32 a] w (RetC 16 w fun _ => canon .f32 a) := by
  go_enter Try.func76, Try.ntmps76
  go_wp2
  go_loopw [4] (fun i wr => ∃ (k : Nat) (z cur : Nat → Nat), k ≤ 16 ∧ i = .int .i64 k ∧ Below w.heap.size w wr ∧ Blk wr w.heap.size 26 (fA 16 z) ∧ Blk wr (w.heap.size + 1) 26 (fA 16 cur) ∧ ∀ j, j < k → canon .f32 (cur j) = canon .f32 a) (fun i _ => 16 - (intOf i).toNat)
  case atStart => exact ⟨0, fun _ => 0, fun _ => 0, by omega, rfl, (by repeat (first | assumption | exact Below.refl _ _ | refine bDrew ?_ _ | refine Below.alloc ?_ (by first | omega | (simp; done) | (simp; omega)) _ | refine Below.setCell ?_ (by first | omega | (simp; done) | (simp; omega)) _ | refine bRow ?_ (by first | omega | (simp; done) | (simp; omega)) _)), (by first | assumption | (repeat (first | assumption | (apply Blk.new_at; (focus (simp; done)); rfl) | apply Blk.alloc | apply Blk.drewN))), (by first | assumption | (repeat (first | assumption | (apply Blk.new_at; (focus (simp; done)); rfl) | apply Blk.alloc | apply Blk.drewN))), fun j h => absurd h (by omega)⟩
  case round =>
    obtain ⟨k, z, cur, hk, rfl, hb, hZ, hC, hc⟩ := hrel
    have Hc := Lib.hid hc
    clear hc
    by_cases hlt : k < 16
    · have c1 := (hC.cell k).trans (get_fA_lt cur hlt)
      have f1 := hC.frozen k
      go_wp2
      go_roundw
      case rel => exact ⟨k + 1, z, _, by omega, by go_num, (by repeat (first | assumption | exact Below.refl _ _ | refine bDrew ?_ _ | refine Below.alloc ?_ (by first | omega | (simp; done) | (simp; omega)) _ | refine Below.setCell ?_ (by first | omega | (simp; done) | (simp; omega)) _ | refine bRow ?_ (by first | omega | (simp; done) | (simp; omega)) _)), hZ.far (by dsimp only; omega) _, hC.setF k _, upd_to (Q := fun j v => canon .f32 v = canon .f32 a) Hc.out rfl⟩
      case measure => simp [intOf]; omega
    · obtain rfl : k = 16 := by omega
      go_wp2_with (first | (refine wpList_load_row rfl 26 _ rfl _ rfl _ _ (0, 0) _ (by first | assumption | (repeat (first | assumption | (apply Blk.new_at; (focus (simp; done)); rfl) | apply Blk.alloc | apply Blk.drewN))) Try.underlying26 rfl (by kernel_rfl) ?_) | (refine wpList_store_row rfl 26 _ _ rfl _ _ rfl rfl _ _ (by first | assumption | (repeat (first | assumption | (apply Blk.new_at; (focus (simp; done)); rfl) | apply Blk.alloc | apply Blk.drewN))) (by kernel_rfl) (by simp only [size_fA]) (all_fA _ _) ?_))
      exact bodyPost_ret (results_cell_row rfl _ _ w.heap.size _ _ _ _ rfl hZ.setRow Try.underlying26 rfl (by kernel_rfl)) rfl ⟨_, rfl, Hc.out, (by repeat (first | assumption | exact Below.refl _ _ | refine bDrew ?_ _ | refine Below.alloc ?_ (by first | omega | (simp; done) | (simp; omega)) _ | refine Below.setCell ?_ (by first | omega | (simp; done) | (simp; omega)) _ | refine bRow ?_ (by first | omega | (simp; done) | (simp; omega)) _))⟩
end Go.Proofs.Ytfpjiclkhjdihaa

namespace Go.Proofs.Ytfpjiclkhjdihaa
open Go.RowKit
set_option maxRecDepth 100000



end Go.Proofs.Ytfpjiclkhjdihaa

namespace Go.Proofs.Ytfpjiclkhjdihaa
open Go.RowKit
set_option maxRecDepth 100000

theorem with_any (F : Nat) (caps : Array Value) (op : Option Nat → Option Nat → Option Nat) (c d : Nat → Nat) (w : World) (he : Enters Try.prog F)
    (hF : ∀ (x y : Nat) (w1 : World), Below w.heap.size w w1 → Calls Try.prog F (#[.float .f32 x, .float .f32 y] ++ caps) w1 (RetF w1 (op (canon .f32 x) (canon .f32 y)))) :
    Calls Try.prog 45 #[.agg (fA 16 c), .agg (fA 16 d), .func (.func F) #[] caps] w (RetC 16 w fun i => op (canon .f32 (c i)) (canon .f32 (d i))) := by
  have HF := Lib.hid hF
  have he' := he
  unfold Enters at he'
  clear hF he
  go_enter Try.func45, Try.ntmps45
  have hix : ∀ (k : Nat) (w : World), k < 16 → (Instr.index 26 (.agg (fA 16 c)) (.int .i64 k)).run Try.prog w = .ok (.float .f32 (c k)) w := fun k w hk =>
    run_index_fA w 26 24 16 c k Try.underlying26 Try.underlying24 (by kernel_rfl) (by omega) (by omega)
  go_wp2_with (refine wpList_load_row rfl 26 _ rfl (w.heap.size) rfl 26 (fA 16 c) (0, 0) _ (((Blk.new w _ _).alloc _).alloc _) Try.underlying26 rfl (by kernel_rfl) ?_)
  go_loopw [7, 8, 10] (fun _ _ i wr => ∃ (k : Nat) (z cur : Nat → Nat), k ≤ 16 ∧ i = .int .i64 k ∧ Below w.heap.size w wr ∧ Blk wr w.heap.size 26 (fA 16 cur) ∧ Blk wr (w.heap.size + 1) 26 (fA 16 d) ∧ Blk wr (w.heap.size + 1 + 1) 26 (fA 16 z) ∧ ∀ j, j < k → canon .f32 (cur j) = op (canon .f32 (c j)) (canon .f32 (d j))) (fun _ _ i _ => 16 - (intOf i).toNat)
  case atStart => exact ⟨0, fun _ => 0, c, by omega, rfl, (by repeat (first | assumption | exact Below.refl _ _ | refine bDrew ?_ _ | refine Below.alloc ?_ (by first | omega | (simp; done) | (simp; omega)) _ | refine Below.setCell ?_ (by first | omega | (simp; done) | (simp; omega)) _ | refine bRow ?_ (by first | omega | (simp; done) | (simp; omega)) _)), (by first | assumption | (repeat (first | assumption | (apply Blk.new_at; (focus (simp; done)); rfl) | apply Blk.alloc | apply Blk.drewN))), (by first | assumption | (repeat (first | assumption | (apply Blk.new_at; (focus (simp; done)); rfl) | apply Blk.alloc | apply Blk.drewN))), (by first | assumption | (repeat (first | assumption | (apply Blk.new_at; (focus (simp; done)); rfl) | apply Blk.alloc | apply Blk.drewN))), fun j h => absurd h (by omega)⟩
  case round =>
    obtain ⟨k, z, cur, hk, rfl, hb, hC, hD, hZ, hc⟩ := hrel
    have Hc := Lib.hid hc
    by_cases hlt : k < 16
    · have c1 := (hD.cell k).trans (get_fA_lt d hlt)
      have hx := hix k wr hlt
      clear hc hix
      go_wp2_with fail
      refine (HF.out _ _ _ hb).mono ?_
      rintro e w1 ⟨r, rfl, hr, hb1⟩
      have hC1 := hC.below hb1 hC.lt
      have c2 := (hC1.cell k).trans (get_fA_lt cur hlt)
      have f2 := hC1.frozen k
      have Hr := Lib.hid hr
      clear hr c1 hx
      go_wp2
      go_roundw
      case rel => exact ⟨k + 1, z, _, by omega, by go_num, (bCall hb hb1 hb.size).setCell (by simp) _, hC1.setF k r, (hD.below hb1 hD.lt).far (by dsimp only; omega) _, (hZ.below hb1 hZ.lt).far (by dsimp only; omega) _, upd_to (Q := fun j v => canon .f32 v = op (canon .f32 (c j)) (canon .f32 (d j))) Hc.out Hr.out⟩
      case measure => simp [intOf]; omega
    · obtain rfl : k = 16 := by omega
      clear hc hix
      go_wp2_with (first | (refine wpList_load_row rfl 26 _ rfl _ rfl _ _ (0, 0) _ (by first | assumption | (repeat (first | assumption | (apply Blk.new_at; (focus (simp; done)); rfl) | apply Blk.alloc | apply Blk.drewN))) Try.underlying26 rfl (by kernel_rfl) ?_) | (refine wpList_store_row rfl 26 _ _ rfl _ _ rfl rfl _ _ (by first | assumption | (repeat (first | assumption | (apply Blk.new_at; (focus (simp; done)); rfl) | apply Blk.alloc | apply Blk.drewN))) (by kernel_rfl) (by simp only [size_fA]) (all_fA _ _) ?_))
      exact bodyPost_ret (results_cell_row rfl _ _ (w.heap.size + 1 + 1) _ _ _ _ rfl hZ.setRow Try.underlying26 rfl (by kernel_rfl)) rfl ⟨_, rfl, Hc.out, (by repeat (first | assumption | exact Below.refl _ _ | refine bDrew ?_ _ | refine Below.alloc ?_ (by first | omega | (simp; done) | (simp; omega)) _ | refine Below.setCell ?_ (by first | omega | (simp; done) | (simp; omega)) _ | refine bRow ?_ (by first | omega | (simp; done) | (simp; omega)) _))⟩

theorem each_any (F : Nat) (caps : Array Value) (op : Option Nat → Option Nat) (c : Nat → Nat) (w : World) (he : Enters Try.prog F)
    (hF : ∀ (x : Nat) (w1 : World), Below w.heap.size w w1 → Calls Try.prog F (#[.float .f32 x] ++ caps) w1 (RetF w1 (op (canon .f32 x)))) :
    Calls Try.prog 50 #[.agg (fA 16 c), .func (.func F) #[] caps] w (RetC 16 w fun i => op (canon .f32 (c i))) := by
  have HF := Lib.hid hF
  have he' := he
  unfold Enters at he'
  clear hF he
  go_enter Try.func50, Try.ntmps50
  have hix : ∀ (k : Nat) (w : World), k < 16 → (Instr.index 26 (.agg (fA 16 c)) (.int .i64 k)).run Try.prog w = .ok (.float .f32 (c k)) w := fun k w hk =>
    run_index_fA w 26 24 16 c k Try.underlying26 Try.underlying24 (by kernel_rfl) (by omega) (by omega)
  go_wp2_with (refine wpList_load_row rfl 26 _ rfl (w.heap.size) rfl 26 (fA 16 c) (0, 0) _ ((Blk.new w _ _).alloc _) Try.underlying26 rfl (by kernel_rfl) ?_)
  go_loopw [5, 6, 8] (fun _ _ i wr => ∃ (k : Nat) (z cur : Nat → Nat), k ≤ 16 ∧ i = .int .i64 k ∧ Below w.heap.size w wr ∧ Blk wr w.heap.size 26 (fA 16 cur) ∧ Blk wr (w.heap.size + 1) 26 (fA 16 z) ∧ ∀ j, j < k → canon .f32 (cur j) = op (canon .f32 (c j))) (fun _ _ i _ => 16 - (intOf i).toNat)
  case atStart => exact ⟨0, fun _ => 0, c, by omega, rfl, (by repeat (first | assumption | exact Below.refl _ _ | refine bDrew ?_ _ | refine Below.alloc ?_ (by first | omega | (simp; done) | (simp; omega)) _ | refine Below.setCell ?_ (by first | omega | (simp; done) | (simp; omega)) _ | refine bRow ?_ (by first | omega | (simp; done) | (simp; omega)) _)), (by first | assumption | (repeat (first | assumption | (apply Blk.new_at; (focus (simp; done)); rfl) | apply Blk.alloc | apply Blk.drewN))), (by first | assumption | (repeat (first | assumption | (apply Blk.new_at; (focus (simp; done)); rfl) | apply Blk.alloc | apply Blk.drewN))), fun j h => absurd h (by omega)⟩
  case round =>
    obtain ⟨k, z, cur, hk, rfl, hb, hC, hZ, hc⟩ := hrel
    have Hc := Lib.hid hc
    by_cases hlt : k < 16
    · have hx := hix k wr hlt
      clear hc hix
      go_wp2_with fail
      refine (HF.out _ _ hb).mono ?_
      rintro e w1 ⟨r, rfl, hr, hb1⟩
      have hC1 := hC.below hb1 hC.lt
      have c2 := (hC1.cell k).trans (get_fA_lt cur hlt)
      have f2 := hC1.frozen k
      have Hr := Lib.hid hr
      clear hr hx
      go_wp2
      go_roundw
      case rel => exact ⟨k + 1, z, _, by omega, by go_num, (bCall hb hb1 hb.size).setCell (by simp) _, hC1.setF k r, (hZ.below hb1 hZ.lt).far (by dsimp only; omega) _, upd_to (Q := fun j v => canon .f32 v = op (canon .f32 (c j))) Hc.out Hr.out⟩
      case measure => simp [intOf]; omega
    · obtain rfl : k = 16 := by omega
      clear hc hix
      go_wp2_with (first | (refine wpList_load_row rfl 26 _ rfl _ rfl _ _ (0, 0) _ (by first | assumption | (repeat (first | assumption | (apply Blk.new_at; (focus (simp; done)); rfl) | apply Blk.alloc | apply Blk.drewN))) Try.underlying26 rfl (by kernel_rfl) ?_) | (refine wpList_store_row rfl 26 _ _ rfl _ _ rfl rfl _ _ (by first | assumption | (repeat (first | assumption | (apply Blk.new_at; (focus (simp; done)); rfl) | apply Blk.alloc | apply Blk.drewN))) (by kernel_rfl) (by simp only [size_fA]) (all_fA _ _) ?_))
      exact bodyPost_ret (results_cell_row rfl _ _ (w.heap.size + 1) _ _ _ _ rfl hZ.setRow Try.underlying26 rfl (by kernel_rfl)) rfl ⟨_, rfl, Hc.out, (by repeat (first | assumption | exact Below.refl _ _ | refine bDrew ?_ _ | refine Below.alloc ?_ (by first | omega | (simp; done) | (simp; omega)) _ | refine Below.setCell ?_ (by first | omega | (simp; done) | (simp; omega)) _ | refine bRow ?_ (by first | omega | (simp; done) | (simp; omega)) _))⟩
end Go.Proofs.Ytfpjiclkhjdihaa

namespace Go.Proofs.Ytfpjiclkhjdihaa
open Go.RowKit
set_option maxRecDepth 100000

theorem l01SameCurve_any (a b : Nat → Nat) (w : World) :
    Calls Try.prog 38 #[.agg (fA 16 a), .agg (fA 16 b)] w (RetB w (allTo 16 fun i => canon .f32 (a i) == canon .f32 (b i))) := by
  go_enter Try.func38, Try.ntmps38
  go_wp2
  go_loopw [5] (fun i wr => ∃ (k : Nat), k ≤ 16 ∧ i = .int .i64 k ∧ Below w.heap.size w wr ∧ Blk wr w.heap.size 26 (fA 16 a) ∧ Blk wr (w.heap.size + 1) 26 (fA 16 b) ∧ ∀ j, j < k → (canon .f32 (a j) == canon .f32 (b j)) = true) (fun i _ => 16 - (intOf i).toNat)
  case atStart => exact ⟨0, by omega, rfl, (by repeat (first | assumption | exact Below.refl _ _ | refine bDrew ?_ _ | refine Below.alloc ?_ (by first | omega | (simp; done) | (simp; omega)) _ | refine Below.setCell ?_ (by first | omega | (simp; done) | (simp; omega)) _ | refine bRow ?_ (by first | omega | (simp; done) | (simp; omega)) _)), (by first | assumption | (repeat (first | assumption | (apply Blk.new_at; (focus (simp; done)); rfl) | apply Blk.alloc | apply Blk.drewN))), (by first | assumption | (repeat (first | assumption | (apply Blk.new_at; (focus (simp; done)); rfl) | apply Blk.alloc | apply Blk.drewN))), fun j h => absurd h (by omega)⟩
  case round =>
    obtain ⟨k, hk, rfl, hb, hA, hB, hc⟩ := hrel
    have Hc := Lib.hid hc
    clear hc
    by_cases hlt : k < 16
    · have c1 := (hA.cell k).trans (get_fA_lt a hlt)
      have c2 := (hB.cell k).trans (get_fA_lt b hlt)
      cases hq : (canon .f32 (a k) == canon .f32 (b k)) with
      | false =>
        have Hq := Lib.hid hq
        clear hq
        go_wp2_with fail
        refine wp_region_loose_lit (fun w' => ∃ n, w' = wr.drewN n) (fun f args u => u = .bool false) (by kernel_rfl) (by kernel_rfl) ⟨1, rfl⟩ ?_
        repeat (refine wpLoose_plain rfl (fun K hK w1 hw1 => ?_); obtain ⟨n, rfl⟩ := hw1; go_simp; refine ⟨⟨_, rfl⟩, hK _ ?_⟩; clear hK K)
        refine wpLoose_plain rfl (fun K hK w1 hw1 => ?_); obtain ⟨n, rfl⟩ := hw1; go_simp
        refine ⟨⟨_, rfl⟩, (l01Same_any _ _ _).mono ?_, fun u hu => hK _ ?_⟩
        · rintro e w' ⟨rfl, m, rfl⟩; exact ⟨_, rfl, by rw [Hq.out], _, by rw [World.drewN_drewN]⟩
        clear hK K
        obtain rfl := hu
        repeat (refine wpLoose_plain rfl (fun K hK w1 hw1 => ?_); obtain ⟨n, rfl⟩ := hw1; go_simp; refine ⟨⟨_, rfl⟩, hK _ ?_⟩; clear hK K)
        (refine wpLoose_nil ?_; intro _ hw'; obtain ⟨nq, rfl⟩ := hw')
        go_wp2
        go_ret
        exact ⟨congrArg (fun x => Ending.returned (Value.bool x)) (allTo_false hlt Hq.out).symm, (by repeat (first | assumption | exact Below.refl _ _ | refine bDrew ?_ _ | refine Below.alloc ?_ (by first | omega | (simp; done) | (simp; omega)) _ | refine Below.setCell ?_ (by first | omega | (simp; done) | (simp; omega)) _ | refine bRow ?_ (by first | omega | (simp; done) | (simp; omega)) _))⟩
      | true =>
        have Hq := Lib.hid hq
        clear hq
        go_wp2_with fail
        refine wp_region_loose_lit (fun w' => ∃ n, w' = wr.drewN n) (fun f args u => u = .bool true) (by kernel_rfl) (by kernel_rfl) ⟨1, rfl⟩ ?_
        repeat (refine wpLoose_plain rfl (fun K hK w1 hw1 => ?_); obtain ⟨n, rfl⟩ := hw1; go_simp; refine ⟨⟨_, rfl⟩, hK _ ?_⟩; clear hK K)
        refine wpLoose_plain rfl (fun K hK w1 hw1 => ?_); obtain ⟨n, rfl⟩ := hw1; go_simp
        refine ⟨⟨_, rfl⟩, (l01Same_any _ _ _).mono ?_, fun u hu => hK _ ?_⟩
        · rintro e w' ⟨rfl, m, rfl⟩; exact ⟨_, rfl, by rw [Hq.out], _, by rw [World.drewN_drewN]⟩
        clear hK K
        obtain rfl := hu
        repeat (refine wpLoose_plain rfl (fun K hK w1 hw1 => ?_); obtain ⟨n, rfl⟩ := hw1; go_simp; refine ⟨⟨_, rfl⟩, hK _ ?_⟩; clear hK K)
        (refine wpLoose_nil ?_; intro _ hw'; obtain ⟨nq, rfl⟩ := hw')
        go_wp2
        go_roundw
        case rel =>
          refine ⟨k + 1, by omega, by go_num, (by repeat (first | assumption | exact Below.refl _ _ | refine bDrew ?_ _ | refine Below.alloc ?_ (by first | omega | (simp; done) | (simp; omega)) _ | refine Below.setCell ?_ (by first | omega | (simp; done) | (simp; omega)) _ | refine bRow ?_ (by first | omega | (simp; done) | (simp; omega)) _)), Blk.drewN hA _, Blk.drewN hB _, ?_⟩
          intro j hj
          by_cases e : j = k
          · subst e; exact Hq.out
          · exact Hc.out j (by omega)
        case measure => simp [intOf]; omega
    · obtain rfl : k = 16 := by omega
      go_wp2
      go_ret
      exact ⟨congrArg (fun x => Ending.returned (Value.bool x)) (allTo_true Hc.out).symm, hb⟩
theorem sSameCurve_any (a b : Nat → Nat) (w : World) :
    Calls Try.prog 16 #[.agg (fA 16 a), .agg (fA 16 b)] w (RetB w (allTo 16 fun i => canon .f32 (a i) == canon .f32 (b i))) := by
  go_enter Try.func16, Try.ntmps16
  go_wp2_with (refine (l01SameCurve_any _ _ _).mono ?_; rintro e w1 ⟨rfl, hb⟩)
  go_ret
  exact ⟨rfl, bCall (by repeat (first | assumption | exact Below.refl _ _ | refine bDrew ?_ _ | refine Below.alloc ?_ (by first | omega | (simp; done) | (simp; omega)) _ | refine Below.setCell ?_ (by first | omega | (simp; done) | (simp; omega)) _ | refine bRow ?_ (by first | omega | (simp; done) | (simp; omega)) _)) hb (by first | omega | (simp; done) | (simp; omega))⟩
end Go.Proofs.Ytfpjiclkhjdihaa
