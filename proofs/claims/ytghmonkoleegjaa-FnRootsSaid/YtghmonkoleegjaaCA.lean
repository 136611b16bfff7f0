/- Contracts: the laws' own small functions. -/
import Derived.WalkKit
import Derived.WalkSpells
import Derived.Outline
import Derived.Test.YtghmonkoleegjaaKit
import Derived.Test.YtghmonkoleegjaaChecked
namespace Go.Proofs.Ytghmonkoleegjaa
open Go.RowKit
set_option maxRecDepth 100000

theorem toCurve_any (a : Nat → Nat) (w : World) :
    Calls Try.prog 62 #[.agg (fA 16 a)] w fun e w' => e = .returned (.agg (fA 16 a)) ∧ Below w.heap.size w w' := by
  go_enter Try.func62, Try.ntmps62
  go_wp2
  go_loopw [4] (fun i wr => ∃ (k : Nat) (z c : Nat → Nat), k ≤ 16 ∧ i = .int .i64 k ∧ Below w.heap.size w wr ∧ Blk wr w.heap.size 25 (fA 16 a) ∧ Blk wr (w.heap.size + 1) 26 (fA 16 z) ∧ Blk wr (w.heap.size + 1 + 1) 26 (fA 16 c) ∧ ∀ j, j < k → c j = a j) (fun i _ => 16 - (intOf i).toNat)
  case atStart => exact ⟨0, fun _ => 0, fun _ => 0, by omega, rfl, (by repeat (first | assumption | exact Below.refl _ _ | refine bDrew ?_ _ | refine Below.alloc ?_ (by first | omega | (simp; done) | (simp; omega)) _ | refine Below.setCell ?_ (by first | omega | (simp; done) | (simp; omega)) _ | refine bRow ?_ (by first | omega | (simp; done) | (simp; omega)) _)), (by first | assumption | (repeat (first | assumption | (apply Blk.new_at; (focus (simp; done)); rfl) | apply Blk.alloc | apply Blk.drewN))), (by first | assumption | (repeat (first | assumption | (apply Blk.new_at; (focus (simp; done)); rfl) | apply Blk.alloc | apply Blk.drewN))), (by first | assumption | (repeat (first | assumption | (apply Blk.new_at; (focus (simp; done)); rfl) | apply Blk.alloc | apply Blk.drewN))), fun j h => absurd h (by omega)⟩
  case round =>
    obtain ⟨k, z, c, hk, rfl, hb, hA, hZ, hC, hc⟩ := hrel
    have Hc := Lib.hid hc
    clear hc
    by_cases hlt : k < 16
    · have c1 := (hA.cell k).trans (get_fA_lt a hlt)
      have c2 := (hC.cell k).trans (get_fA_lt _ hlt)
      have f2 := hC.frozen k
      go_wp2
      go_roundw
      case rel => exact ⟨k + 1, z, _, by omega, by go_num, (by repeat (first | assumption | exact Below.refl _ _ | refine bDrew ?_ _ | refine Below.alloc ?_ (by first | omega | (simp; done) | (simp; omega)) _ | refine Below.setCell ?_ (by first | omega | (simp; done) | (simp; omega)) _ | refine bRow ?_ (by first | omega | (simp; done) | (simp; omega)) _)), hA.far (by dsimp only; omega) _, hZ.far (by dsimp only; omega) _, hC.setF k (a k), upd_to (Q := fun j v => v = a j) Hc.out rfl⟩
      case measure => simp [intOf]; omega
    · obtain rfl : k = 16 := by omega
      go_wp2_with (first | (refine wpList_load_row rfl 26 _ rfl _ rfl _ _ (0, 0) _ (by first | assumption | (repeat (first | assumption | (apply Blk.new_at; (focus (simp; done)); rfl) | apply Blk.alloc | apply Blk.drewN))) Try.underlying26 rfl (by kernel_rfl) ?_) | (refine wpList_store_row rfl 26 _ _ rfl _ _ rfl rfl _ _ (by first | assumption | (repeat (first | assumption | (apply Blk.new_at; (focus (simp; done)); rfl) | apply Blk.alloc | apply Blk.drewN))) (by kernel_rfl) (by simp only [size_fA]) (all_fA _ _) ?_))
      exact bodyPost_ret (results_cell_row rfl _ _ (w.heap.size + 1) _ _ _ _ rfl hZ.setRow Try.underlying26 rfl (by kernel_rfl)) rfl ⟨congrArg (fun x => Ending.returned (.agg x)) (fA_congr Hc.out), (by repeat (first | assumption | exact Below.refl _ _ | refine bDrew ?_ _ | refine Below.alloc ?_ (by first | omega | (simp; done) | (simp; omega)) _ | refine Below.setCell ?_ (by first | omega | (simp; done) | (simp; omega)) _ | refine bRow ?_ (by first | omega | (simp; done) | (simp; omega)) _))⟩


theorem sameFloat_any (a b : Nat) (h : canon .f64 a = canon .f64 b) (w : World) :
    Calls Try.prog 15 #[.float .f64 a, .float .f64 b] w (RetBq w true) := by
  cases hc : canon .f64 a with
  | none =>
    have ha : FloatKind.f64.format.order a a = none := by rw [order_self, hc]; rfl
    have hb : FloatKind.f64.format.order b b = none := by rw [order_self, ← h, hc]; rfl
    clear h hc
    go_enter Try.func15, Try.ntmps15
    go_wp2
    go_ret
    exact ⟨rfl, 0, rfl⟩
  | some x =>
    obtain ⟨rfl, _⟩ := canon_eq_some hc
    rw [hc] at h
    obtain ⟨rfl, _⟩ := canon_eq_some h.symm
    have ha : FloatKind.f64.format.order b b = some .eq := by rw [order_self, hc]; rfl
    clear h hc
    by_cases hz : FloatKind.f64.format.order b 0 = some .eq
    · go_enter Try.func15, Try.ntmps15
      go_wp2
      go_ret
      exact ⟨congrArg (fun x => Ending.returned (Value.bool x)) (by simp only [order_canon, canon_fval, beq_self_eq_true]), _, rfl⟩
    · go_enter Try.func15, Try.ntmps15
      go_wp2
      go_ret
      exact ⟨rfl, 0, rfl⟩

theorem canon_widen (b : Nat) (w : World) : canon .f64 (cval .f32 .f64 b w) = ccv .f32 .f64 (canon .f32 b) := canon_cval (by decide) b w (fits_wide b)

theorem eqCurve_any (a b : Nat → Nat) (h : ∀ i, i < 16 → canon .f32 (a i) = canon .f32 (b i)) (w : World) :
    Calls Try.prog 39 #[.agg (fA 16 a), .agg (fA 16 b)] w (RetB w true) := by
  have Hh := Lib.hid h
  clear h
  go_enter Try.func39, Try.ntmps39
  go_wp2
  go_loopw [5] (fun i wr => ∃ (k : Nat), k ≤ 16 ∧ i = .int .i64 k ∧ Below w.heap.size w wr ∧ Blk wr w.heap.size 26 (fA 16 a) ∧ Blk wr (w.heap.size + 1) 26 (fA 16 b)) (fun i _ => 16 - (intOf i).toNat)
  case atStart => exact ⟨0, by omega, rfl, (by repeat (first | assumption | exact Below.refl _ _ | refine bDrew ?_ _ | refine Below.alloc ?_ (by first | omega | (simp; done) | (simp; omega)) _ | refine Below.setCell ?_ (by first | omega | (simp; done) | (simp; omega)) _ | refine bRow ?_ (by first | omega | (simp; done) | (simp; omega)) _)), (by first | assumption | (repeat (first | assumption | (apply Blk.new_at; (focus (simp; done)); rfl) | apply Blk.alloc | apply Blk.drewN))), (by first | assumption | (repeat (first | assumption | (apply Blk.new_at; (focus (simp; done)); rfl) | apply Blk.alloc | apply Blk.drewN)))⟩
  case round =>
    obtain ⟨k, hk, rfl, hb, hA, hB⟩ := hrel
    by_cases hlt : k < 16
    · have c1 := (hA.cell k).trans (get_fA_lt a hlt)
      have c2 := (hB.cell k).trans (get_fA_lt b hlt)
      go_wp2_with fail
      refine wp_region_loose_lit (fun w' => ∃ n, w' = wr.drewN n) (fun f args u => u = .bool true) (by kernel_rfl) (by kernel_rfl) ⟨1, rfl⟩ ?_
      repeat (refine wpLoose_plain rfl (fun K hK w1 hw1 => ?_); obtain ⟨n, rfl⟩ := hw1; go_simp; refine ⟨⟨_, rfl⟩, hK _ ?_⟩; clear hK K)
      refine wpLoose_plain rfl (fun K hK w1 hw1 => ?_); obtain ⟨n, rfl⟩ := hw1; go_simp
      refine ⟨⟨_, rfl⟩, (sameFloat_any _ _ (by rw [canon_widen, canon_widen, Hh.out k hlt]) _).mono ?_, fun u hu => hK _ ?_⟩
      · rintro e w' ⟨rfl, m, rfl⟩; exact ⟨_, rfl, rfl, _, by rw [World.drewN_drewN]⟩
      clear hK K
      obtain rfl := hu
      repeat (refine wpLoose_plain rfl (fun K hK w1 hw1 => ?_); obtain ⟨n, rfl⟩ := hw1; go_simp; refine ⟨⟨_, rfl⟩, hK _ ?_⟩; clear hK K)
      (refine wpLoose_nil ?_; intro _ hw'; obtain ⟨nq, rfl⟩ := hw')
      go_wp2
      go_roundw
      case rel => exact ⟨k + 1, by omega, by go_num, (by repeat (first | assumption | exact Below.refl _ _ | refine bDrew ?_ _ | refine Below.alloc ?_ (by first | omega | (simp; done) | (simp; omega)) _ | refine Below.setCell ?_ (by first | omega | (simp; done) | (simp; omega)) _ | refine bRow ?_ (by first | omega | (simp; done) | (simp; omega)) _)), (by first | assumption | (repeat (first | assumption | (apply Blk.new_at; (focus (simp; done)); rfl) | apply Blk.alloc | apply Blk.drewN))), (by first | assumption | (repeat (first | assumption | (apply Blk.new_at; (focus (simp; done)); rfl) | apply Blk.alloc | apply Blk.drewN)))⟩
      case measure => simp [intOf]; omega
    · go_wp2
      go_ret
      exact ⟨rfl, hb⟩

end Go.Proofs.Ytghmonkoleegjaa
