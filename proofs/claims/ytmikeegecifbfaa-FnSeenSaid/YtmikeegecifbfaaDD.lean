/- Contracts: looks; what is lost in a film. -/
import Derived.Test.YtmikeegecifbfaaDC
import Derived.Test.YtmikeegecifbfaaCP
import Derived.Test.YtmikeegecifbfaaCQ
import Derived.Test.YtmikeegecifbfaaCR
import Derived.Test.YtmikeegecifbfaaCG
namespace Go.Proofs.Ytmikeegecifbfaa
open Go.RowKit
set_option maxRecDepth 100000

def three (x y z : Nat) : Nat → Nat := fun i => if i = 0 then x else if i = 1 then y else z
theorem wpList_store_three {P : Program} {ops : Array Oper} {rest : List Oper} {o : Oper} {act : Act} {w : World} {Q : Exit → Act → World → Prop} (hgd : o.guard = none) (ty : TypeId) (x y : Operand) (ho : o.op = .store ty x y)
    (g : Nat) {a b c : Nat} (hx : act.eval x = .pointer (some ⟨g, 0, none⟩)) (hy : act.eval y = .agg #[.float .f32 a, .float .f32 b, .float .f32 c]) (t : TypeId) (old : Array Value) (hB : Blk w g t old)
    (hi : (P.info? ty).map (·.size) = some 3) (hold : old.size = 3) (h : wpList P ops Q rest (act.put o.dst undef) (w.setRow g (fA 3 (three a b c)))) : wpList P ops Q (o :: rest) act w :=
  wpList_store_row hgd ty x y ho g (fA 3 (three a b c)) hx hy t old hB (by rw [size_fA]; exact hi) (by rw [size_fA]; exact hold) (all_fA _ _) h
def look3 (f : Nat → Option Nat) : Nat → Option Nat := fun i =>
  if i = 0 then fsub (fmul (canon .f32 1122500608) (f 1)) (canon .f32 1098907648) else if i = 1 then fmul (canon .f32 1140457472) (fsub (f 0) (f 1)) else fmul (canon .f32 1128792064) (fsub (f 1) (f 2))
def lookRes (u : Nat → Option Nat) : (Nat → Option Nat) × Int := if allTo 3 fun i => fin (u i) then (look3 fun i => cbrt (u i), 0) else (fun _ => canon .f32 0, 2)
theorem three_look {f : Nat → Option Nat} {x y z : Nat} (hx : canon .f32 x = look3 f 0) (hy : canon .f32 y = look3 f 1) (hz : canon .f32 z = look3 f 2) : ∀ i, i < 3 → canon .f32 (three x y z i) = look3 f i := by
  intro i hi
  have h3 : i = 0 ∨ i = 1 ∨ i = 2 := by omega
  rcases h3 with rfl | rfl | rfl
  · exact hx
  · exact hy
  · exact hz

theorem iLookOf_any (u : Nat → Nat) (w : World) : Calls Try.prog 22 #[.agg (fA 3 u)] w (RetCC 3 w (lookRes fun i => canon .f32 (u i)).1 (lookRes fun i => canon .f32 (u i)).2) := by
  have hA : Blk ((w.alloc (.cells (fA 3 u) 38)).alloc (.cells (fA 3 fun _ => 0) 38)) w.heap.size 38 (fA 3 u) := (Blk.new _ _ _).alloc _
  have hZ : Blk ((w.alloc (.cells (fA 3 u) 38)).alloc (.cells (fA 3 fun _ => 0) 38)) (w.heap.size + 1) 38 (fA 3 fun _ => 0) := Blk.new_at _ _ (by simp) rfl
  have hb : Below w.heap.size w ((w.alloc (.cells (fA 3 u) 38)).alloc (.cells (fA 3 fun _ => 0) 38)) := (by repeat (first | assumption | exact Below.refl _ _ | refine bDrew ?_ _ | refine Below.alloc ?_ (by first | omega | (simp; done) | (simp; omega)) _ | refine Below.setCell ?_ (by first | omega | (simp; done) | (simp; omega)) _ | refine bRow ?_ (by first | omega | (simp; done) | (simp; omega)) _))
  have hsl : ∀ (g : Nat) (w : World), (Instr.sliceAt 38 (.pointer (some ⟨g, 0, none⟩)) none none none).run Try.prog w = .ok (.slice (some ⟨g, 0, none⟩) 3 3) w := fun _ _ => by kernel_rfl
  have hix : ∀ (k : Nat) (w : World), k < 3 → (Instr.index 38 (.agg (fA 3 u)) (.int .i64 k)).run Try.prog w = .ok (.float .f32 (u k)) w := fun k w hk =>
    run_index_fA w 38 24 3 u k Try.underlying38 Try.underlying24 (by kernel_rfl) (by omega) (by omega)
  go_enter Try.func22, Try.ntmps22
  go_wp2_with fail
  refine (isFinite_any w.heap.size 3 38 u _ hA (by decide)).mono ?_
  rintro e w1 ⟨rfl, hb1⟩
  have hA := hA.below hb1 hA.lt
  have hZ := hZ.below hb1 hZ.lt
  have hb := bCall hb hb1 hb.size; clear hb1
  cases h0 : (allTo 3 fun i => fin (canon .f32 (u i))) with
  | false =>
    have Hm : Hid ((lookRes fun i => canon .f32 (u i)) = (fun _ => canon .f32 0, 2)) := Lib.hid (by unfold lookRes; rw [h0]; rfl)
    clear h0 hix hsl
    go_wp2_with (first | (refine wpList_build_as rfl 38 _ rfl (fA 3 fun _ => 0) (by kernel_rfl) ?_) | (refine wpList_store_row rfl 38 _ _ rfl _ _ rfl rfl _ _ hZ (by kernel_rfl) (by simp only [size_fA]) (all_fA _ _) ?_)); exact bodyPost_ret (results_cell_row2 rfl _ _ (w.heap.size + 1) _ _ _ _ rfl hZ.setRow Try.underlying38 rfl (by kernel_rfl)) rfl (RetCC.as Hm.out ⟨_, rfl, fun _ _ => rfl, (by repeat (first | assumption | exact Below.refl _ _ | refine bDrew ?_ _ | refine Below.alloc ?_ (by first | omega | (simp; done) | (simp; omega)) _ | refine Below.setCell ?_ (by first | omega | (simp; done) | (simp; omega)) _ | refine bRow ?_ (by first | omega | (simp; done) | (simp; omega)) _))⟩)
  | true =>
    have Hm : Hid ((lookRes fun i => canon .f32 (u i)) = (look3 fun i => cbrt (canon .f32 (u i)), 0)) := Lib.hid (by unfold lookRes; rw [h0]; rfl)
    have H0 := Lib.hid h0
    clear h0
    have hO : Blk (w1.alloc (.cells (fA 3 fun _ => 0) 38)) w1.heap.size 38 (fA 3 fun _ => 0) := Blk.new _ _ _
    have hO2 : Blk ((w1.alloc (.cells (fA 3 fun _ => 0) 38)).setRow w1.heap.size (fA 3 fun _ => 0)) w1.heap.size 38 (fA 3 fun _ => 0) := hO.setRow
    have hA2 : Blk ((w1.alloc (.cells (fA 3 fun _ => 0) 38)).setRow w1.heap.size (fA 3 fun _ => 0)) w.heap.size 38 (fA 3 u) := (hA.alloc _).farRow (by have := hA.lt; omega)
    have hZ2 : Blk ((w1.alloc (.cells (fA 3 fun _ => 0) 38)).setRow w1.heap.size (fA 3 fun _ => 0)) (w.heap.size + 1) 38 (fA 3 fun _ => 0) := (hZ.alloc _).farRow (by have := hZ.lt; omega)
    have hb2 : Below w.heap.size w ((w1.alloc (.cells (fA 3 fun _ => 0) 38)).setRow w1.heap.size (fA 3 fun _ => 0)) := bRow (Below.alloc hb hb.size _) hb.size _
    have hg : w.heap.size + 1 < w1.heap.size := hZ.lt
    clear hA hZ hb
    go_wp2_with (first | (refine wpList_build_as rfl 38 _ rfl (fA 3 fun _ => 0) (by kernel_rfl) ?_) | (refine wpList_store_row rfl 38 _ _ rfl _ _ rfl rfl _ _ hO (by kernel_rfl) (by simp only [size_fA]) (all_fA _ _) ?_) | (refine wpList_load_row rfl 38 _ rfl _ rfl _ _ (0, 0) _ hA2 Try.underlying38 rfl (by kernel_rfl) ?_))
    go_loopw [5, 6, 13] (fun _ _ i wr => ∃ (k : Nat) (cur : Nat → Nat), k ≤ 3 ∧ i = .int .i64 k ∧ Below w.heap.size w wr ∧ Blk wr (w.heap.size + 1) 38 (fA 3 fun _ => 0) ∧ Blk wr w1.heap.size 38 (fA 3 cur) ∧ ∀ j, j < k → canon .f32 (cur j) = cbrt (canon .f32 (u j))) (fun _ _ i _ => 3 - (intOf i).toNat)
    case atStart => exact ⟨0, fun _ => 0, by omega, rfl, hb2, hZ2, hO2, fun j h => absurd h (by omega)⟩
    case round =>
      clear hO hO2 hA2 hZ2 hb2
      obtain ⟨k, cur, hk, rfl, hb, hZ, hC, hc⟩ := hrel
      have Hc := Lib.hid hc
      clear hc
      by_cases hlt : k < 3
      · have hx := hix k wr hlt
        have c2 := (hC.cell k).trans (get_fA_lt cur hlt)
        have f1 := hC.frozen k
        clear hix hsl
        go_wp2_with fail
        refine (cubeRoot_any (u k) wr (allTo_get H0.out hlt)).mono ?_
        rintro e w2 ⟨r1, rfl, hr1, n1, rfl⟩
        have H1 := Lib.hid hr1
        clear hr1 hx
        go_wp2
        go_roundw
        case rel => exact ⟨k + 1, _, by omega, by go_num, (bDrew hb _).setCell (by dsimp only; omega) _, Blk.far (Blk.drewN hZ _) (by dsimp only; omega) _, Blk.setF (Blk.drewN hC _) k _, upd_to (Q := fun j v => canon .f32 v = cbrt (canon .f32 (u j))) Hc.out H1.out⟩
        case measure => simp [intOf]; omega
      · obtain rfl : k = 3 := by omega
        have c0 := (hC.cell 0).trans (get_fA_lt cur (by omega))
        have c1 := (hC.cell 1).trans (get_fA_lt cur (by omega))
        have c2 := (hC.cell 2).trans (get_fA_lt cur (by omega))
        clear hix hsl
        go_wp2_with fail
        (refine wp_region_loose_tail 17 (fun w' => ∃ n, w' = wr.drewN n) (GM fmul (fun _ x => x)) (by kernel_rfl) (by kernel_rfl) ⟨1, rfl⟩ ?_; simp only [List.take_succ_cons, List.take_zero, List.drop_succ_cons, List.drop_zero])
        repeat (refine wpLoose_plain rfl (fun K hK w1 hw1 => ?_); obtain ⟨n, rfl⟩ := hw1; go_simp; refine ⟨⟨_, rfl⟩, hK _ ?_⟩; clear hK K)
        (refine wpLoose_plain rfl (fun K hK w1 hw1 => ?_); obtain ⟨n1, rfl⟩ := hw1; go_simp; refine ⟨⟨_, rfl⟩, (mul_any _ _ _).mono ?_, fun u hu => hK _ ?_⟩; (rintro e w' ⟨r, rfl, hr, m, rfl⟩; exact ⟨_, rfl, GM.mk2 hr, _, by rw [World.drewN_drewN]⟩); clear hK K; obtain ⟨r1, rfl, H1⟩ := GM.inv2 hu; clear hu)
        repeat (refine wpLoose_plain rfl (fun K hK w1 hw1 => ?_); obtain ⟨n, rfl⟩ := hw1; go_simp; refine ⟨⟨_, rfl⟩, hK _ ?_⟩; clear hK K)
        (refine wpLoose_plain rfl (fun K hK w1 hw1 => ?_); obtain ⟨n1, rfl⟩ := hw1; go_simp; refine ⟨⟨_, rfl⟩, (mul_any _ _ _).mono ?_, fun u hu => hK _ ?_⟩; (rintro e w' ⟨r, rfl, hr, m, rfl⟩; exact ⟨_, rfl, GM.mk2 hr, _, by rw [World.drewN_drewN]⟩); clear hK K; obtain ⟨r2, rfl, H2⟩ := GM.inv2 hu; clear hu)
        repeat (refine wpLoose_plain rfl (fun K hK w1 hw1 => ?_); obtain ⟨n, rfl⟩ := hw1; go_simp; refine ⟨⟨_, rfl⟩, hK _ ?_⟩; clear hK K)
        (refine wpLoose_plain rfl (fun K hK w1 hw1 => ?_); obtain ⟨n1, rfl⟩ := hw1; go_simp; refine ⟨⟨_, rfl⟩, (mul_any _ _ _).mono ?_, fun u hu => hK _ ?_⟩; (rintro e w' ⟨r, rfl, hr, m, rfl⟩; exact ⟨_, rfl, GM.mk2 hr, _, by rw [World.drewN_drewN]⟩); clear hK K; obtain ⟨r3, rfl, H3⟩ := GM.inv2 hu; clear hu)
        repeat (refine wpLoose_plain rfl (fun K hK w1 hw1 => ?_); obtain ⟨n, rfl⟩ := hw1; go_simp; refine ⟨⟨_, rfl⟩, hK _ ?_⟩; clear hK K)
        (refine wpLoose_nil ?_; intro _ hw'; obtain ⟨nq, rfl⟩ := hw')
        have hZ := Blk.drewN hZ nq
        have hb := bDrew hb nq
        go_wp2_with (refine wpList_store_three rfl 38 _ _ rfl _ rfl rfl _ _ hZ (by kernel_rfl) (by simp only [size_fA]) ?_)
        have h0 := Hc.out 0 (by omega)
        have h1 := Hc.out 1 (by omega)
        have h2 := Hc.out 2 (by omega)
        have L0 : ∀ w', canon .f32 (fval .sub .f32 r1 1098907648 w') = look3 (fun i => cbrt (canon .f32 (u i))) 0 := fun w' => by rw [c_sub, H1.out, h1]; rfl
        have L1 : canon .f32 r2 = look3 (fun i => cbrt (canon .f32 (u i))) 1 := by rw [H2.out, c_sub, h0, h1]; rfl
        have L2 : canon .f32 r3 = look3 (fun i => cbrt (canon .f32 (u i))) 2 := by rw [H3.out, c_sub, h1, h2]; rfl
        exact bodyPost_ret (results_cell_row2 rfl _ _ (w.heap.size + 1) _ _ _ _ rfl hZ.setRow Try.underlying38 rfl (by kernel_rfl)) rfl (RetCC.as Hm.out ⟨_, rfl, three_look (L0 _) L1 L2, (by repeat (first | assumption | exact Below.refl _ _ | refine bDrew ?_ _ | refine Below.alloc ?_ (by first | omega | (simp; done) | (simp; omega)) _ | refine Below.setCell ?_ (by first | omega | (simp; done) | (simp; omega)) _ | refine bRow ?_ (by first | omega | (simp; done) | (simp; omega)) _))⟩)
end Go.Proofs.Ytmikeegecifbfaa
