/- Proved: the statement FnExactLayerText of this seat (its tied card): for every input the law returns true, and its argument reads as it read; the listed tables hold what the program's text lays. -/
import Derived.Test.YtbdbeaebeedakaaDoorCards
import Derived.Test.YtbdbeaebeedakaaDoorTie
import Derived.Test.YtbdbeaebeedakaaDoorOpenB
import Derived.Test.YtbdbeaebeedakaaDoorHD
import Derived.Test.YtbdbeaebeedakaaDoorHG
import Derived.Test.YtbdbeaebeedakaaDoorCM
import Derived.SevenTiedAt
import Derived.WalkKit
import Derived.WalkSpells
import Derived.Outline
import Derived.ProofKit
import Derived.OpenShut
import Derived.ShutString
import Derived.ChangeOld
import Derived.Below
import Derived.IntWalk
import Derived.BigQuiet
namespace Go.Proofs.YtbdbeaebeedakaaDoor.fnExactLayerText
open Go.ChangeShapes Go.WideShapes Go.ChangeAt Go.RowKit

set_option maxRecDepth 100000 in
set_option maxHeartbeats 4000000 in
theorem walk (a0 : Nat → Nat) (w : World) (ht : Tab w) (b0 : ∀ i, i < 33 → a0 i < 4294967296) : Calls Tryd.prog 5 #[.agg (fA 33 a0)] w (RetB w true) := by
  have Hb := Lib.hid b0
  have Ht := Lib.hid ht
  have hlt0 : 6 < w.heap.size := ht.lt
  clear ht b0
  have hA0 : Blk (w.alloc (.cells (fA 33 a0) 31)) w.heap.size 31 (fA 33 a0) := Blk.new _ _ _
  go_enter Tryd.func5, Tryd.ntmps5
  go_wp2_with (refine wpList_load_row rfl 31 _ rfl _ rfl _ _ (0, 0) _ hA0 Tryd.underlying31 rfl (by kernel_rfl) ?_)
  refine (toLayer_any _ _).mono ?_
  rintro e w1 ⟨rfl, hb1⟩
  have hA := hA0.below hb1 hA0.lt
  have hb : Below w.heap.size w w1 := bCall (by repeat (first | assumption | exact Below.refl _ _ | refine bDrew ?_ _ | refine Below.alloc ?_ (by first | omega | (simp; done) | (simp; omega)) _ | refine Below.setCell ?_ (by first | omega | (simp; done) | (simp; omega)) _ | refine bRow ?_ (by first | omega | (simp; done) | (simp; omega)) _)) hb1 (by first | omega | (simp; done) | (simp; omega))
  clear hA0 hb1
  go_wp2_with fail
  refine (sLayerText_all a0 _ Hb.out).mono ?_
  rintro e w2 ⟨rfl, hb1⟩
  have hA := hA.below hb1 hA.lt
  have hb := bCall hb hb1 hb.size; clear hb1
  go_wp2_with (refine wpList_load_row rfl 31 _ rfl _ rfl _ _ (0, 0) _ hA Tryd.underlying31 rfl (by kernel_rfl) ?_)
  refine (toLayer_any _ _).mono ?_
  rintro e w3 ⟨rfl, hb1⟩
  have hb := bCall hb hb1 hb.size; clear hb1
  go_wp2_with fail
  refine (iLayerText_all a0 _ (Ht.out.below hb hlt0) Hb.out).mono ?_
  rintro e w4 ⟨rfl, hb1⟩
  have hb := bCall hb hb1 hb.size; clear hb1
  go_wp2
  go_ret
  exact ⟨rfl, hb⟩

theorem own : ownKnob Tryd.prog.godebug = none := by kernel_rfl
theorem laidOut : laidOutB Tryd.prog = true := by kernel_rfl
set_option maxRecDepth 100000 in
theorem contract (H : Type) (enc : TypeId × Value → H) (W : World) (base : Nat) (args : Array Value) (ds gs : List (DataW H)) (before : List MemPlace)
    (hval0 : ∀ (j : Nat) t v, Tryd.f5.params[j]? = some t → args[j]? = some v → Value.okWide Tryd.prog W .any base t v)
    (hW : DataW.Whole enc Tryd.prog Tryd.f5.params.toList Rows.fnExactLayerTextSpec.vars false W args.toList ds gs before) (hL : laidMetH Tryd.prog Rows.fnExactLayerTextRow.laid W) :
    Calls Tryd.prog 5 args W fun e W' => ∃ v, e = .returned v ∧ Rows.fnExactLayerTextSpec.post enc Tryd.prog Tryd.f5 false true false false W args v W' := by
  have hval := hval0
  have hW' := hW
  obtain ⟨p, q, hA0, hV, rfl, hfz, hnd⟩ := hW
  have hA : DataW.TrodAll enc Tryd.prog W 0 (fun _ => true) true Tryd.f5.params.toList args.toList ds p := hA0
  rw [Tryd.params5] at hA hval
  obtain ⟨v0, vs0, d0, ds0, p0, q0, hargs, rfl, rfl, h0, r0⟩ := trodAll_cons hA
  obtain ⟨rfl, rfl, rfl⟩ := trodAll_nil r0
  obtain rfl : args = #[v0] := by cases args; simp_all
  obtain ⟨rfl, rfl⟩ := trodVars_none hV
  have k0 := h0
  have lt0 : ∀ x ∈ p0, x.block < W.heap.size := by obtain ⟨m, hm⟩ := k0; exact DataW.trod_lt m _ _ _ hm
  obtain ⟨a0, rfl, b0⟩ := open_row_lt (n := 33) (e := 22) (by kernel_rfl) (by kernel_rfl) Tryd.underlying22 (by kernel_rfl) (hval 0 31 v0 rfl rfl)
  clear hA0 hval0
  refine (walk a0 W (tab_of hL) b0).mono fun e W' ⟨he, bel⟩ => ?_
  subst he
  exact ⟨_, rfl, _, _, _, [], _, [], hW', trodAll_mk1 (shut_bool Tryd.underlying4 _), (trodAll_cons_mk (Below.trod laidOut (by kernel_rfl) (of_decide_eq_true (by kernel_rfl)) k0 bel lt0) trodAll_mk0), rfl, bel.frame _, fun h => by cases h⟩
set_option maxRecDepth 100000 in
theorem laid_met (os : Os) : laidMet Tryd.prog Rows.fnExactLayerTextRow.laid ((laidWorld os).forCall (fun _ _ => 0) ⟨#[], #[.agg (fA 33 fun _ => 0)], []⟩).memory :=
  laidMet_of_run' 8 (by kernel_rfl) (by kernel_rfl)
theorem reads (os : Os) {H : Type} (enc : TypeId × Value → H) : ∃ places, DataW.whole enc Tryd.prog ((laidWorld os).forCall (fun _ _ => 0) ⟨#[], #[.agg (fA 33 fun _ => 0)], []⟩).memory Tryd.f5.params.toList Rows.fnExactLayerTextSpec.vars false #[.agg (fA 33 fun _ => 0)].toList 8 = some ([.agg [.agg (List.replicate 16 (.lit (.float .f32 0))), .agg (List.replicate 16 (.lit (.float .f32 0))), .lit (.float .f32 0)]], [], places) :=
  ⟨[], by kernel_rfl⟩
set_option maxRecDepth 100000 in
theorem lifted (os : Os) (started : os.Started) (H : Type) (enc : TypeId × Value → H) (F : Stop.Interp) :
    ReturnsInHanded {} Tryd.checked os 5 .any ((OpenSpec.ofChange Rows.fnExactLayerTextSpec).preRow enc Tryd.prog Tryd.f5 Rows.fnExactLayerTextRow.domain false Rows.fnExactLayerTextRow.laid) (((OpenSpec.ofChange Rows.fnExactLayerTextSpec).at F).post enc Tryd.prog Tryd.f5 false true false false) := by
  obtain ⟨places, hx⟩ := reads os enc
  refine returnsInHanded_of_row (C := Tryd.checked) (s := OpenSpec.ofChange Rows.fnExactLayerTextSpec) own started (by kernel_rfl) Tryd.func5
    (witness_row_at (enc := enc) (C := Tryd.checked) false (laidWorld os) #[.agg (fA 33 fun _ => 0)] rfl (by kernel_rfl) (by kernel_rfl) (by kernel_rfl)
      (OpenSpec.preRow_of_cond 8 hx (by kernel_rfl) (fun k hk => by cases hk) (by kernel_rfl) (laid_met os))) ?_
  intro W base args ds gs before hval hW _ _ _ hL _ _
  exact contract H enc W base args ds gs before hval hW hL
theorem said : Rows.FnExactLayerTextSaid :=
  OpenClaim.holds_of_cond 5 Tryd.f5 rfl rfl rfl rfl rfl rfl rfl ⟨rfl, rfl, rfl, rfl, rfl⟩ rfl rfl rfl rfl rfl (by kernel_rfl) Tryd.func5 (by kernel_rfl)
    (of_decide_eq_true (by kernel_rfl)) (by unfold Func.isWrapper; first | (rw [if_pos (by decide +kernel)]; kernel_rfl) | (rw [if_neg (by decide +kernel)]; exact ⟨rfl, rfl⟩))
    (fun os started H enc _ F => by rw [OpenClaim.pre_eq_preRow]; exact lifted os started H enc F)
theorem plain (f : FuncId) (fn : Func) (hf : Tryd.pinned.checked.prog.funcNamed "loop.example/g01213/laws.FnExactLayerText" = some f) (hfn : Tryd.pinned.checked.prog.funcs[f]? = some fn) :
    true = Tryd.pinned.checked.prog.looks [] ∧ ∀ (j : Nat) t, fn.params[j]? = some t → Tryd.pinned.checked.prog.wantsStandIn t = false := by
  obtain rfl : f = 5 := Option.some.inj ((show Tryd.prog.funcNamed "loop.example/g01213/laws.FnExactLayerText" = some 5 by kernel_rfl).symm.trans hf) |>.symm
  obtain rfl : fn = Tryd.f5 := (Option.some.inj (Tryd.func5.symm.trans hfn)).symm
  refine ⟨by kernel_rfl, fun j t ht => ?_⟩
  rw [Tryd.params5] at ht
  obtain rfl : t = 31 := by simpa using Array.mem_of_getElem? ht
  exact (show Tryd.prog.wantsStandIn 31 = false by kernel_rfl)
theorem card : Rows.FnExactLayerTextCardSaid :=
  Claim7.holds_tied_plain_at .later [] _ _ _ _ said (fun _ h => by cases h) (by kernel_rfl) (fun _ h => by cases h) fnExactLayerText_row_tie rfl ⟨rfl, rfl⟩ (by kernel_rfl) rfl plain (by kernel_rfl)
#print axioms card
end Go.Proofs.YtbdbeaebeedakaaDoor.fnExactLayerText
namespace Go.Proofs.YtbdbeaebeedakaaDoor
/-- The card, under a short name, for the claim. -/
theorem fnExactLayerText_holds : Rows.FnExactLayerTextCardSaid := fnExactLayerText.card
end Go.Proofs.YtbdbeaebeedakaaDoor

