/- Proved: the statement FnExactReadLayer of this seat (its tied card): for every input the law returns true, and its argument reads as it read; the listed tables hold what the program's text lays. -/
import Derived.Test.YtbdbeaebeedakaaDoorCards
import Derived.Test.YtbdbeaebeedakaaDoorTie
import Derived.Test.YtbdbeaebeedakaaDoorOpenB
import Derived.Test.YtbdbeaebeedakaaDoorHD
import Derived.Test.YtbdbeaebeedakaaDoorHO
import Derived.Test.YtbdbeaebeedakaaDoorHQ
import Derived.Test.YtbdbeaebeedakaaDoorCA
import Derived.Test.YtbdbeaebeedakaaDoorCM
import Derived.SevenTiedAt
import Derived.WalkKit
import Derived.WalkSpells
import Derived.Outline
import Derived.ProofKit
import Derived.OpenShut
import Derived.ShutString
import Derived.ChangeOld
import Derived.Below
import Derived.IntWalk
import Derived.BigQuiet
namespace Go.Proofs.YtbdbeaebeedakaaDoor.fnExactReadLayer
open Go.ChangeShapes Go.WideShapes Go.ChangeAt Go.RowKit
open Go.ChangeMaps (open_string shut_string)

set_option maxRecDepth 100000 in
set_option maxHeartbeats 4000000 in
theorem walk (a0 : ByteArray) (w : World) (ht : Tab w) (he : Errs w) (hm : MaxL w) (_ : a0.size ≤ maxLen) : Calls Tryd.prog 8 #[.string a0] w (RetB w true) := by
  by_cases hlong : 1048576 < a0.size
  · go_enter Tryd.func8, Tryd.ntmps8
    go_wp2
    go_ret
    exact ⟨rfl, Below.refl _ _⟩
  · have hmax : a0.size ≤ 1048576 := by omega
    have Ht := Lib.hid ht
    have He := Lib.hid he
    have Hm := Lib.hid hm
    have hlt0 : 6 < w.heap.size := ht.lt
    clear ht he hm
    go_enter Tryd.func8, Tryd.ntmps8
    go_wp2_with fail
    refine (sReadLayer_any a0 hmax w).mono ?_
    rintro e w1 ⟨h1, hb⟩
    obtain ⟨x, k, he1⟩ := h1.form
    subst he1
    have H1 := Lib.hid h1
    clear h1
    have hX : Blk (w1.alloc (.cells (fA 33 x) 34)) w1.heap.size 34 (fA 33 x) := Blk.new _ _ _
    have hb : Below w.heap.size w (w1.alloc (.cells (fA 33 x) 34)) := hb.alloc hb.size _
    go_wp2_with (refine wpList_store_new rfl 34 _ _ rfl _ rfl rfl (by kernel_rfl) rfl (all_fA _ _) ?_)
    refine (iReadLayer_any a0 hmax _ (Ht.out.below hb hlt0) (He.out.below hb hlt0) (Hm.out.below hb hlt0)).mono ?_
    rintro e w2 ⟨h2, hb1⟩
    obtain ⟨y, rfl, hxy⟩ := H1.out.same h2
    have hX := hX.below hb1 hX.lt
    have hb := bCall hb hb1 hb.size
    clear h2 hb1
    have hY : Blk (w2.alloc (.cells (fA 33 y) 34)) w2.heap.size 34 (fA 33 y) := Blk.new _ _ _
    have hX := hX.alloc (.cells (fA 33 y) 34)
    have hb := hb.alloc hb.size (.cells (fA 33 y) 34)
    have HXY := Lib.hid hxy
    clear hxy
    go_wp2_with (first | (refine wpList_store_new rfl 34 _ _ rfl _ rfl rfl (by kernel_rfl) rfl (all_fA _ _) ?_) | (refine wpList_load_row rfl 34 _ rfl _ rfl _ _ (0, 0) _ hY Tryd.underlying34 rfl (by kernel_rfl) ?_) | (refine wpList_load_row rfl 34 _ rfl _ rfl _ _ (0, 0) _ hX Tryd.underlying34 rfl (by kernel_rfl) ?_))
    refine (eqLayer_any _ _ (fun i hi => by rw [HXY.out i hi]) _).mono ?_
    rintro e w3 ⟨rfl, hb1⟩
    have hb := bCall hb hb1 hb.size
    go_wp2
    go_ret
    exact ⟨rfl, hb⟩

theorem own : ownKnob Tryd.prog.godebug = none := by kernel_rfl
theorem laidOut : laidOutB Tryd.prog = true := by kernel_rfl
set_option maxRecDepth 100000 in
theorem contract (H : Type) (enc : TypeId × Value → H) (W : World) (base : Nat) (args : Array Value) (ds gs : List (DataW H)) (before : List MemPlace)
    (hval0 : ∀ (j : Nat) t v, Tryd.f8.params[j]? = some t → args[j]? = some v → Value.okWide Tryd.prog W .any base t v)
    (hW : DataW.Whole enc Tryd.prog Tryd.f8.params.toList Rows.fnExactReadLayerSpec.vars false W args.toList ds gs before) (hL : laidMetH Tryd.prog Rows.fnExactReadLayerRow.laid W) (hsh : W.ShapedOpen Tryd.prog) :
    Calls Tryd.prog 8 args W fun e W' => ∃ v, e = .returned v ∧ Rows.fnExactReadLayerSpec.post enc Tryd.prog Tryd.f8 false true false false W args v W' := by
  have hval := hval0
  have hW' := hW
  obtain ⟨p, q, hA0, hV, rfl, hfz, hnd⟩ := hW
  have hA : DataW.TrodAll enc Tryd.prog W 0 (fun _ => true) true Tryd.f8.params.toList args.toList ds p := hA0
  rw [Tryd.params8] at hA hval
  obtain ⟨v0, vs0, d0, ds0, p0, q0, hargs, rfl, rfl, h0, r0⟩ := trodAll_cons hA
  obtain ⟨rfl, rfl, rfl⟩ := trodAll_nil r0
  obtain rfl : args = #[v0] := by cases args; simp_all
  obtain ⟨rfl, rfl⟩ := trodVars_none hV
  have k0 := h0
  have lt0 : ∀ x ∈ p0, x.block < W.heap.size := by obtain ⟨m, hm⟩ := k0; exact DataW.trod_lt m _ _ _ hm
  obtain ⟨a0, rfl, rfl, rfl, b0⟩ := open_string Tryd.underlying9 (hval 0 9 v0 rfl rfl) h0
  clear hA0 hval0
  refine (walk a0 W (tab_of hL) (errs_of2 hL) (maxl_of hsh) b0).mono fun e W' ⟨he, bel⟩ => ?_
  subst he
  exact ⟨_, rfl, _, _, _, [], _, [], hW', trodAll_mk1 (shut_bool Tryd.underlying4 _), (trodAll_cons_mk (Below.trod laidOut (by kernel_rfl) (of_decide_eq_true (by kernel_rfl)) k0 bel lt0) trodAll_mk0), rfl, bel.frame _, fun h => by cases h⟩
set_option maxRecDepth 100000 in
theorem laid_met (os : Os) : laidMet Tryd.prog Rows.fnExactReadLayerRow.laid ((laidWorldF os).forCall (fun _ _ => 0) ⟨#[], #[.string ⟨#[]⟩], []⟩).memory :=
  laidMet_of_run' 8 (by kernel_rfl) (by kernel_rfl)
theorem reads (os : Os) {H : Type} (enc : TypeId × Value → H) : ∃ places, DataW.whole enc Tryd.prog ((laidWorldF os).forCall (fun _ _ => 0) ⟨#[], #[.string ⟨#[]⟩], []⟩).memory Tryd.f8.params.toList Rows.fnExactReadLayerSpec.vars false #[.string ⟨#[]⟩].toList 8 = some ([.lit (.string [])], [], places) :=
  ⟨[], by kernel_rfl⟩
set_option maxRecDepth 100000 in
theorem lifted (os : Os) (started : os.Started) (H : Type) (enc : TypeId × Value → H) (F : Stop.Interp) :
    ReturnsInHanded {} Tryd.checked os 8 .any ((OpenSpec.ofChange Rows.fnExactReadLayerSpec).preRow enc Tryd.prog Tryd.f8 Rows.fnExactReadLayerRow.domain false Rows.fnExactReadLayerRow.laid) (((OpenSpec.ofChange Rows.fnExactReadLayerSpec).at F).post enc Tryd.prog Tryd.f8 false true false false) := by
  obtain ⟨places, hx⟩ := reads os enc
  refine returnsInHanded_of_row (C := Tryd.checked) (s := OpenSpec.ofChange Rows.fnExactReadLayerSpec) own started (by kernel_rfl) Tryd.func8
    (witness_row_at (enc := enc) (C := Tryd.checked) false (laidWorldF os) #[.string ⟨#[]⟩] rfl (by kernel_rfl) (by kernel_rfl) (by kernel_rfl)
      (OpenSpec.preRow_of_cond 8 hx (by kernel_rfl) (fun k hk => by cases hk) (by kernel_rfl) (laid_met os))) ?_
  intro W base args ds gs before hval hW _ _ _ hL hsh _
  exact contract H enc W base args ds gs before hval hW hL hsh
theorem said : Rows.FnExactReadLayerSaid :=
  OpenClaim.holds_of_cond 8 Tryd.f8 rfl rfl rfl rfl rfl rfl rfl ⟨rfl, rfl, rfl, rfl, rfl⟩ rfl rfl rfl rfl rfl (by kernel_rfl) Tryd.func8 (by kernel_rfl)
    (of_decide_eq_true (by kernel_rfl)) (by unfold Func.isWrapper; first | (rw [if_pos (by decide +kernel)]; kernel_rfl) | (rw [if_neg (by decide +kernel)]; exact ⟨rfl, rfl⟩))
    (fun os started H enc _ F => by rw [OpenClaim.pre_eq_preRow]; exact lifted os started H enc F)
theorem plain (f : FuncId) (fn : Func) (hf : Tryd.pinned.checked.prog.funcNamed "loop.example/g01213/laws.FnExactReadLayer" = some f) (hfn : Tryd.pinned.checked.prog.funcs[f]? = some fn) :
    true = Tryd.pinned.checked.prog.looks [] ∧ ∀ (j : Nat) t, fn.params[j]? = some t → Tryd.pinned.checked.prog.wantsStandIn t = false := by
  obtain rfl : f = 8 := Option.some.inj ((show Tryd.prog.funcNamed "loop.example/g01213/laws.FnExactReadLayer" = some 8 by kernel_rfl).symm.trans hf) |>.symm
  obtain rfl : fn = Tryd.f8 := (Option.some.inj (Tryd.func8.symm.trans hfn)).symm
  refine ⟨by kernel_rfl, fun j t ht => ?_⟩
  rw [Tryd.params8] at ht
  obtain rfl : t = 9 := by simpa using Array.mem_of_getElem? ht
  exact (show Tryd.prog.wantsStandIn 9 = false by kernel_rfl)
theorem card : Rows.FnExactReadLayerCardSaid :=
  Claim7.holds_tied_plain_at .later [] _ _ _ _ said (fun _ h => by cases h) (by kernel_rfl) (fun _ h => by cases h) fnExactReadLayer_row_tie rfl ⟨rfl, rfl⟩ (by kernel_rfl) rfl plain (by kernel_rfl)
#print axioms card
end Go.Proofs.YtbdbeaebeedakaaDoor.fnExactReadLayer
namespace Go.Proofs.YtbdbeaebeedakaaDoor
/-- The card, under a short name, for the claim. -/
theorem fnExactReadLayer_holds : Rows.FnExactReadLayerCardSaid := fnExactReadLayer.card
end Go.Proofs.YtbdbeaebeedakaaDoor

