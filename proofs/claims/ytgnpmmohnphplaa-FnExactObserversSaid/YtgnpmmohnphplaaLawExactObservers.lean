/- Proved: the statement FnExactObservers of this seat: for every input the law returns true, and each argument reads as it read. There is no condition. -/
import Derived.Test.YtgnpmmohnphplaaRows
import Derived.Test.YtgnpmmohnphplaaOpen
import Derived.Test.YtgnpmmohnphplaaCA
import Derived.Test.YtgnpmmohnphplaaDI
import Derived.WalkKit
import Derived.WalkSpells
import Derived.Outline
import Derived.ProofKit
import Derived.OpenShut
import Derived.ShutString
import Derived.ChangeOld
import Derived.Below
namespace Go.Proofs.Ytgnpmmohnphplaa.fnExactObservers
open Go.ChangeShapes Go.WideShapes Go.ChangeAt Go.RowKit
open Go.ChangeMaps (open_string shut_string)

set_option maxRecDepth 100000 in
theorem walk  (w : World)  : Calls Try.prog 3 #[] w (RetB w true) := by
  go_enter Try.func3, Try.ntmps3
  have hB := Below.refl w.heap.size w
  go_wp2_with fail
  refine (sObservers_any _).mono ?_
  rintro e w2 ⟨r0, rfl, hr0, hb2⟩
  have Hr0 := Lib.hid hr0
  clear hr0
  have hB := bCall hB hb2 hB.size
  have hR0 : Blk (w2.alloc (.cells (fA 48 r0) 25)) w2.heap.size 25 (fA 48 r0) := Blk.new _ _ _
  have hB : Below w.heap.size w (w2.alloc (.cells (fA 48 r0) 25)) := hB.alloc hB.size _
  go_wp2_with (refine wpList_store_new rfl 25 _ _ rfl _ rfl rfl (by kernel_rfl) rfl (all_fA _ _) ?_)
  refine (iObservers_any _).mono ?_
  rintro e w4 ⟨r1, rfl, hr1, hb4⟩
  have Hr1 := Lib.hid hr1
  clear hr1
  have hB := bCall hB hb4 (by have := hB.size; simp at this ⊢; omega)
  have hR0 : Blk (w4.alloc (.cells (fA 48 r1) 25)) w2.heap.size 25 (fA 48 r0) := (hR0.below hb4 hR0.lt).alloc _
  have hR1 : Blk (w4.alloc (.cells (fA 48 r1) 25)) w4.heap.size 25 (fA 48 r1) := Blk.new _ _ _
  have hB : Below w.heap.size w (w4.alloc (.cells (fA 48 r1) 25)) := hB.alloc hB.size _
  go_wp2_with (first | (refine wpList_store_new rfl 25 _ _ rfl _ rfl rfl (by kernel_rfl) rfl (all_fA _ _) ?_) | (refine wpList_load_row rfl 25 _ rfl _ rfl _ _ (0, 0) _ hR1 Try.underlying25 rfl (by kernel_rfl) ?_) | (refine wpList_load_row rfl 25 _ rfl _ rfl _ _ (0, 0) _ hR0 Try.underlying25 rfl (by kernel_rfl) ?_))
  refine (eqCurveA3_any _ _ (fun i hi => (Hr1.out i hi).trans (Hr0.out i hi).symm) _).mono ?_
  rintro e w5 ⟨rfl, hb5⟩
  have hB := bCall hB hb5 (by have := hB.size; simp at this ⊢; omega)
  go_wp2
  go_ret
  exact ⟨rfl, hB⟩

theorem own : ownKnob Try.prog.godebug = none := by kernel_rfl
theorem laidOut : laidOutB Try.prog = true := by kernel_rfl
set_option maxRecDepth 100000 in
theorem lifted (os : Os) (started : os.Started) (H : Type) (enc : TypeId × Value → H) :
    ReturnsInHanded {} Try.checked os 3 .any (Rows.fnExactObserversSpec.pre6 enc Try.prog Try.f3 Rows.fnExactObserversRow.domain false) (Rows.fnExactObserversSpec.post enc Try.prog Try.f3 false true false false) := by
  refine returnsInHanded_of_change (C := Try.checked) own started (by kernel_rfl) Try.func3
    (ChangeSpec.witness6 (enc := enc) (C := Try.checked) false ⟨#[], #[], []⟩ 8 (by kernel_rfl) (by kernel_rfl) (by kernel_rfl) (by kernel_rfl)) ?_
  intro W base args ds gs before hval0 hW hcnd _
  have hval : ∀ (j : Nat) t v, Try.f3.params[j]? = some t → args[j]? = some v → Value.okWide Try.prog W .any base t v := hval0
  have hW' := hW
  obtain ⟨p, q, hA0, hV, rfl, hfz, hnd⟩ := hW
  have hA : DataW.TrodAll enc Try.prog W 0 (fun _ => true) true Try.f3.params.toList args.toList ds p := hA0
  rw [Try.params3] at hA hval
  obtain ⟨rfl, rfl, rfl⟩ := trodAll_none hA
  obtain ⟨rfl, rfl⟩ := trodVars_none hV
  clear hA0 hval0
  refine (walk  W ).mono fun e W' ⟨he, bel⟩ => ?_
  subst he
  exact ⟨_, rfl, _, _, _, [], _, [], hW', trodAll_mk1 (shut_bool Try.underlying4 _), trodAll_mk0, rfl, bel.frame _, fun h => by cases h⟩
theorem over : Rows.fnExactObserversRow.holds Try.pinned (OpenSpec.ofChange Rows.fnExactObserversSpec) :=
  OpenClaim.holds_of_wide 3 Try.f3 rfl rfl rfl rfl rfl rfl rfl ⟨rfl, rfl, rfl, rfl, rfl⟩ rfl rfl rfl rfl rfl (by kernel_rfl) Try.func3 (by kernel_rfl)
    (of_decide_eq_true (by kernel_rfl)) (by unfold Func.isWrapper; first | (rw [if_pos (by decide +kernel)]; kernel_rfl) | (rw [if_neg (by decide +kernel)]; exact ⟨rfl, rfl⟩))
    (fun os started H enc _ => lifted os started H enc)
theorem proved : Rows.FnExactObserversSaid := over
#print axioms proved
end Go.Proofs.Ytgnpmmohnphplaa.fnExactObservers
namespace Go.Proofs.Ytgnpmmohnphplaa
/-- The row, under a short name, for the claim. -/
theorem fnExactObservers_holds : Rows.FnExactObserversSaid := fnExactObservers.proved
end Go.Proofs.Ytgnpmmohnphplaa

