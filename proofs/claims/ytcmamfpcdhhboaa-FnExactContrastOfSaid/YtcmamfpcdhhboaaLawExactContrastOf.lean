/- Proved: the statement FnExactContrastOf of this seat: for every input the law returns true, and each argument reads as it read. There is no condition. -/
import Derived.Test.YtcmamfpcdhhboaaRows
import Derived.Test.YtcmamfpcdhhboaaOpen
import Derived.Test.YtcmamfpcdhhboaaCA
import Derived.Test.YtcmamfpcdhhboaaCM
import Derived.Test.YtcmamfpcdhhboaaDT
import Derived.WalkKit
import Derived.WalkSpells
import Derived.Outline
import Derived.ProofKit
import Derived.OpenShut
import Derived.ShutString
import Derived.ChangeOld
import Derived.Below
namespace Go.Proofs.Ytcmamfpcdhhboaa.fnExactContrastOf
open Go.ChangeShapes Go.WideShapes Go.ChangeAt Go.RowKit
open Go.ChangeMaps (open_string shut_string)

set_option maxRecDepth 100000 in
theorem walk (a0 : Nat → Nat) (w : World)  : Calls Try.prog 9 #[.agg (fA 33 a0)] w (RetB w true) := by
  have hA0 : Blk (w.alloc (.cells (fA 33 a0) 44)) w.heap.size 44 (fA 33 a0) := Blk.new _ _ _
  go_enter Try.func9, Try.ntmps9
  go_wp2_with (refine wpList_load_row rfl 44 _ rfl _ rfl _ _ (0, 0) _ hA0 Try.underlying44 rfl (by kernel_rfl) ?_)
  refine (toLayer_any _ _).mono ?_
  rintro e w1 ⟨rfl, hb1⟩
  have hA1 := hA0.below hb1 hA0.lt
  have hB : Below w.heap.size w w1 := bCall (by repeat (first | assumption | exact Below.refl _ _ | refine bDrew ?_ _ | refine Below.alloc ?_ (by first | omega | (simp; done) | (simp; omega)) _ | refine Below.setCell ?_ (by first | omega | (simp; done) | (simp; omega)) _ | refine bRow ?_ (by first | omega | (simp; done) | (simp; omega)) _)) hb1 (by first | omega | (simp; done) | (simp; omega))
  clear hA0
  go_wp2_with fail
  refine (sContrastOf_any _ _).mono ?_
  rintro e w2 ⟨r0, rfl, hr0, hb2⟩
  have Hr0 := Lib.hid hr0
  clear hr0
  have hB := bCall hB hb2 hB.size
  have hA2 : Blk w2 w.heap.size 44 (fA 33 a0) := hA1.below hb2 hA1.lt
  go_wp2_with (refine wpList_load_row rfl 44 _ rfl _ rfl _ _ (0, 0) _ hA2 Try.underlying44 rfl (by kernel_rfl) ?_)
  refine (toLayer_any _ _).mono ?_
  rintro e w3 ⟨rfl, hb3⟩
  have hB := bCall hB hb3 hB.size
  go_wp2_with fail
  refine (iContrastOf_any _ _).mono ?_
  rintro e w4 ⟨r1, rfl, hr1, hb4⟩
  have Hr1 := Lib.hid hr1
  clear hr1
  have hB := bCall hB hb4 (by have := hB.size; simp at this ⊢; omega)
  go_wp2_with fail
  refine (sameFloat_any _ _ (by rw [canon_widen, canon_widen, Hr1.out, Hr0.out]) _).mono ?_
  rintro e w5 ⟨rfl, n, rfl⟩
  go_wp2
  go_ret
  exact ⟨rfl, (by repeat (first | assumption | exact Below.refl _ _ | refine bDrew ?_ _ | refine Below.alloc ?_ (by first | omega | (simp; done) | (simp; omega)) _ | refine Below.setCell ?_ (by first | omega | (simp; done) | (simp; omega)) _ | refine bRow ?_ (by first | omega | (simp; done) | (simp; omega)) _))⟩

theorem own : ownKnob Try.prog.godebug = none := by kernel_rfl
theorem laidOut : laidOutB Try.prog = true := by kernel_rfl
set_option maxRecDepth 100000 in
theorem lifted (os : Os) (started : os.Started) (H : Type) (enc : TypeId × Value → H) :
    ReturnsInHanded {} Try.checked os 9 .any (Rows.fnExactContrastOfSpec.pre6 enc Try.prog Try.f9 Rows.fnExactContrastOfRow.domain false) (Rows.fnExactContrastOfSpec.post enc Try.prog Try.f9 false true false false) := by
  refine returnsInHanded_of_change (C := Try.checked) own started (by kernel_rfl) Try.func9
    (ChangeSpec.witness6 (enc := enc) (C := Try.checked) false ⟨#[], #[.agg (fA 33 fun _ => 0)], []⟩ 8 (by kernel_rfl) (by kernel_rfl) (by kernel_rfl) (by kernel_rfl)) ?_
  intro W base args ds gs before hval0 hW hcnd _
  have hval : ∀ (j : Nat) t v, Try.f9.params[j]? = some t → args[j]? = some v → Value.okWide Try.prog W .any base t v := hval0
  have hW' := hW
  obtain ⟨p, q, hA0, hV, rfl, hfz, hnd⟩ := hW
  have hA : DataW.TrodAll enc Try.prog W 0 (fun _ => true) true Try.f9.params.toList args.toList ds p := hA0
  rw [Try.params9] at hA hval
  obtain ⟨v0, vs0, d0, ds0, p0, q0, hargs, rfl, rfl, h0, r0⟩ := trodAll_cons hA
  obtain ⟨rfl, rfl, rfl⟩ := trodAll_nil r0
  obtain rfl : args = #[v0] := by cases args; simp_all
  obtain ⟨rfl, rfl⟩ := trodVars_none hV
  have k0 := h0
  have lt0 : ∀ x ∈ p0, x.block < W.heap.size := by obtain ⟨m, hm⟩ := k0; exact DataW.trod_lt m _ _ _ hm
  obtain ⟨a0, rfl⟩ := open_row (n := 33) (e := 22) (by kernel_rfl) (by kernel_rfl) Try.underlying22 (by kernel_rfl) (hval 0 44 v0 rfl rfl)
  clear hA0 hval0
  refine (walk a0 W ).mono fun e W' ⟨he, bel⟩ => ?_
  subst he
  exact ⟨_, rfl, _, _, _, [], _, [], hW', trodAll_mk1 (shut_bool Try.underlying4 _), (trodAll_cons_mk (Below.trod laidOut (by kernel_rfl) (of_decide_eq_true (by kernel_rfl)) k0 bel lt0) trodAll_mk0), rfl, bel.frame _, fun h => by cases h⟩
theorem over : Rows.fnExactContrastOfRow.holds Try.pinned (OpenSpec.ofChange Rows.fnExactContrastOfSpec) :=
  OpenClaim.holds_of_wide 9 Try.f9 rfl rfl rfl rfl rfl rfl rfl ⟨rfl, rfl, rfl, rfl, rfl⟩ rfl rfl rfl rfl rfl (by kernel_rfl) Try.func9 (by kernel_rfl)
    (of_decide_eq_true (by kernel_rfl)) (by unfold Func.isWrapper; first | (rw [if_pos (by decide +kernel)]; kernel_rfl) | (rw [if_neg (by decide +kernel)]; exact ⟨rfl, rfl⟩))
    (fun os started H enc _ => lifted os started H enc)
theorem proved : Rows.FnExactContrastOfSaid := over
#print axioms proved
end Go.Proofs.Ytcmamfpcdhhboaa.fnExactContrastOf
namespace Go.Proofs.Ytcmamfpcdhhboaa
/-- The row, under a short name, for the claim. -/
theorem fnExactContrastOf_holds : Rows.FnExactContrastOfSaid := fnExactContrastOf.proved
end Go.Proofs.Ytcmamfpcdhhboaa

