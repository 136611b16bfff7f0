/- Proved: the statement FnExactStackOf of this seat: for every input the law returns true, and each argument reads as it read. There is no condition. -/
import Derived.Test.YtghmonkoleegjaaRows
import Derived.Test.YtghmonkoleegjaaOpen
import Derived.Test.YtghmonkoleegjaaCA
import Derived.Test.YtghmonkoleegjaaCM
import Derived.Test.YtghmonkoleegjaaLE
import Derived.Test.YtghmonkoleegjaaLF
import Derived.Test.YtghmonkoleegjaaLG
import Derived.WalkKit
import Derived.WalkSpells
import Derived.Outline
import Derived.ProofKit
import Derived.OpenShut
import Derived.ShutString
import Derived.ChangeOld
import Derived.Below
import Derived.IntWalk
import Derived.BigQuiet
namespace Go.Proofs.Ytghmonkoleegjaa.fnExactStackOf
open Go.ChangeShapes Go.WideShapes Go.ChangeAt Go.RowKit
open Go.ChangeMaps (open_string shut_string)

set_option maxRecDepth 100000 in
set_option maxHeartbeats 4000000 in
theorem walk (a0 : Option Addr) (n0 c0 : Nat) (f0 : Nat → Nat) (w : World) (y0 : Lays w a0 n0 f0) : Calls Try.prog 3 #[.slice a0 n0 c0] w (RetB w true) := by
  by_cases hn : n0 ≤ 1048576
  · go_enter Try.func3, Try.ntmps3
    go_wp2_with fail
    refine (szLayer_fits a0 n0 c0 hn _).mono ?_
    rintro e w1 ⟨rfl, hw⟩
    subst hw
    have hpos : ¬ (1048576 - (n0 : Int)) < 0 := by omega
    go_wp2_with fail
    refine (toLayerS_any a0 n0 c0 f0 _ y0 hn).mono ?_
    rintro e w2 ⟨g1, rfl, hg1, hL, hb⟩
    go_wp2_with fail
    refine (sStackOf_any g1 n0 56 f0 _ hL hn).mono ?_
    rintro e w3 ⟨r0, rfl, hr0, hb1⟩
    have hb := bCall hb hb1 hb.size
    have H0 := Lib.hid hr0
    have hR : Blk (w3.alloc (.cells (fA 48 r0) 28)) w3.heap.size 28 (fA 48 r0) := Blk.new _ _ _
    have hb : Below w1.heap.size w1 (w3.alloc (.cells (fA 48 r0) 28)) := hb.alloc hb.size _
    clear hr0 hb1 hL hg1
    go_wp2_with (refine wpList_store_new rfl 28 _ _ rfl _ rfl rfl (by kernel_rfl) rfl (all_fA _ _) ?_)
    refine (toLayerS_any a0 n0 c0 f0 _ (y0.to hb (Nat.le_refl _)) hn).mono ?_
    rintro e w4 ⟨g2, rfl, hg2, hL, hb1⟩
    have hR := hR.below hb1 hR.lt
    have hb := bCall hb hb1 hb.size; clear hb1
    go_wp2_with fail
    refine (iStackOf_any g2 n0 56 f0 _ hL hn).mono ?_
    rintro e w5 ⟨r1, rfl, hr1, hb1⟩
    have hR := hR.below hb1 hR.lt
    have hL := hL.below hb1 hL.lt
    have hb := bCall hb hb1 hb.size; clear hb1
    have H1 := Lib.hid hr1
    have hR := hR.alloc (.cells (fA 48 r1) 28)
    have hL := hL.alloc (.cells (fA 48 r1) 28)
    have hQ : Blk (w5.alloc (.cells (fA 48 r1) 28)) w5.heap.size 28 (fA 48 r1) := Blk.new _ _ _
    have hb : Below w1.heap.size w1 (w5.alloc (.cells (fA 48 r1) 28)) := hb.alloc hb.size _
    clear hr1 hg2
    go_wp2_with (first | (refine wpList_store_new rfl 28 _ _ rfl _ rfl rfl (by kernel_rfl) rfl (all_fA _ _) ?_) | (refine wpList_load_row rfl 28 _ rfl _ rfl _ _ (0, 0) _ hQ Try.underlying28 rfl (by kernel_rfl) ?_) | (refine wpList_load_row rfl 28 _ rfl _ rfl _ _ (0, 0) _ hR Try.underlying28 rfl (by kernel_rfl) ?_))
    refine (eqFilm_any r1 r0 (fun i hi => (H1.out i hi).trans (H0.out i hi).symm) _).mono ?_
    rintro e w6 ⟨rfl, hb1⟩
    have hL := hL.below hb1 hL.lt
    have hb := bCall hb hb1 hb.size; clear hb1
    clear hR hQ
    go_wp2_with fail
    refine (toLayerS_any a0 n0 c0 f0 _ (y0.to hb (Nat.le_refl _)) hn).mono ?_
    rintro e w7 ⟨g3, rfl, hg3, hM, hb1⟩
    have hL := hL.below hb1 hL.lt
    have hb := bCall hb hb1 hb.size; clear hb1
    go_wp2_with fail
    refine (eqLayerS_any g2 g3 n0 56 56 f0 _ hn hL hM).mono ?_
    rintro e w8 ⟨rfl, hb1⟩
    have hb := bCall hb hb1 hb.size; clear hb1
    go_wp2
    go_ret
    exact ⟨rfl, hb⟩
  · go_enter Try.func3, Try.ntmps3
    go_wp2_with fail
    refine (szLayer_big a0 n0 c0 (by omega) y0.small _).mono ?_
    rintro e w1 ⟨rfl, hw⟩
    subst hw
    go_wp2
    go_ret
    exact ⟨rfl, Below.refl _ _⟩

theorem own : ownKnob Try.prog.godebug = none := by kernel_rfl
theorem laidOut : laidOutB Try.prog = true := by kernel_rfl
set_option maxRecDepth 100000 in
theorem lifted (os : Os) (started : os.Started) (H : Type) (enc : TypeId × Value → H) :
    ReturnsInHanded {} Try.checked os 3 .any (Rows.fnExactStackOfSpec.pre6 enc Try.prog Try.f3 Rows.fnExactStackOfRow.domain false) (Rows.fnExactStackOfSpec.post enc Try.prog Try.f3 false true false false) := by
  refine returnsInHanded_of_change (C := Try.checked) own started (by kernel_rfl) Try.func3
    (ChangeSpec.witness6 (enc := enc) (C := Try.checked) false ⟨#[], #[.slice none 0 0], []⟩ 8 (by kernel_rfl) (by kernel_rfl) (by kernel_rfl) (by kernel_rfl)) ?_
  intro W base args ds gs before hval0 hW hcnd _
  have hval : ∀ (j : Nat) t v, Try.f3.params[j]? = some t → args[j]? = some v → Value.okWide Try.prog W .any base t v := hval0
  have hW' := hW
  obtain ⟨p, q, hA0, hV, rfl, hfz, hnd⟩ := hW
  have hA : DataW.TrodAll enc Try.prog W 0 (fun _ => true) true Try.f3.params.toList args.toList ds p := hA0
  rw [Try.params3] at hA hval
  obtain ⟨v0, vs0, d0, ds0, p0, q0, hargs, rfl, rfl, h0, r0⟩ := trodAll_cons hA
  obtain ⟨rfl, rfl, rfl⟩ := trodAll_nil r0
  obtain rfl : args = #[v0] := by cases args; simp_all
  obtain ⟨rfl, rfl⟩ := trodVars_none hV
  have k0 := h0
  have lt0 : ∀ x ∈ p0, x.block < W.heap.size := by obtain ⟨m, hm⟩ := k0; exact DataW.trod_lt m _ _ _ hm
  obtain ⟨a0, n0, c0, rfl⟩ := okWide_slice Try.underlying22 (hval 0 22 v0 rfl rfl)
  obtain ⟨f0, w0⟩ := open_lays Try.underlying22 Try.underlying63 ⟨rfl, rfl⟩ ⟨rfl, rfl⟩ ⟨rfl, rfl⟩ Try.underlying25 Try.underlying24 (by kernel_rfl) (by kernel_rfl) (by kernel_rfl) h0
  clear hA0 hval0
  refine (walk a0 n0 c0 f0 W w0).mono fun e W' ⟨he, bel⟩ => ?_
  subst he
  exact ⟨_, rfl, _, _, _, [], _, [], hW', trodAll_mk1 (shut_bool Try.underlying4 _), (trodAll_cons_mk (Below.trod laidOut (by kernel_rfl) (of_decide_eq_true (by kernel_rfl)) k0 bel lt0) trodAll_mk0), rfl, bel.frame _, fun h => by cases h⟩
theorem over : Rows.fnExactStackOfRow.holds Try.pinned (OpenSpec.ofChange Rows.fnExactStackOfSpec) :=
  OpenClaim.holds_of_wide 3 Try.f3 rfl rfl rfl rfl rfl rfl rfl ⟨rfl, rfl, rfl, rfl, rfl⟩ rfl rfl rfl rfl rfl (by kernel_rfl) Try.func3 (by kernel_rfl)
    (of_decide_eq_true (by kernel_rfl)) (by unfold Func.isWrapper; first | (rw [if_pos (by decide +kernel)]; kernel_rfl) | (rw [if_neg (by decide +kernel)]; exact ⟨rfl, rfl⟩))
    (fun os started H enc _ => lifted os started H enc)
theorem proved : Rows.FnExactStackOfSaid := over
#print axioms proved
end Go.Proofs.Ytghmonkoleegjaa.fnExactStackOf
namespace Go.Proofs.Ytghmonkoleegjaa
/-- The row, under a short name, for the claim. -/
theorem fnExactStackOf_holds : Rows.FnExactStackOfSaid := fnExactStackOf.proved
end Go.Proofs.Ytghmonkoleegjaa

