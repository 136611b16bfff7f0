/- Proved: the statement FnExactLookUnder of this seat: for every input the law returns true, and each argument reads as it read. There is no condition. -/
import Derived.Test.YtmlbbfopccmlbaaRows
import Derived.Test.YtmlbbfopccmlbaaOpen
import Derived.Test.YtmlbbfopccmlbaaLate
import Derived.Test.YtmlbbfopccmlbaaCA
import Derived.Test.YtmlbbfopccmlbaaDR
import Derived.WalkKit
import Derived.WalkSpells
import Derived.Outline
import Derived.ProofKit
import Derived.OpenShut
import Derived.ShutString
import Derived.ChangeOld
import Derived.Below
namespace Go.Proofs.Ytmlbbfopccmlbaa.fnExactLookUnder
open Go.ChangeShapes Go.WideShapes Go.ChangeAt Go.RowKit
open Go.ChangeMaps (open_string shut_string)

set_option maxRecDepth 100000 in
theorem walk (a0 : Nat → Nat) (a1 : Nat → Nat) (w : World)  : Calls Try.prog 3 #[.agg (fA 16 a0), .agg (fA 16 a1)] w (RetB w true) := by
  go_enter Try.func3, Try.ntmps3
  go_wp2_with fail
  obtain ⟨W, hW⟩ : ∃ W : World, W = ((w.alloc (.cells (fA 16 a0) 23)).alloc (.cells (fA 16 a1) 23)) := ⟨_, rfl⟩
  have hA0 : Blk W (w.heap.size) 23 (fA 16 a0) := by subst hW; exact (by first | assumption | (repeat (first | assumption | (apply Blk.new_at; (focus (simp; done)); rfl) | apply Blk.alloc | apply Blk.drewN)))
  have hA1 : Blk W (w.heap.size + 1) 23 (fA 16 a1) := by subst hW; exact (by first | assumption | (repeat (first | assumption | (apply Blk.new_at; (focus (simp; done)); rfl) | apply Blk.alloc | apply Blk.drewN)))
  have hb : Below w.heap.size w W := by subst hW; exact (by repeat (first | assumption | exact Below.refl _ _ | refine bDrew ?_ _ | refine Below.alloc ?_ (by first | omega | (simp; done) | (simp; omega)) _ | refine Below.setCell ?_ (by first | omega | (simp; done) | (simp; omega)) _ | refine bRow ?_ (by first | omega | (simp; done) | (simp; omega)) _))
  rw [← hW]
  clear hW
  have hsz : w.heap.size + 1 + 1 ≤ W.heap.size := hA1.lt
  refine wp_region_lr_late 9 7 (GTwo 8 (IsCC 3 (lookUnderMade (seenRes (fun i => canon .f32 (a0 i)) fun i => canon .f32 (a1 i))).1 (lookUnderMade (seenRes (fun i => canon .f32 (a0 i)) fun i => canon .f32 (a1 i))).2)) (by kernel_rfl) (by kernel_rfl) (fun _ _ d _ _ h => by cases d <;> exact h) ?_
  simp only [List.take_succ_cons, List.take_zero, List.drop_succ_cons, List.drop_zero]
  (refine wpLR_plain rfl (fun K hK w1 hw1 => lrUpon_load rfl _ rfl _ _ _ _ (Blk.below hA0 hw1 hA0.lt) Try.underlying23 rfl (by kernel_rfl) (fun N => hK _ _ ?_)); clear hK K)
  (refine wpLR_plain rfl (fun K hK w1 hw1 => ?_); go_simp; refine ⟨R.refl _, (toCurve_any _ _).mono ?_, fun u hu => hK _ _ ?_⟩; (rintro e w' ⟨rfl, hb⟩; exact ⟨_, rfl, .copy _, hb⟩); clear hK K; obtain rfl := hu.copied; clear hu)
  (refine wpLR_plain rfl (fun K hK w1 hw1 => lrUpon_load rfl _ rfl _ _ _ _ (Blk.below hA1 hw1 hA1.lt) Try.underlying23 rfl (by kernel_rfl) (fun N => hK _ _ ?_)); clear hK K)
  (refine wpLR_plain rfl (fun K hK w1 hw1 => ?_); go_simp; refine ⟨R.refl _, (toCurve_any _ _).mono ?_, fun u hu => hK _ _ ?_⟩; (rintro e w' ⟨rfl, hb⟩; exact ⟨_, rfl, .copy _, hb⟩); clear hK K; obtain rfl := hu.copied; clear hu)
  (refine wpLR_plain rfl (fun K hK w1 hw1 => ?_); go_simp; refine ⟨R.refl _, (sLookUnder_any _ _ _).mono ?_, fun u hu => hK _ _ ?_⟩; (intro e w' h; obtain ⟨u, hu, hq, hb⟩ := h.is; exact ⟨u, hu, .mk (by decide) hq, hb⟩); clear hK K; obtain ⟨r0, rfl, Hr0⟩ := hu.other (by decide); clear hu)
  (refine wpLR_plain rfl (fun K hK w1 hw1 => ?_); go_simp; refine ⟨R.refl _, hK _ _ ?_⟩; clear hK K)
  (refine wpLR_plain rfl (fun K hK w1 hw1 => ?_); go_simp; refine ⟨R.refl _, hK _ _ ?_⟩; clear hK K)
  (refine wpLR_plain rfl (fun K hK w1 hw1 => ?_); go_simp; refine ⟨R.refl _, hK _ _ ?_⟩; clear hK K)
  (refine wpLR_plain rfl (fun K hK v0 hv0 => ?_); go_simp; refine ⟨Below.alloc (Below.refl _ _) (Nat.le_refl _) _, hK _ _ ?_⟩; clear hK K)
  refine wpLR_nil ?_
  intro W1 hW1 hS
  have hZ : Blk W1 v0.heap.size 25 (fA 3 fun _ => 0) := (Blk.new _ _ _).below hS.2 (Blk.new _ _ _).lt
  clear hS
  have hA0 := hA0.below hW1 hA0.lt
  have hA1 := hA1.below hW1 hA1.lt
  have hb := bCall hb hW1 hb.size
  have hg : w.heap.size + 1 + 1 ≤ v0.heap.size := by have := hv0.size; have := hsz; omega
  go_wp2_with (refine wpList_store_row rfl 25 _ _ rfl _ _ rfl rfl _ _ (by first | assumption | (repeat (first | assumption | (apply Blk.new_at; (focus (simp; done)); rfl) | apply Blk.alloc | apply Blk.drewN))) (by kernel_rfl) (by simp only [size_fA]) (all_fA _ _) ?_)
  obtain ⟨W2, hW⟩ : ∃ W2 : World, W2 = W1.setRow v0.heap.size (fA 3 r0) := ⟨_, rfl⟩
  have hA0 : Blk W2 (w.heap.size) 23 (fA 16 a0) := by subst hW; exact hA0.farRow (by omega)
  have hA1 : Blk W2 (w.heap.size + 1) 23 (fA 16 a1) := by subst hW; exact hA1.farRow (by omega)
  have hR0 : Blk W2 v0.heap.size 25 (fA 3 r0) := by subst hW; exact hZ.setRow
  have hb : Below w.heap.size w W2 := by subst hW; exact bRow hb (by omega) _
  have hsz : v0.heap.size < W2.heap.size := hR0.lt
  rw [← hW]
  clear hW hZ
  have hsz0 := hg
  refine wp_region_lr_late 9 7 (GTwo 8 (IsCC 3 (lookUnderMade (seenRes (fun i => canon .f32 (a0 i)) fun i => canon .f32 (a1 i))).1 (lookUnderMade (seenRes (fun i => canon .f32 (a0 i)) fun i => canon .f32 (a1 i))).2)) (by kernel_rfl) (by kernel_rfl) (fun _ _ d _ _ h => by cases d <;> exact h) ?_
  simp only [List.take_succ_cons, List.take_zero, List.drop_succ_cons, List.drop_zero]
  (refine wpLR_plain rfl (fun K hK w1 hw1 => lrUpon_load rfl _ rfl _ _ _ _ (Blk.below hA0 hw1 hA0.lt) Try.underlying23 rfl (by kernel_rfl) (fun N => hK _ _ ?_)); clear hK K)
  (refine wpLR_plain rfl (fun K hK w1 hw1 => ?_); go_simp; refine ⟨R.refl _, (toCurve_any _ _).mono ?_, fun u hu => hK _ _ ?_⟩; (rintro e w' ⟨rfl, hb⟩; exact ⟨_, rfl, .copy _, hb⟩); clear hK K; obtain rfl := hu.copied; clear hu)
  (refine wpLR_plain rfl (fun K hK w1 hw1 => lrUpon_load rfl _ rfl _ _ _ _ (Blk.below hA1 hw1 hA1.lt) Try.underlying23 rfl (by kernel_rfl) (fun N => hK _ _ ?_)); clear hK K)
  (refine wpLR_plain rfl (fun K hK w1 hw1 => ?_); go_simp; refine ⟨R.refl _, (toCurve_any _ _).mono ?_, fun u hu => hK _ _ ?_⟩; (rintro e w' ⟨rfl, hb⟩; exact ⟨_, rfl, .copy _, hb⟩); clear hK K; obtain rfl := hu.copied; clear hu)
  (refine wpLR_plain rfl (fun K hK w1 hw1 => ?_); go_simp; refine ⟨R.refl _, (iLookUnder_any _ _ _).mono ?_, fun u hu => hK _ _ ?_⟩; (intro e w' h; obtain ⟨u, hu, hq, hb⟩ := h.is; exact ⟨u, hu, .mk (by decide) hq, hb⟩); clear hK K; obtain ⟨r1, rfl, Hr1⟩ := hu.other (by decide); clear hu)
  (refine wpLR_plain rfl (fun K hK w1 hw1 => ?_); go_simp; refine ⟨R.refl _, hK _ _ ?_⟩; clear hK K)
  (refine wpLR_plain rfl (fun K hK w1 hw1 => ?_); go_simp; refine ⟨R.refl _, hK _ _ ?_⟩; clear hK K)
  (refine wpLR_plain rfl (fun K hK w1 hw1 => ?_); go_simp; refine ⟨R.refl _, hK _ _ ?_⟩; clear hK K)
  (refine wpLR_plain rfl (fun K hK v1 hv1 => ?_); go_simp; refine ⟨Below.alloc (Below.refl _ _) (Nat.le_refl _) _, hK _ _ ?_⟩; clear hK K)
  refine wpLR_nil ?_
  intro W1 hW1 hS
  have hZ : Blk W1 v1.heap.size 25 (fA 3 fun _ => 0) := (Blk.new _ _ _).below hS.2 (Blk.new _ _ _).lt
  clear hS
  have hA0 := hA0.below hW1 hA0.lt
  have hA1 := hA1.below hW1 hA1.lt
  have hR0 := hR0.below hW1 hR0.lt
  have hb := bCall hb hW1 hb.size
  have hg : w.heap.size + 1 + 1 ≤ v1.heap.size := by have := hv1.size; have := hsz; omega
  have hR1 : Blk (W1.setRow v1.heap.size (fA 3 r1)) v1.heap.size 25 (fA 3 r1) := hZ.setRow
  have hR0 : Blk (W1.setRow v1.heap.size (fA 3 r1)) v0.heap.size 25 (fA 3 r0) := hR0.farRow (by have := hv1.size; omega)
  have hb : Below w.heap.size w (W1.setRow v1.heap.size (fA 3 r1)) := bRow hb (by omega) _
  go_wp2_with (first | (refine wpList_store_row rfl 25 _ _ rfl _ _ rfl rfl _ _ (by first | assumption | (repeat (first | assumption | (apply Blk.new_at; (focus (simp; done)); rfl) | apply Blk.alloc | apply Blk.drewN))) (by kernel_rfl) (by simp only [size_fA]) (all_fA _ _) ?_) | (refine wpList_load_row rfl 25 _ rfl _ rfl _ _ (0, 0) _ hR1 Try.underlying25 rfl (by kernel_rfl) ?_) | (refine wpList_load_row rfl 25 _ rfl _ rfl _ _ (0, 0) _ hR0 Try.underlying25 rfl (by kernel_rfl) ?_))
  refine (eqThree_any _ _ (fun i hi => (Hr1.out i hi).trans (Hr0.out i hi).symm) _).mono ?_
  rintro e w5 ⟨rfl, hb5⟩
  have hb := bCall hb hb5 hb.size
  go_wp2
  go_ret
  exact ⟨rfl, hb⟩

theorem own : ownKnob Try.prog.godebug = none := by kernel_rfl
theorem laidOut : laidOutB Try.prog = true := by kernel_rfl
set_option maxRecDepth 100000 in
theorem lifted (os : Os) (started : os.Started) (H : Type) (enc : TypeId × Value → H) :
    ReturnsInHanded {} Try.checked os 3 .any (Rows.fnExactLookUnderSpec.pre6 enc Try.prog Try.f3 Rows.fnExactLookUnderRow.domain false) (Rows.fnExactLookUnderSpec.post enc Try.prog Try.f3 false true false false) := by
  refine returnsInHanded_of_change (C := Try.checked) own started (by kernel_rfl) Try.func3
    (ChangeSpec.witness6 (enc := enc) (C := Try.checked) false ⟨#[], #[.agg (fA 16 fun _ => 0), .agg (fA 16 fun _ => 0)], []⟩ 8 (by kernel_rfl) (by kernel_rfl) (by kernel_rfl) (by kernel_rfl)) ?_
  intro W base args ds gs before hval0 hW hcnd _
  have hval : ∀ (j : Nat) t v, Try.f3.params[j]? = some t → args[j]? = some v → Value.okWide Try.prog W .any base t v := hval0
  have hW' := hW
  obtain ⟨p, q, hA0, hV, rfl, hfz, hnd⟩ := hW
  have hA : DataW.TrodAll enc Try.prog W 0 (fun _ => true) true Try.f3.params.toList args.toList ds p := hA0
  rw [Try.params3] at hA hval
  obtain ⟨v0, vs0, d0, ds0, p0, q0, hargs, rfl, rfl, h0, r0⟩ := trodAll_cons hA
  obtain ⟨v1, vs1, d1, ds1, p1, q1, rfl, rfl, rfl, h1, r1⟩ := trodAll_cons r0
  obtain ⟨rfl, rfl, rfl⟩ := trodAll_nil r1
  obtain rfl : args = #[v0, v1] := by cases args; simp_all
  obtain ⟨rfl, rfl⟩ := trodVars_none hV
  have k0 := h0
  have lt0 : ∀ x ∈ p0, x.block < W.heap.size := by obtain ⟨m, hm⟩ := k0; exact DataW.trod_lt m _ _ _ hm
  obtain ⟨a0, rfl⟩ := open_row (n := 16) (e := 22) (by kernel_rfl) (by kernel_rfl) Try.underlying22 (by kernel_rfl) (hval 0 23 v0 rfl rfl)
  have k1 := h1
  have lt1 : ∀ x ∈ p1, x.block < W.heap.size := by obtain ⟨m, hm⟩ := k1; exact DataW.trod_lt m _ _ _ hm
  obtain ⟨a1, rfl⟩ := open_row (n := 16) (e := 22) (by kernel_rfl) (by kernel_rfl) Try.underlying22 (by kernel_rfl) (hval 1 23 v1 rfl rfl)
  clear hA0 hval0
  refine (walk a0 a1 W ).mono fun e W' ⟨he, bel⟩ => ?_
  subst he
  exact ⟨_, rfl, _, _, _, [], _, [], hW', trodAll_mk1 (shut_bool Try.underlying4 _), (trodAll_cons_mk (Below.trod laidOut (by kernel_rfl) (of_decide_eq_true (by kernel_rfl)) k0 bel lt0) (trodAll_cons_mk (Below.trod laidOut (by kernel_rfl) (of_decide_eq_true (by kernel_rfl)) k1 bel lt1) trodAll_mk0)), rfl, bel.frame _, fun h => by cases h⟩
theorem over : Rows.fnExactLookUnderRow.holds Try.pinned (OpenSpec.ofChange Rows.fnExactLookUnderSpec) :=
  OpenClaim.holds_of_wide 3 Try.f3 rfl rfl rfl rfl rfl rfl rfl ⟨rfl, rfl, rfl, rfl, rfl⟩ rfl rfl rfl rfl rfl (by kernel_rfl) Try.func3 (by kernel_rfl)
    (of_decide_eq_true (by kernel_rfl)) (by unfold Func.isWrapper; first | (rw [if_pos (by decide +kernel)]; kernel_rfl) | (rw [if_neg (by decide +kernel)]; exact ⟨rfl, rfl⟩))
    (fun os started H enc _ => lifted os started H enc)
theorem proved : Rows.FnExactLookUnderSaid := over
#print axioms proved
end Go.Proofs.Ytmlbbfopccmlbaa.fnExactLookUnder
namespace Go.Proofs.Ytmlbbfopccmlbaa
/-- The row, under a short name, for the claim. -/
theorem fnExactLookUnder_holds : Rows.FnExactLookUnderSaid := fnExactLookUnder.proved
end Go.Proofs.Ytmlbbfopccmlbaa

