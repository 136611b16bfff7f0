/- Proved: the statement FnExactThicknessFor of this seat: for every input the law returns true, and each argument reads as it read. There is no condition. -/
import Derived.Test.YtcmamfpcdhhboaaRows
import Derived.Test.YtcmamfpcdhhboaaOpen
import Derived.Test.YtcmamfpcdhhboaaLate
import Derived.Test.YtcmamfpcdhhboaaCA
import Derived.Test.YtcmamfpcdhhboaaDV
import Derived.WalkKit
import Derived.WalkSpells
import Derived.Outline
import Derived.ProofKit
import Derived.OpenShut
import Derived.ShutString
import Derived.ChangeOld
import Derived.Below
namespace Go.Proofs.Ytcmamfpcdhhboaa.fnExactThicknessFor
open Go.ChangeShapes Go.WideShapes Go.ChangeAt Go.RowKit
open Go.ChangeMaps (open_string shut_string)

set_option maxRecDepth 100000 in
theorem walk (a0 : Nat → Nat) (a1 : Nat → Nat) (a2 : Nat) (w : World)  : Calls Try.prog 10 #[.agg (fA 16 a0), .agg (fA 16 a1), .float .f32 a2] w (RetB w true) := by
  go_enter Try.func10, Try.ntmps10
  go_wp2_with fail
  obtain ⟨W, hW⟩ : ∃ W : World, W = ((w.alloc (.cells (fA 16 a0) 23)).alloc (.cells (fA 16 a1) 23)) := ⟨_, rfl⟩
  have hA0 : Blk W (w.heap.size) 23 (fA 16 a0) := by subst hW; exact (by first | assumption | (repeat (first | assumption | (apply Blk.new_at; (focus (simp; done)); rfl) | apply Blk.alloc | apply Blk.drewN)))
  have hA1 : Blk W (w.heap.size + 1) 23 (fA 16 a1) := by subst hW; exact (by first | assumption | (repeat (first | assumption | (apply Blk.new_at; (focus (simp; done)); rfl) | apply Blk.alloc | apply Blk.drewN)))
  have hb : Below w.heap.size w W := by subst hW; exact (by repeat (first | assumption | exact Below.refl _ _ | refine bDrew ?_ _ | refine Below.alloc ?_ (by first | omega | (simp; done) | (simp; omega)) _ | refine Below.setCell ?_ (by first | omega | (simp; done) | (simp; omega)) _ | refine bRow ?_ (by first | omega | (simp; done) | (simp; omega)) _))
  rw [← hW]
  clear hW
  refine wp_region_lr_late 9 8 (GTwo 13 (IsFC (thickForRes (fun i => canon .f32 (a0 i)) (fun i => canon .f32 (a1 i)) (canon .f32 a2)).1 (thickForRes (fun i => canon .f32 (a0 i)) (fun i => canon .f32 (a1 i)) (canon .f32 a2)).2)) (by kernel_rfl) (by kernel_rfl) (fun _ _ d _ _ h => by cases d <;> exact h) ?_
  simp only [List.take_succ_cons, List.take_zero, List.drop_succ_cons, List.drop_zero]
  (refine wpLR_plain rfl (fun K hK w1 hw1 => lrUpon_load rfl _ rfl _ _ _ _ (Blk.below hA0 hw1 hA0.lt) Try.underlying23 rfl (by kernel_rfl) (fun N => hK _ _ ?_)); clear hK K)
  (refine wpLR_plain rfl (fun K hK w1 hw1 => ?_); go_simp; refine ⟨R.refl _, (toCurve_any _ _).mono ?_, fun u hu => hK _ _ ?_⟩; (rintro e w' ⟨rfl, hb⟩; exact ⟨_, rfl, .copy _, hb⟩); clear hK K; obtain rfl := hu.copied; clear hu)
  (refine wpLR_plain rfl (fun K hK w1 hw1 => lrUpon_load rfl _ rfl _ _ _ _ (Blk.below hA1 hw1 hA1.lt) Try.underlying23 rfl (by kernel_rfl) (fun N => hK _ _ ?_)); clear hK K)
  (refine wpLR_plain rfl (fun K hK w1 hw1 => ?_); go_simp; refine ⟨R.refl _, (toCurve_any _ _).mono ?_, fun u hu => hK _ _ ?_⟩; (rintro e w' ⟨rfl, hb⟩; exact ⟨_, rfl, .copy _, hb⟩); clear hK K; obtain rfl := hu.copied; clear hu)
  (refine wpLR_plain rfl (fun K hK w1 hw1 => ?_); go_simp; refine ⟨R.refl _, hK _ _ ?_⟩; clear hK K)
  (refine wpLR_plain rfl (fun K hK w1 hw1 => ?_); go_simp; refine ⟨R.refl _, (sThicknessFor_any _ _ _ _).mono ?_, fun u hu => hK _ _ ?_⟩; (intro e w' h; obtain ⟨u, hu, hq, hb⟩ := h.is; exact ⟨u, hu, .mk (by decide) hq, hb⟩); clear hK K; obtain ⟨r0, rfl, Hr0⟩ := hu.other (by decide); clear hu)
  (refine wpLR_plain rfl (fun K hK w1 hw1 => ?_); go_simp; refine ⟨R.refl _, hK _ _ ?_⟩; clear hK K)
  (refine wpLR_plain rfl (fun K hK w1 hw1 => ?_); go_simp; refine ⟨R.refl _, hK _ _ ?_⟩; clear hK K)
  (refine wpLR_plain rfl (fun K hK w1 hw1 => ?_); go_simp; refine ⟨R.refl _, hK _ _ ?_⟩; clear hK K)
  refine wpLR_nil ?_
  intro W0 hW0 _
  have hA0 := hA0.below hW0 hA0.lt
  have hA1 := hA1.below hW0 hA1.lt
  have hb := bCall hb hW0 hb.size
  go_wp2_with fail
  refine wp_region_lr_late 9 8 (GTwo 13 (IsFC (thickForRes (fun i => canon .f32 (a0 i)) (fun i => canon .f32 (a1 i)) (canon .f32 a2)).1 (thickForRes (fun i => canon .f32 (a0 i)) (fun i => canon .f32 (a1 i)) (canon .f32 a2)).2)) (by kernel_rfl) (by kernel_rfl) (fun _ _ d _ _ h => by cases d <;> exact h) ?_
  simp only [List.take_succ_cons, List.take_zero, List.drop_succ_cons, List.drop_zero]
  (refine wpLR_plain rfl (fun K hK w1 hw1 => lrUpon_load rfl _ rfl _ _ _ _ (Blk.below hA0 hw1 hA0.lt) Try.underlying23 rfl (by kernel_rfl) (fun N => hK _ _ ?_)); clear hK K)
  (refine wpLR_plain rfl (fun K hK w1 hw1 => ?_); go_simp; refine ⟨R.refl _, (toCurve_any _ _).mono ?_, fun u hu => hK _ _ ?_⟩; (rintro e w' ⟨rfl, hb⟩; exact ⟨_, rfl, .copy _, hb⟩); clear hK K; obtain rfl := hu.copied; clear hu)
  (refine wpLR_plain rfl (fun K hK w1 hw1 => lrUpon_load rfl _ rfl _ _ _ _ (Blk.below hA1 hw1 hA1.lt) Try.underlying23 rfl (by kernel_rfl) (fun N => hK _ _ ?_)); clear hK K)
  (refine wpLR_plain rfl (fun K hK w1 hw1 => ?_); go_simp; refine ⟨R.refl _, (toCurve_any _ _).mono ?_, fun u hu => hK _ _ ?_⟩; (rintro e w' ⟨rfl, hb⟩; exact ⟨_, rfl, .copy _, hb⟩); clear hK K; obtain rfl := hu.copied; clear hu)
  (refine wpLR_plain rfl (fun K hK w1 hw1 => ?_); go_simp; refine ⟨R.refl _, hK _ _ ?_⟩; clear hK K)
  (refine wpLR_plain rfl (fun K hK w1 hw1 => ?_); go_simp; refine ⟨R.refl _, (iThicknessFor_any _ _ _ _).mono ?_, fun u hu => hK _ _ ?_⟩; (intro e w' h; obtain ⟨u, hu, hq, hb⟩ := h.is; exact ⟨u, hu, .mk (by decide) hq, hb⟩); clear hK K; obtain ⟨r1, rfl, Hr1⟩ := hu.other (by decide); clear hu)
  (refine wpLR_plain rfl (fun K hK w1 hw1 => ?_); go_simp; refine ⟨R.refl _, hK _ _ ?_⟩; clear hK K)
  (refine wpLR_plain rfl (fun K hK w1 hw1 => ?_); go_simp; refine ⟨R.refl _, hK _ _ ?_⟩; clear hK K)
  (refine wpLR_plain rfl (fun K hK w1 hw1 => ?_); go_simp; refine ⟨R.refl _, hK _ _ ?_⟩; clear hK K)
  refine wpLR_nil ?_
  intro W1 hW1 _
  have hA0 := hA0.below hW1 hA0.lt
  have hA1 := hA1.below hW1 hA1.lt
  have hb := bCall hb hW1 hb.size
  go_wp2_with fail
  refine (sameFloat_any _ _ (by rw [canon_widen, canon_widen, Hr1.out, Hr0.out]) _).mono ?_
  rintro e w5 ⟨rfl, n, rfl⟩
  go_wp2
  go_ret
  exact ⟨rfl, (by repeat (first | assumption | exact Below.refl _ _ | refine bDrew ?_ _ | refine Below.alloc ?_ (by first | omega | (simp; done) | (simp; omega)) _ | refine Below.setCell ?_ (by first | omega | (simp; done) | (simp; omega)) _ | refine bRow ?_ (by first | omega | (simp; done) | (simp; omega)) _))⟩

theorem own : ownKnob Try.prog.godebug = none := by kernel_rfl
theorem laidOut : laidOutB Try.prog = true := by kernel_rfl
set_option maxRecDepth 100000 in
theorem lifted (os : Os) (started : os.Started) (H : Type) (enc : TypeId × Value → H) :
    ReturnsInHanded {} Try.checked os 10 .any (Rows.fnExactThicknessForSpec.pre6 enc Try.prog Try.f10 Rows.fnExactThicknessForRow.domain false) (Rows.fnExactThicknessForSpec.post enc Try.prog Try.f10 false true false false) := by
  refine returnsInHanded_of_change (C := Try.checked) own started (by kernel_rfl) Try.func10
    (ChangeSpec.witness6 (enc := enc) (C := Try.checked) false ⟨#[], #[.agg (fA 16 fun _ => 0), .agg (fA 16 fun _ => 0), .float .f32 0], []⟩ 8 (by kernel_rfl) (by kernel_rfl) (by kernel_rfl) (by kernel_rfl)) ?_
  intro W base args ds gs before hval0 hW hcnd _
  have hval : ∀ (j : Nat) t v, Try.f10.params[j]? = some t → args[j]? = some v → Value.okWide Try.prog W .any base t v := hval0
  have hW' := hW
  obtain ⟨p, q, hA0, hV, rfl, hfz, hnd⟩ := hW
  have hA : DataW.TrodAll enc Try.prog W 0 (fun _ => true) true Try.f10.params.toList args.toList ds p := hA0
  rw [Try.params10] at hA hval
  obtain ⟨v0, vs0, d0, ds0, p0, q0, hargs, rfl, rfl, h0, r0⟩ := trodAll_cons hA
  obtain ⟨v1, vs1, d1, ds1, p1, q1, rfl, rfl, rfl, h1, r1⟩ := trodAll_cons r0
  obtain ⟨v2, vs2, d2, ds2, p2, q2, rfl, rfl, rfl, h2, r2⟩ := trodAll_cons r1
  obtain ⟨rfl, rfl, rfl⟩ := trodAll_nil r2
  obtain rfl : args = #[v0, v1, v2] := by cases args; simp_all
  obtain ⟨rfl, rfl⟩ := trodVars_none hV
  have k0 := h0
  have lt0 : ∀ x ∈ p0, x.block < W.heap.size := by obtain ⟨m, hm⟩ := k0; exact DataW.trod_lt m _ _ _ hm
  obtain ⟨a0, rfl⟩ := open_row (n := 16) (e := 22) (by kernel_rfl) (by kernel_rfl) Try.underlying22 (by kernel_rfl) (hval 0 23 v0 rfl rfl)
  have k1 := h1
  have lt1 : ∀ x ∈ p1, x.block < W.heap.size := by obtain ⟨m, hm⟩ := k1; exact DataW.trod_lt m _ _ _ hm
  obtain ⟨a1, rfl⟩ := open_row (n := 16) (e := 22) (by kernel_rfl) (by kernel_rfl) Try.underlying22 (by kernel_rfl) (hval 1 23 v1 rfl rfl)
  have k2 := h2
  have lt2 : ∀ x ∈ p2, x.block < W.heap.size := by obtain ⟨m, hm⟩ := k2; exact DataW.trod_lt m _ _ _ hm
  obtain ⟨a2, rfl⟩ := okWide_float Try.underlying22 (hval 2 22 v2 rfl rfl)
  clear hA0 hval0
  refine (walk a0 a1 a2 W ).mono fun e W' ⟨he, bel⟩ => ?_
  subst he
  exact ⟨_, rfl, _, _, _, [], _, [], hW', trodAll_mk1 (shut_bool Try.underlying4 _), (trodAll_cons_mk (Below.trod laidOut (by kernel_rfl) (of_decide_eq_true (by kernel_rfl)) k0 bel lt0) (trodAll_cons_mk (Below.trod laidOut (by kernel_rfl) (of_decide_eq_true (by kernel_rfl)) k1 bel lt1) (trodAll_cons_mk (Below.trod laidOut (by kernel_rfl) (of_decide_eq_true (by kernel_rfl)) k2 bel lt2) trodAll_mk0))), rfl, bel.frame _, fun h => by cases h⟩
theorem over : Rows.fnExactThicknessForRow.holds Try.pinned (OpenSpec.ofChange Rows.fnExactThicknessForSpec) :=
  OpenClaim.holds_of_wide 10 Try.f10 rfl rfl rfl rfl rfl rfl rfl ⟨rfl, rfl, rfl, rfl, rfl⟩ rfl rfl rfl rfl rfl (by kernel_rfl) Try.func10 (by kernel_rfl)
    (of_decide_eq_true (by kernel_rfl)) (by unfold Func.isWrapper; first | (rw [if_pos (by decide +kernel)]; kernel_rfl) | (rw [if_neg (by decide +kernel)]; exact ⟨rfl, rfl⟩))
    (fun os started H enc _ => lifted os started H enc)
theorem proved : Rows.FnExactThicknessForSaid := over
#print axioms proved
end Go.Proofs.Ytcmamfpcdhhboaa.fnExactThicknessFor
namespace Go.Proofs.Ytcmamfpcdhhboaa
/-- The row, under a short name, for the claim. -/
theorem fnExactThicknessFor_holds : Rows.FnExactThicknessForSaid := fnExactThicknessFor.proved
end Go.Proofs.Ytcmamfpcdhhboaa

