/- Contracts: ratios of what is reflected, and back. -/
import Derived.Test.YtmikeegecifbfaaCT
import Derived.Test.YtmikeegecifbfaaCX
namespace Go.Proofs.Ytmikeegecifbfaa
open Go.RowKit
set_option maxRecDepth 100000

/-- What a function of one number may give, by its number; of two. -/
def GM (o2 : Option Nat → Option Nat → Option Nat) (o1 : FuncId → Option Nat → Option Nat) (f : FuncId) (args : Array Value) (u : Value) : Prop :=
  (∃ p q r, args = #[.float .f32 p, .float .f32 q] ∧ u = .float .f32 r ∧ canon .f32 r = o2 (canon .f32 p) (canon .f32 q)) ∨ (∃ p r, args = #[.float .f32 p] ∧ u = .float .f32 r ∧ canon .f32 r = o1 f (canon .f32 p))
section
variable {o2 : Option Nat → Option Nat → Option Nat} {o1 : FuncId → Option Nat → Option Nat} {f : FuncId}
theorem GM.mk2 {p q r : Nat} (h : canon .f32 r = o2 (canon .f32 p) (canon .f32 q)) : GM o2 o1 f #[.float .f32 p, .float .f32 q] (.float .f32 r) := .inl ⟨p, q, r, rfl, rfl, h⟩
theorem GM.mk1 {p r : Nat} (h : canon .f32 r = o1 f (canon .f32 p)) : GM o2 o1 f #[.float .f32 p] (.float .f32 r) := .inr ⟨p, r, rfl, rfl, h⟩
theorem GM.inv2 {p q : Nat} {u : Value} (h : GM o2 o1 f #[.float .f32 p, .float .f32 q] u) : ∃ r, u = .float .f32 r ∧ Hid (canon .f32 r = o2 (canon .f32 p) (canon .f32 q)) := by
  rcases h with ⟨p', q', r, ha, hu, hr⟩ | ⟨p', r, ha, _⟩
  · simp only [Array.mk.injEq, List.cons.injEq, Value.float.injEq, true_and, and_true] at ha
    obtain ⟨rfl, rfl⟩ := ha
    exact ⟨r, hu, hr⟩
  · simp at ha
theorem GM.inv1 {p : Nat} {u : Value} (h : GM o2 o1 f #[.float .f32 p] u) : ∃ r, u = .float .f32 r ∧ Hid (canon .f32 r = o1 f (canon .f32 p)) := by
  rcases h with ⟨p', q', r, ha, _⟩ | ⟨p', r, ha, hu, hr⟩
  · simp at ha
  · simp only [Array.mk.injEq, List.cons.injEq, Value.float.injEq, true_and, and_true] at ha
    subst ha
    exact ⟨r, hu, hr⟩
end

def two : Option Nat := canon .f32 1073741824
def reflectAt (q : Option Nat) : Option Nat := fdiv (canon .f32 1065353216) (fadd (fadd (canon .f32 1065353216) q) (froot (fadd (fmul q q) (fmul two q))))
def ofRatioRes (c : Nat → Option Nat) : (Nat → Option Nat) × Int := if (allTo 16 fun i => amount (c i)) then finRes (fun i => reflectAt (c i)) else (fun _ => canon .f32 0, 2)
def unratio (a : Option Nat) : Option Nat := fdiv (fmul (fsub (canon .f32 1065353216) a) (fsub (canon .f32 1065353216) a)) (fmul two a)
def lit (x : Option Nat) : Bool := fgt x (canon .f32 0) && fle x (canon .f32 1065353216)
def ratioOfRes (c : Nat → Option Nat) : (Nat → Option Nat) × Int := if (allTo 16 fun i => lit (c i)) then finRes (fun i => unratio (c i)) else (fun _ => canon .f32 0, 2)

theorem ofRatio_any (q : Nat) (w : World) : Calls Try.prog 38 #[.float .f32 q] w (RetFq w (reflectAt (canon .f32 q))) := by
  go_enter Try.func38, Try.ntmps38
  go_wp2_with fail
  refine (mul_any _ _ _).mono ?_
  rintro e w1 ⟨r1, rfl, hr1, n1, rfl⟩
  have H1 := Lib.hid hr1
  clear hr1
  go_wp2_with fail
  refine (mul_any _ _ _).mono ?_
  rintro e w1 ⟨r2, rfl, hr2, n2, rfl⟩
  have H2 := Lib.hid hr2
  clear hr2
  go_wp2_with fail
  refine (root_any _ _).mono ?_
  rintro e w1 ⟨r3, rfl, hr3, n3, rfl⟩
  have H3 := Lib.hid hr3
  clear hr3
  go_wp2
  go_ret
  exact ⟨_, rfl, by rw [c_div, c_add, c_add, H3.out, c_add, H1.out, H2.out]; rfl, _, rfl⟩
theorem l02Reflects_any (q : Nat) (w : World) : Calls Try.prog 66 #[.float .f32 q] w (RetFq w (reflectAt (canon .f32 q))) := by
  go_enter Try.func66, Try.ntmps66
  go_wp2_with fail
  refine (l01Root_any _ _).mono ?_
  rintro e w1 ⟨r3, rfl, hr3, n3, rfl⟩
  have H3 := Lib.hid hr3
  clear hr3
  go_wp2
  go_ret
  exact ⟨_, rfl, by rw [c_div, c_add, c_add, H3.out, c_add, c_mul, c_mul]; rfl, _, rfl⟩
theorem iOfRatio_any (c : Nat → Nat) (w : World) : Calls Try.prog 10 #[.agg (fA 16 c)] w (RetCC 16 w (ofRatioRes fun i => canon .f32 (c i)).1 (ofRatioRes fun i => canon .f32 (c i)).2) := by
  have hA : Blk ((w.alloc (.cells (fA 16 c) 26)).alloc (.cells (fA 16 fun _ => 0) 26)) w.heap.size 26 (fA 16 c) := (Blk.new _ _ _).alloc _
  have hZ : Blk ((w.alloc (.cells (fA 16 c) 26)).alloc (.cells (fA 16 fun _ => 0) 26)) (w.heap.size + 1) 26 (fA 16 fun _ => 0) := Blk.new_at _ _ (by simp) rfl
  have hb : Below w.heap.size w ((w.alloc (.cells (fA 16 c) 26)).alloc (.cells (fA 16 fun _ => 0) 26)) := (by repeat (first | assumption | exact Below.refl _ _ | refine bDrew ?_ _ | refine Below.alloc ?_ (by first | omega | (simp; done) | (simp; omega)) _ | refine Below.setCell ?_ (by first | omega | (simp; done) | (simp; omega)) _ | refine bRow ?_ (by first | omega | (simp; done) | (simp; omega)) _))
  go_enter Try.func10, Try.ntmps10
  go_wp2_with (refine wpList_load_row rfl 26 _ rfl _ rfl _ _ (0, 0) _ hA Try.underlying26 rfl (by kernel_rfl) ?_)
  refine (all_any 35 amount c ((w.alloc (.cells (fA 16 c) 26)).alloc (.cells (fA 16 fun _ => 0) 26)) (fun _ _ => by kernel_rfl) isAmount_any).mono ?_
  rintro e w1 ⟨rfl, hb1⟩
  have hA := hA.below hb1 hA.lt
  have hZ := hZ.below hb1 hZ.lt
  have hb := bCall hb hb1 hb.size; clear hb1
  cases h0 : (allTo 16 fun i => amount (canon .f32 (c i))) with
  | false =>
    have Hm : Hid ((ofRatioRes fun i => canon .f32 (c i)) = (fun _ => canon .f32 0, 2)) := Lib.hid (by unfold ofRatioRes; rw [h0]; rfl)
    clear h0
    go_wp2_with (first | (refine wpList_build_as rfl 26 _ rfl (fA 16 fun _ => 0) (by kernel_rfl) ?_) | (refine wpList_store_row rfl 26 _ _ rfl _ _ rfl rfl _ _ hZ (by kernel_rfl) (by simp only [size_fA]) (all_fA _ _) ?_)); exact bodyPost_ret (results_cell_row2 rfl _ _ (w.heap.size + 1) _ _ _ _ rfl hZ.setRow Try.underlying26 rfl (by kernel_rfl)) rfl (RetCC.as Hm.out ⟨_, rfl, fun _ _ => rfl, (by repeat (first | assumption | exact Below.refl _ _ | refine bDrew ?_ _ | refine Below.alloc ?_ (by first | omega | (simp; done) | (simp; omega)) _ | refine Below.setCell ?_ (by first | omega | (simp; done) | (simp; omega)) _ | refine bRow ?_ (by first | omega | (simp; done) | (simp; omega)) _))⟩)
  | true =>
    have Hm : Hid ((ofRatioRes fun i => canon .f32 (c i)) = ((finRes fun i => reflectAt (canon .f32 (c i))).1, (finRes fun i => reflectAt (canon .f32 (c i))).2)) := Lib.hid (by unfold ofRatioRes; rw [h0]; rfl)
    clear h0
    go_wp2_with (refine wpList_load_row rfl 26 _ rfl _ rfl _ _ (0, 0) _ hA Try.underlying26 rfl (by kernel_rfl) ?_)
    refine (each_any 38 #[] reflectAt c w1 (fun _ _ => by kernel_rfl) (fun x w1 _ => (ofRatio_any x w1).mono fun _ _ h => h.to)).mono ?_
    rintro e w3 ⟨r, rfl, hr, hb1⟩
    have hZ := hZ.below hb1 hZ.lt
    have hb := bCall hb hb1 hb.size
    have Hr := Lib.hid hr
    clear hr hb1
    go_wp2_with fail
    refine (finiteCurve_any r w3).mono ?_
    rintro e w4 ⟨q, rfl, hq, hb1⟩
    have hZ := hZ.below hb1 hZ.lt
    have hb := bCall hb hb1 hb.size
    have Hq := Lib.hid hq
    clear hq hb1
    go_wp2_with (refine wpList_store_row rfl 26 _ _ rfl _ _ rfl rfl _ _ hZ (by kernel_rfl) (by simp only [size_fA]) (all_fA _ _) ?_)
    exact bodyPost_ret (results_cell_row2 rfl _ _ (w.heap.size + 1) _ _ _ _ rfl hZ.setRow Try.underlying26 rfl (by kernel_rfl)) rfl (RetCC.as Hm.out (finRes_congr Hr.out ⟨q, rfl, Hq.out, (by repeat (first | assumption | exact Below.refl _ _ | refine bDrew ?_ _ | refine Below.alloc ?_ (by first | omega | (simp; done) | (simp; omega)) _ | refine Below.setCell ?_ (by first | omega | (simp; done) | (simp; omega)) _ | refine bRow ?_ (by first | omega | (simp; done) | (simp; omega)) _))⟩))
theorem litOne_any (a : Nat) (w : World) : Calls Try.prog 41 #[.float .f32 a] w (RetB w (lit (canon .f32 a))) := by
  cases h0 : (FloatKind.f32.format.order a 0 == some .gt) with
  | false =>
    have H0 := Lib.hid h0
    go_enter Try.func41, Try.ntmps41
    go_wp2
    go_ret
    exact ⟨congrArg (fun x => Ending.returned (Value.bool x)) (by have h := H0.out; rw [o_gt] at h; simp [lit, h]), Below.refl _ _⟩
  | true =>
    have H0 := Lib.hid h0
    go_enter Try.func41, Try.ntmps41
    go_wp2
    go_ret
    exact ⟨congrArg (fun x => Ending.returned (Value.bool x)) (by have h := H0.out; rw [o_gt] at h; simp only [lit, h, Bool.true_and]; exact o_le _ _), Below.refl _ _⟩
theorem unratioOne_any (q : Nat) (w : World) : Calls Try.prog 42 #[.float .f32 q] w (RetFq w (unratio (canon .f32 q))) := by
  go_enter Try.func42, Try.ntmps42
  go_wp2_with fail
  refine (mul_any _ _ _).mono ?_
  rintro e w1 ⟨r1, rfl, hr1, n1, rfl⟩
  have H1 := Lib.hid hr1
  clear hr1
  go_wp2_with fail
  refine (mul_any _ _ _).mono ?_
  rintro e w1 ⟨r2, rfl, hr2, n2, rfl⟩
  have H2 := Lib.hid hr2
  clear hr2
  go_wp2
  go_ret
  exact ⟨_, rfl, by rw [c_div, H1.out, H2.out, c_sub, c_sub]; rfl, _, rfl⟩
theorem iRatioOf_any (c : Nat → Nat) (w : World) : Calls Try.prog 13 #[.agg (fA 16 c)] w (RetCC 16 w (ratioOfRes fun i => canon .f32 (c i)).1 (ratioOfRes fun i => canon .f32 (c i)).2) := by
  have hA : Blk ((w.alloc (.cells (fA 16 c) 26)).alloc (.cells (fA 16 fun _ => 0) 26)) w.heap.size 26 (fA 16 c) := (Blk.new _ _ _).alloc _
  have hZ : Blk ((w.alloc (.cells (fA 16 c) 26)).alloc (.cells (fA 16 fun _ => 0) 26)) (w.heap.size + 1) 26 (fA 16 fun _ => 0) := Blk.new_at _ _ (by simp) rfl
  have hb : Below w.heap.size w ((w.alloc (.cells (fA 16 c) 26)).alloc (.cells (fA 16 fun _ => 0) 26)) := (by repeat (first | assumption | exact Below.refl _ _ | refine bDrew ?_ _ | refine Below.alloc ?_ (by first | omega | (simp; done) | (simp; omega)) _ | refine Below.setCell ?_ (by first | omega | (simp; done) | (simp; omega)) _ | refine bRow ?_ (by first | omega | (simp; done) | (simp; omega)) _))
  go_enter Try.func13, Try.ntmps13
  go_wp2_with (refine wpList_load_row rfl 26 _ rfl _ rfl _ _ (0, 0) _ hA Try.underlying26 rfl (by kernel_rfl) ?_)
  refine (all_any 41 lit c ((w.alloc (.cells (fA 16 c) 26)).alloc (.cells (fA 16 fun _ => 0) 26)) (fun _ _ => by kernel_rfl) litOne_any).mono ?_
  rintro e w1 ⟨rfl, hb1⟩
  have hA := hA.below hb1 hA.lt
  have hZ := hZ.below hb1 hZ.lt
  have hb := bCall hb hb1 hb.size; clear hb1
  cases h0 : (allTo 16 fun i => lit (canon .f32 (c i))) with
  | false =>
    have Hm : Hid ((ratioOfRes fun i => canon .f32 (c i)) = (fun _ => canon .f32 0, 2)) := Lib.hid (by unfold ratioOfRes; rw [h0]; rfl)
    clear h0
    go_wp2_with (first | (refine wpList_build_as rfl 26 _ rfl (fA 16 fun _ => 0) (by kernel_rfl) ?_) | (refine wpList_store_row rfl 26 _ _ rfl _ _ rfl rfl _ _ hZ (by kernel_rfl) (by simp only [size_fA]) (all_fA _ _) ?_)); exact bodyPost_ret (results_cell_row2 rfl _ _ (w.heap.size + 1) _ _ _ _ rfl hZ.setRow Try.underlying26 rfl (by kernel_rfl)) rfl (RetCC.as Hm.out ⟨_, rfl, fun _ _ => rfl, (by repeat (first | assumption | exact Below.refl _ _ | refine bDrew ?_ _ | refine Below.alloc ?_ (by first | omega | (simp; done) | (simp; omega)) _ | refine Below.setCell ?_ (by first | omega | (simp; done) | (simp; omega)) _ | refine bRow ?_ (by first | omega | (simp; done) | (simp; omega)) _))⟩)
  | true =>
    have Hm : Hid ((ratioOfRes fun i => canon .f32 (c i)) = ((finRes fun i => unratio (canon .f32 (c i))).1, (finRes fun i => unratio (canon .f32 (c i))).2)) := Lib.hid (by unfold ratioOfRes; rw [h0]; rfl)
    clear h0
    go_wp2_with (refine wpList_load_row rfl 26 _ rfl _ rfl _ _ (0, 0) _ hA Try.underlying26 rfl (by kernel_rfl) ?_)
    refine (each_any 42 #[] unratio c w1 (fun _ _ => by kernel_rfl) (fun x w1 _ => (unratioOne_any x w1).mono fun _ _ h => h.to)).mono ?_
    rintro e w3 ⟨r, rfl, hr, hb1⟩
    have hZ := hZ.below hb1 hZ.lt
    have hb := bCall hb hb1 hb.size
    have Hr := Lib.hid hr
    clear hr hb1
    go_wp2_with fail
    refine (finiteCurve_any r w3).mono ?_
    rintro e w4 ⟨q, rfl, hq, hb1⟩
    have hZ := hZ.below hb1 hZ.lt
    have hb := bCall hb hb1 hb.size
    have Hq := Lib.hid hq
    clear hq hb1
    go_wp2_with (refine wpList_store_row rfl 26 _ _ rfl _ _ rfl rfl _ _ hZ (by kernel_rfl) (by simp only [size_fA]) (all_fA _ _) ?_)
    exact bodyPost_ret (results_cell_row2 rfl _ _ (w.heap.size + 1) _ _ _ _ rfl hZ.setRow Try.underlying26 rfl (by kernel_rfl)) rfl (RetCC.as Hm.out (finRes_congr Hr.out ⟨q, rfl, Hq.out, (by repeat (first | assumption | exact Below.refl _ _ | refine bDrew ?_ _ | refine Below.alloc ?_ (by first | omega | (simp; done) | (simp; omega)) _ | refine Below.setCell ?_ (by first | omega | (simp; done) | (simp; omega)) _ | refine bRow ?_ (by first | omega | (simp; done) | (simp; omega)) _))⟩))
end Go.Proofs.Ytmikeegecifbfaa
