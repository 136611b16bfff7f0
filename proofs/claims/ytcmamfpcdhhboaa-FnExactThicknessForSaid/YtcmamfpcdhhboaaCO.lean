/- Contracts: whether a layer, a film may be one. -/
import Derived.Test.YtcmamfpcdhhboaaCL
import Derived.Test.YtcmamfpcdhhboaaCE
import Derived.Test.YtcmamfpcdhhboaaSub
namespace Go.Proofs.Ytcmamfpcdhhboaa
open Go.RowKit
set_option maxRecDepth 100000

def layerOk (a : Nat → Nat) : Bool := allTo 16 (fun i => amount (canon .f32 (rowAt a 0 i))) && allTo 16 (fun i => amount (canon .f32 (rowAt a 16 i))) && amount (canon .f32 (a 32))
/-- Not more than 1.001 in all. -/
def least (x y : Option Nat) : Bool := fle (fadd x y) (canon .f32 1065361605)
def filmOk (a : Nat → Nat) : Bool :=
  allTo 16 (fun i => share (canon .f32 (rowAt a 0 i))) && allTo 16 (fun i => share (canon .f32 (rowAt a 16 i))) && allTo 16 (fun i => share (canon .f32 (rowAt a 32 i)))
    && allTo 16 (fun i => least (canon .f32 (rowAt a 0 i)) (canon .f32 (rowAt a 32 i))) && allTo 16 (fun i => least (canon .f32 (rowAt a 16 i)) (canon .f32 (rowAt a 32 i)))

theorem datum_order_some {a b : Ieee.Datum} (ha : a.isNaN = false) (hb : b.isNaN = false) : (a.order b).isSome = true := by
  cases a <;> cases b <;> simp_all [Ieee.Datum.isNaN, Ieee.Datum.order]
theorem share_number {x : Option Nat} (h : share x = true) : ∃ b s m e, x = some b ∧ FloatKind.f32.decode b = .number s m e := by
  cases x with
  | none => cases h
  | some b =>
    cases hd : FloatKind.f32.decode b with
    | number s m e => exact ⟨b, s, m, e, rfl, hd⟩
    | infinity s =>
      exfalso
      have h0 : FloatKind.f32.decode 0 = .number false 0 (-149) := by decide
      have h1 : FloatKind.f32.decode 1065353216 = .number false 8388608 (-23) := by decide
      have k0 : cord .f32 (some b) (canon .f32 0) = (FloatKind.f32.decode b).order (FloatKind.f32.decode 0) := rfl
      have k1 : cord .f32 (some b) (canon .f32 1065353216) = (FloatKind.f32.decode b).order (FloatKind.f32.decode 1065353216) := rfl
      rw [hd, h0] at k0
      rw [hd, h1] at k1
      unfold share fge fle at h
      rw [k0, k1] at h
      cases s <;> simp [Ieee.Datum.order] at h
    | nan s t =>
      exfalso
      have k0 : cord .f32 (some b) (canon .f32 0) = (FloatKind.f32.decode b).order (FloatKind.f32.decode 0) := rfl
      rw [hd] at k0
      unfold share fge at h
      rw [k0] at h
      simp [Ieee.Datum.order] at h
theorem share_sum {x y : Option Nat} (hx : share x = true) (hy : share y = true) : ∃ r, fadd x y = some r ∧ (FloatKind.f32.decode r).isNaN = false := by
  obtain ⟨a, s, m, e, rfl, ha⟩ := share_number hx
  obtain ⟨b, s', m', e', rfl, hb⟩ := share_number hy
  have h1 : fadd (some a) (some b) = Option.map FloatKind.f32.format.write ((FloatKind.f32.decode a).sum (FloatKind.f32.decode b)) := rfl
  cases hs : (FloatKind.f32.decode a).sum (FloatKind.f32.decode b) with
  | none => rw [ha, hb] at hs; simp [Ieee.Datum.sum] at hs
  | some d =>
    rw [hs] at h1
    exact ⟨_, h1, write_notNaN _ (binade_le .f32) d (sum_notNaN hs).1⟩
theorem share_gt {x y : Option Nat} (hx : share x = true) (hy : share y = true) : fgt (fadd x y) (canon .f32 1065361605) = !least x y := by
  obtain ⟨r, hr, hn⟩ := share_sum hx hy
  unfold least
  rw [hr]
  have h := datum_order_some hn (show (FloatKind.f32.decode 1065361605).isNaN = false by decide)
  have k : cord .f32 (some r) (canon .f32 1065361605) = (FloatKind.f32.decode r).order (FloatKind.f32.decode 1065361605) := rfl
  unfold fgt fle
  rw [k]
  obtain ⟨o, ho⟩ := Option.isSome_iff_exists.1 h
  rw [ho]
  cases o <;> rfl

theorem iValidLayer_any (a : Nat → Nat) (w : World) : Calls Try.prog 62 #[.agg (fA 33 a)] w (RetB w (layerOk a)) := by
  have hA : Blk (w.alloc (.cells (fA 33 a) 47)) w.heap.size 47 (fA 33 a) := Blk.new _ _ _
  have hb : Below w.heap.size w (w.alloc (.cells (fA 33 a) 47)) := (by repeat (first | assumption | exact Below.refl _ _ | refine bDrew ?_ _ | refine Below.alloc ?_ (by first | omega | (simp; done) | (simp; omega)) _ | refine Below.setCell ?_ (by first | omega | (simp; done) | (simp; omega)) _ | refine bRow ?_ (by first | omega | (simp; done) | (simp; omega)) _))
  go_enter Try.func62, Try.ntmps62
  go_wp2_with (refine wpList_load_part rfl 26 _ rfl 0 16 hA rfl (by decide) Try.underlying26 rfl (by kernel_rfl) ?_)
  refine (all_any 50 amount (rowAt a 0) (w.alloc (.cells (fA 33 a) 47)) (fun _ _ => by kernel_rfl) isAmount_any).mono ?_
  rintro e w1 ⟨rfl, hb1⟩
  have hA := hA.below hb1 hA.lt
  have hb := bCall hb hb1 hb.size
  clear hb1
  cases h0 : (allTo 16 fun i => amount (canon .f32 (rowAt a 0 i))) with
  | false =>
    have H0 := Lib.hid h0
    clear h0
    go_wp2
    go_ret
    exact ⟨congrArg (fun x => Ending.returned (Value.bool x)) (by have h := H0.out; simp only [layerOk, h, Bool.false_and]), hb⟩
  | true =>
    have H0 := Lib.hid h0
    clear h0
    go_wp2_with (refine wpList_load_partW rfl 26 _ rfl 16 16 hA rfl (by decide) Try.underlying26 rfl (by kernel_rfl) ?_)
    refine (all_any 50 amount (rowAt a 16) w1 (fun _ _ => by kernel_rfl) isAmount_any).mono ?_
    rintro e w2 ⟨rfl, hb1⟩
    have hA := hA.below hb1 hA.lt
    have hb := bCall hb hb1 hb.size
    clear hb1
    cases h1 : (allTo 16 fun i => amount (canon .f32 (rowAt a 16 i))) with
    | false =>
      have H1 := Lib.hid h1
      clear h1
      go_wp2
      go_ret
      exact ⟨congrArg (fun x => Ending.returned (Value.bool x)) (by have h := H1.out; simp only [layerOk, h, Bool.and_false, Bool.false_and]), hb⟩
    | true =>
      have H1 := Lib.hid h1
      clear h1
      have c1 := (hA.cell 32).trans (get_fA_lt a (by omega))
      go_wp2_with fail
      refine (isAmount_any (a 32) w2).mono ?_
      rintro e w3 ⟨rfl, hb1⟩
      have hb := bCall hb hb1 hb.size
      clear hb1
      go_wp2
      go_ret
      exact ⟨congrArg (fun x => Ending.returned (Value.bool x)) (by have h := H0.out; have h' := H1.out; simp only [layerOk, h, h', Bool.true_and]), hb⟩
theorem l02Ok_any (g : Nat) (T : TypeId) (a : Nat → Nat) (w : World) (hA : Blk w g T (fA 33 a)) : Calls Try.prog 55 #[.pointer (some ⟨g, 0, none⟩)] w (RetB w (layerOk a)) := by
  go_enter Try.func55, Try.ntmps55
  go_wp2_with (refine wpList_load_part rfl 26 _ rfl 0 16 hA rfl (by decide) Try.underlying26 rfl (by kernel_rfl) ?_)
  refine (l02Amounts_any (rowAt a 0) w).mono ?_
  rintro e w1 ⟨rfl, hb⟩
  have hA := hA.below hb hA.lt
  cases h0 : (allTo 16 fun i => amount (canon .f32 (rowAt a 0 i))) with
  | false =>
    have H0 := Lib.hid h0
    clear h0
    go_wp2
    go_ret
    exact ⟨congrArg (fun x => Ending.returned (Value.bool x)) (by have h := H0.out; simp only [layerOk, h, Bool.false_and]), hb⟩
  | true =>
    have H0 := Lib.hid h0
    clear h0
    go_wp2_with (refine wpList_load_partW rfl 26 _ rfl 16 16 hA rfl (by decide) Try.underlying26 rfl (by kernel_rfl) ?_)
    refine (l02Amounts_any (rowAt a 16) w1).mono ?_
    rintro e w2 ⟨rfl, hb1⟩
    have hA := hA.below hb1 hA.lt
    have hb := bCall hb hb1 hb.size
    clear hb1
    cases h1 : (allTo 16 fun i => amount (canon .f32 (rowAt a 16 i))) with
    | false =>
      have H1 := Lib.hid h1
      clear h1
      go_wp2
      go_ret
      exact ⟨congrArg (fun x => Ending.returned (Value.bool x)) (by have h := H1.out; simp only [layerOk, h, Bool.and_false, Bool.false_and]), hb⟩
    | true =>
      have H1 := Lib.hid h1
      clear h1
      have c1 := (hA.cell 32).trans (get_fA_lt a (by omega))
      go_wp2_with fail
      refine (l02Amount_any (a 32) w2).mono ?_
      rintro e w3 ⟨rfl, n, rfl⟩
      go_wp2
      go_ret
      exact ⟨congrArg (fun x => Ending.returned (Value.bool x)) (by have h := H0.out; have h' := H1.out; simp only [layerOk, h, h', Bool.true_and]), (by repeat (first | assumption | exact Below.refl _ _ | refine bDrew ?_ _ | refine Below.alloc ?_ (by first | omega | (simp; done) | (simp; omega)) _ | refine Below.setCell ?_ (by first | omega | (simp; done) | (simp; omega)) _ | refine bRow ?_ (by first | omega | (simp; done) | (simp; omega)) _))⟩
theorem isLessOne_any (x : Nat) (w : World) : Calls Try.prog 99 #[.float .f32 x] w (RetBq w (fle (canon .f32 x) (canon .f32 1065361605))) := by
  go_enter Try.func99, Try.ntmps99
  go_wp2
  go_ret
  exact ⟨congrArg (fun x => Ending.returned (Value.bool x)) (o_le _ _), 0, rfl⟩
theorem isLess_any (c d : Nat → Nat) (w : World) : Calls Try.prog 75 #[.agg (fA 16 c), .agg (fA 16 d)] w (RetB w (allTo 16 fun i => least (canon .f32 (c i)) (canon .f32 (d i)))) := by
  have hA : Blk ((w.alloc (.cells (fA 16 c) 26)).alloc (.cells (fA 16 d) 26)) w.heap.size 26 (fA 16 c) := (Blk.new _ _ _).alloc _
  have hB : Blk ((w.alloc (.cells (fA 16 c) 26)).alloc (.cells (fA 16 d) 26)) (w.heap.size + 1) 26 (fA 16 d) := Blk.new_at _ _ (by simp) rfl
  have hb : Below w.heap.size w ((w.alloc (.cells (fA 16 c) 26)).alloc (.cells (fA 16 d) 26)) := (by repeat (first | assumption | exact Below.refl _ _ | refine bDrew ?_ _ | refine Below.alloc ?_ (by first | omega | (simp; done) | (simp; omega)) _ | refine Below.setCell ?_ (by first | omega | (simp; done) | (simp; omega)) _ | refine bRow ?_ (by first | omega | (simp; done) | (simp; omega)) _))
  go_enter Try.func75, Try.ntmps75
  go_wp2_with (first | (refine wpList_load_row rfl 26 _ rfl _ rfl _ _ (0, 0) _ hA Try.underlying26 rfl (by kernel_rfl) ?_) | (refine wpList_load_row rfl 26 _ rfl _ rfl _ _ (0, 0) _ hB Try.underlying26 rfl (by kernel_rfl) ?_))
  refine (iAddCurves_any c d _).mono ?_
  rintro e w1 ⟨r, rfl, hr, hb1⟩
  have hb := bCall hb hb1 hb.size
  have Hr := Lib.hid hr
  clear hr hb1
  go_wp2_with fail
  refine (all_any 99 (fun x => fle x (canon .f32 1065361605)) r w1 (fun _ _ => by kernel_rfl) (fun x w1 => (isLessOne_any x w1).mono fun _ _ h => h.to)).mono ?_
  rintro e w2 ⟨rfl, hb1⟩
  go_wp2
  go_ret
  exact ⟨congrArg (fun x => Ending.returned (Value.bool x)) (allTo_congr fun i hi => by rw [Hr.out i hi]; rfl), bCall hb hb1 hb.size⟩
set_option maxHeartbeats 1000000 in
theorem iValidFilm_any (a : Nat → Nat) (w : World) : Calls Try.prog 38 #[.agg (fA 48 a)] w (RetB w (filmOk a)) := by
  have hA : Blk (w.alloc (.cells (fA 48 a) 30)) w.heap.size 30 (fA 48 a) := Blk.new _ _ _
  have hb : Below w.heap.size w (w.alloc (.cells (fA 48 a) 30)) := (by repeat (first | assumption | exact Below.refl _ _ | refine bDrew ?_ _ | refine Below.alloc ?_ (by first | omega | (simp; done) | (simp; omega)) _ | refine Below.setCell ?_ (by first | omega | (simp; done) | (simp; omega)) _ | refine bRow ?_ (by first | omega | (simp; done) | (simp; omega)) _))
  go_enter Try.func38, Try.ntmps38
  go_wp2_with (first | (refine wpList_load_part rfl 26 _ rfl 0 16 hA rfl (by decide) Try.underlying26 rfl (by kernel_rfl) ?_))
  refine (all_any 45 share (rowAt a 0) (w.alloc (.cells (fA 48 a) 30)) (fun _ _ => by kernel_rfl) (fun x w1 => (isShare_any x w1).mono fun _ _ h => h.to)).mono ?_
  rintro e w1 ⟨rfl, hb1⟩
  have hA := hA.below hb1 hA.lt
  have hb := bCall hb hb1 hb.size
  clear hb1
  cases h0 : (allTo 16 fun i => share (canon .f32 (rowAt a 0 i))) with
  | false =>
    have H0 := Lib.hid h0
    clear h0
    go_wp2
    go_ret
    exact ⟨congrArg (fun x => Ending.returned (Value.bool x)) (by have h := H0.out; simp [filmOk, h]), hb⟩
  | true =>
    have H0 := Lib.hid h0
    clear h0
    go_wp2_with (first | (refine wpList_load_partW rfl 26 _ rfl 16 16 hA rfl (by decide) Try.underlying26 rfl (by kernel_rfl) ?_))
    refine (all_any 45 share (rowAt a 16) w1 (fun _ _ => by kernel_rfl) (fun x w1 => (isShare_any x w1).mono fun _ _ h => h.to)).mono ?_
    rintro e w2 ⟨rfl, hb1⟩
    have hA := hA.below hb1 hA.lt
    have hb := bCall hb hb1 hb.size
    clear hb1
    cases h1 : (allTo 16 fun i => share (canon .f32 (rowAt a 16 i))) with
    | false =>
      have H1 := Lib.hid h1
      clear h1
      go_wp2
      go_ret
      exact ⟨congrArg (fun x => Ending.returned (Value.bool x)) (by have h := H1.out; simp [filmOk, h]), hb⟩
    | true =>
      have H1 := Lib.hid h1
      clear h1
      go_wp2_with (first | (refine wpList_load_partW rfl 26 _ rfl 32 16 hA rfl (by decide) Try.underlying26 rfl (by kernel_rfl) ?_))
      refine (all_any 45 share (rowAt a 32) w2 (fun _ _ => by kernel_rfl) (fun x w1 => (isShare_any x w1).mono fun _ _ h => h.to)).mono ?_
      rintro e w3 ⟨rfl, hb1⟩
      have hA := hA.below hb1 hA.lt
      have hb := bCall hb hb1 hb.size
      clear hb1
      cases h2 : (allTo 16 fun i => share (canon .f32 (rowAt a 32 i))) with
      | false =>
        have H2 := Lib.hid h2
        clear h2
        go_wp2
        go_ret
        exact ⟨congrArg (fun x => Ending.returned (Value.bool x)) (by have h := H2.out; simp [filmOk, h]), hb⟩
      | true =>
        have H2 := Lib.hid h2
        clear h2
        go_wp2_with (first | (refine wpList_load_partW rfl 26 _ rfl 0 16 hA rfl (by decide) Try.underlying26 rfl (by kernel_rfl) ?_) | (refine wpList_load_partW rfl 26 _ rfl 32 16 hA rfl (by decide) Try.underlying26 rfl (by kernel_rfl) ?_))
        refine (isLess_any (rowAt a 0) (rowAt a 32) w3).mono ?_
        rintro e w4 ⟨rfl, hb1⟩
        have hA := hA.below hb1 hA.lt
        have hb := bCall hb hb1 hb.size
        clear hb1
        cases h3 : (allTo 16 fun i => least (canon .f32 (rowAt a 0 i)) (canon .f32 (rowAt a 32 i))) with
        | false =>
          have H3 := Lib.hid h3
          clear h3
          go_wp2
          go_ret
          exact ⟨congrArg (fun x => Ending.returned (Value.bool x)) (by have h := H3.out; simp [filmOk, h]), hb⟩
        | true =>
          have H3 := Lib.hid h3
          clear h3
          go_wp2_with (first | (refine wpList_load_partW rfl 26 _ rfl 16 16 hA rfl (by decide) Try.underlying26 rfl (by kernel_rfl) ?_) | (refine wpList_load_partW rfl 26 _ rfl 32 16 hA rfl (by decide) Try.underlying26 rfl (by kernel_rfl) ?_))
          refine (isLess_any (rowAt a 16) (rowAt a 32) w4).mono ?_
          rintro e w5 ⟨rfl, hb1⟩
          have hb := bCall hb hb1 hb.size
          clear hb1
          go_wp2
          go_ret
          exact ⟨congrArg (fun x => Ending.returned (Value.bool x)) (by have h0 := H0.out; have h1 := H1.out; have h2 := H2.out; have h3 := H3.out; simp only [filmOk, h0, h1, h2, h3, Bool.true_and]), hb⟩
end Go.Proofs.Ytcmamfpcdhhboaa
