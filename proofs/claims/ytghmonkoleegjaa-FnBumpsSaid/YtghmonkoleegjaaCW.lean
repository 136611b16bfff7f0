/- Contracts: bumps that may be refused. -/
import Derived.Test.YtghmonkoleegjaaCV
namespace Go.Proofs.Ytghmonkoleegjaa
open Go.RowKit
set_option maxRecDepth 100000

def bumpOk (p q : Option Nat) : Bool := fin p && fin q && fgt q (canon .f32 0)
def bumpRes (p q : Option Nat) : (Nat → Option Nat) × Int := if bumpOk p q then (fun i => bumpAt p q i, 0) else (fun _ => canon .f32 0, 2)

theorem sBump_any (p q : Nat) (w : World) : Calls Try.prog 22 #[.float .f32 p, .float .f32 q] w (RetCC 16 w (bumpRes (canon .f32 p) (canon .f32 q)).1 (bumpRes (canon .f32 p) (canon .f32 q)).2) := by
  have hZ : Blk (w.alloc (.cells (fA 16 fun _ => 0) 26)) w.heap.size 26 (fA 16 fun _ => 0) := Blk.new _ _ _
  have hb : Below w.heap.size w (w.alloc (.cells (fA 16 fun _ => 0) 26)) := (by repeat (first | assumption | exact Below.refl _ _ | refine bDrew ?_ _ | refine Below.alloc ?_ (by first | omega | (simp; done) | (simp; omega)) _ | refine Below.setCell ?_ (by first | omega | (simp; done) | (simp; omega)) _ | refine bRow ?_ (by first | omega | (simp; done) | (simp; omega)) _))
  go_enter Try.func22, Try.ntmps22
  go_wp2_with fail
  refine (l01Finite_any p _).mono ?_
  rintro e w1 ⟨rfl, n, rfl⟩
  have hZ := Blk.drewN hZ n
  have hb := bDrew hb n
  cases h0 : fin (canon .f32 p) with
  | false =>
    have Hm : Hid ((bumpRes (canon .f32 p) (canon .f32 q)) = (fun _ => canon .f32 0, 2)) := Lib.hid (by unfold bumpRes bumpOk; rw [h0]; rfl)
    clear h0
    go_wp2_with (first | (refine wpList_build_as rfl 26 _ rfl (fA 16 fun _ => 0) (by kernel_rfl) ?_) | (refine wpList_store_row rfl 26 _ _ rfl _ _ rfl rfl _ _ hZ (by kernel_rfl) (by simp only [size_fA]) (all_fA _ _) ?_))
    exact bodyPost_ret (results_cell_row2 rfl _ _ w.heap.size _ _ _ _ rfl hZ.setRow Try.underlying26 rfl (by kernel_rfl)) rfl (RetCC.as Hm.out ⟨_, rfl, fun _ _ => rfl, (by repeat (first | assumption | exact Below.refl _ _ | refine bDrew ?_ _ | refine Below.alloc ?_ (by first | omega | (simp; done) | (simp; omega)) _ | refine Below.setCell ?_ (by first | omega | (simp; done) | (simp; omega)) _ | refine bRow ?_ (by first | omega | (simp; done) | (simp; omega)) _))⟩)
  | true =>
    have H0 := Lib.hid h0
    clear h0
    go_wp2_with fail
    refine (l01Finite_any q _).mono ?_
    rintro e w1 ⟨rfl, m, rfl⟩
    have hZ := Blk.drewN hZ m
    have hb := bDrew hb m
    cases h1 : fin (canon .f32 q) with
    | false =>
      have Hm : Hid ((bumpRes (canon .f32 p) (canon .f32 q)) = (fun _ => canon .f32 0, 2)) := Lib.hid (by have h0 := H0.out; unfold bumpRes bumpOk; rw [h0, h1]; rfl)
      clear h1
      go_wp2_with (first | (refine wpList_build_as rfl 26 _ rfl (fA 16 fun _ => 0) (by kernel_rfl) ?_) | (refine wpList_store_row rfl 26 _ _ rfl _ _ rfl rfl _ _ hZ (by kernel_rfl) (by simp only [size_fA]) (all_fA _ _) ?_))
      exact bodyPost_ret (results_cell_row2 rfl _ _ w.heap.size _ _ _ _ rfl hZ.setRow Try.underlying26 rfl (by kernel_rfl)) rfl (RetCC.as Hm.out ⟨_, rfl, fun _ _ => rfl, (by repeat (first | assumption | exact Below.refl _ _ | refine bDrew ?_ _ | refine Below.alloc ?_ (by first | omega | (simp; done) | (simp; omega)) _ | refine Below.setCell ?_ (by first | omega | (simp; done) | (simp; omega)) _ | refine bRow ?_ (by first | omega | (simp; done) | (simp; omega)) _))⟩)
    | true =>
      have H1 := Lib.hid h1
      clear h1
      cases h2 : (FloatKind.f32.format.order q 0 == some .gt) with
      | false =>
        have Hm : Hid ((bumpRes (canon .f32 p) (canon .f32 q)) = (fun _ => canon .f32 0, 2)) := Lib.hid (by have h0 := H0.out; have h1 := H1.out; unfold bumpRes bumpOk; rw [h0, h1, ← o_gt, h2]; rfl)
        go_wp2_with (first | (refine wpList_build_as rfl 26 _ rfl (fA 16 fun _ => 0) (by kernel_rfl) ?_) | (refine wpList_store_row rfl 26 _ _ rfl _ _ rfl rfl _ _ hZ (by kernel_rfl) (by simp only [size_fA]) (all_fA _ _) ?_))
        exact bodyPost_ret (results_cell_row2 rfl _ _ w.heap.size _ _ _ _ rfl hZ.setRow Try.underlying26 rfl (by kernel_rfl)) rfl (RetCC.as Hm.out ⟨_, rfl, fun _ _ => rfl, (by repeat (first | assumption | exact Below.refl _ _ | refine bDrew ?_ _ | refine Below.alloc ?_ (by first | omega | (simp; done) | (simp; omega)) _ | refine Below.setCell ?_ (by first | omega | (simp; done) | (simp; omega)) _ | refine bRow ?_ (by first | omega | (simp; done) | (simp; omega)) _))⟩)
      | true =>
        have Hm : Hid ((bumpRes (canon .f32 p) (canon .f32 q)) = (fun i => bumpAt (canon .f32 p) (canon .f32 q) i, 0)) := Lib.hid (by have h0 := H0.out; have h1 := H1.out; unfold bumpRes bumpOk; rw [h0, h1, ← o_gt, h2]; rfl)
        have hZ : Blk ((w.alloc (.cells (fA 16 fun _ => 0) 26)).drewN (n + m)) w.heap.size 26 (fA 16 fun _ => 0) := hZ
        have hb : Below w.heap.size w ((w.alloc (.cells (fA 16 fun _ => 0) 26)).drewN (n + m)) := bDrew (by repeat (first | assumption | exact Below.refl _ _ | refine bDrew ?_ _ | refine Below.alloc ?_ (by first | omega | (simp; done) | (simp; omega)) _ | refine Below.setCell ?_ (by first | omega | (simp; done) | (simp; omega)) _ | refine bRow ?_ (by first | omega | (simp; done) | (simp; omega)) _)) _
        go_wp2_with fail
        refine (l01Bump_any p q ((w.alloc (.cells (fA 16 fun _ => 0) 26)).drewN (n + m))).mono ?_
        rintro e w3 ⟨r, rfl, hr, hb1⟩
        have hZ := hZ.below hb1 hZ.lt
        have hb := bCall hb hb1 hb.size
        have Hr := Lib.hid hr
        clear hr hb1
        go_wp2_with (refine wpList_store_row rfl 26 _ _ rfl _ _ rfl rfl _ _ hZ (by kernel_rfl) (by simp only [size_fA]) (all_fA _ _) ?_)
        exact bodyPost_ret (results_cell_row2 rfl _ _ w.heap.size _ _ _ _ rfl hZ.setRow Try.underlying26 rfl (by kernel_rfl)) rfl (RetCC.as Hm.out ⟨_, rfl, Hr.out, (by repeat (first | assumption | exact Below.refl _ _ | refine bDrew ?_ _ | refine Below.alloc ?_ (by first | omega | (simp; done) | (simp; omega)) _ | refine Below.setCell ?_ (by first | omega | (simp; done) | (simp; omega)) _ | refine bRow ?_ (by first | omega | (simp; done) | (simp; omega)) _))⟩)
theorem fin_le {q : Option Nat} (h : fin q = true) : fle q (canon .f32 0) = !fgt q (canon .f32 0) := by
  cases q with
  | none => cases h
  | some b =>
    have hn : (FloatKind.f32.decode b).isNaN = false := by
      rw [nanW32]
      have := of_decide_eq_true h
      simp
      omega
    obtain ⟨o, ho⟩ := Option.isSome_iff_exists.1 (datum_order_some hn (show (FloatKind.f32.decode 0).isNaN = false by decide))
    have k : cord .f32 (some b) (canon .f32 0) = (FloatKind.f32.decode b).order (FloatKind.f32.decode 0) := rfl
    unfold fle fgt
    rw [k, ho]
    cases o <;> rfl
theorem wpList_buildSlice_as {P : Program} {ops : Array Oper} {rest : List Oper} {o : Oper} {a : Act} {w : World} {Q : Exit → Act → World → Prop} (hgd : o.guard = none) (t : TypeId) (n : Nat) (parts : Array (Nat × Operand)) (ho : o.op = .buildSlice t n parts)
    (xs : Array (Nat × Value)) (hx : (parts.map fun (i, x) => (i, a.eval x)) = xs) (v : Value) (w' : World) (hr : (Instr.buildSlice t n xs).run P w = .ok v w') (h : wpList P ops Q rest (a.put o.dst v) w') : wpList P ops Q (o :: rest) a w :=
  wpList_buildSlice hgd t n parts ho v w' (by rw [hx]; exact hr) h
theorem slice2 (p q g : Nat) (W : World) (hs : W.heap.size = g) : (Instr.buildSlice 82 2 #[(0, .float .f32 p), (1, .float .f32 q)]).run Try.prog W = .ok (.slice (some ⟨g, 0, none⟩) 2 2) (W.alloc (.cells (fA 2 fun i => if i = 0 then p else q) 24)) := by
  subst hs
  kernel_rfl
theorem iBump_any (p q : Nat) (w : World) : Calls Try.prog 21 #[.float .f32 p, .float .f32 q] w (RetCC 16 w (bumpRes (canon .f32 p) (canon .f32 q)).1 (bumpRes (canon .f32 p) (canon .f32 q)).2) := by
  have hZ : Blk ((w.alloc (.cells (fA 16 fun _ => 0) 26)).alloc (.cells (fA 2 fun i => if i = 0 then p else q) 24)) w.heap.size 26 (fA 16 fun _ => 0) := (Blk.new _ _ _).alloc _
  have hL : Blk ((w.alloc (.cells (fA 16 fun _ => 0) 26)).alloc (.cells (fA 2 fun i => if i = 0 then p else q) 24)) (w.heap.size + 1) 24 (fA 2 fun i => if i = 0 then p else q) := Blk.new_at _ _ (by simp) rfl
  have hb : Below w.heap.size w ((w.alloc (.cells (fA 16 fun _ => 0) 26)).alloc (.cells (fA 2 fun i => if i = 0 then p else q) 24)) := (by repeat (first | assumption | exact Below.refl _ _ | refine bDrew ?_ _ | refine Below.alloc ?_ (by first | omega | (simp; done) | (simp; omega)) _ | refine Below.setCell ?_ (by first | omega | (simp; done) | (simp; omega)) _ | refine bRow ?_ (by first | omega | (simp; done) | (simp; omega)) _))
  go_enter Try.func21, Try.ntmps21
  go_wp2_with (refine wpList_buildSlice_as rfl _ _ _ rfl #[(0, .float .f32 p), (1, .float .f32 q)] (by kernel_rfl) (.slice (some ⟨w.heap.size + 1, 0, none⟩) 2 2) ((w.alloc (.cells (fA 16 fun _ => 0) 26)).alloc (.cells (fA 2 fun i => if i = 0 then p else q) 24)) (slice2 p q _ (w.alloc (.cells (fA 16 fun _ => 0) 26)) (by simp)) ?_)
  refine (isFinite_any (w.heap.size + 1) 2 24 (fun i => if i = 0 then p else q) ((w.alloc (.cells (fA 16 fun _ => 0) 26)).alloc (.cells (fA 2 fun i => if i = 0 then p else q) 24)) hL (by decide)).mono ?_
  rintro e w1 ⟨rfl, hb1⟩
  have hZ := hZ.below hb1 hZ.lt
  have hb := bCall hb hb1 hb.size
  clear hb1 hL
  have e0 : (allTo 2 fun j => fin (canon .f32 (if j = 0 then p else q))) = (fin (canon .f32 p) && fin (canon .f32 q)) := by simp [allTo, List.range_succ]
  rw [e0]
  cases h0 : (fin (canon .f32 p) && fin (canon .f32 q)) with
  | false =>
    have Hm : Hid ((bumpRes (canon .f32 p) (canon .f32 q)) = (fun _ => canon .f32 0, 2)) := Lib.hid (by unfold bumpRes bumpOk; rw [h0]; rfl)
    clear h0 e0
    go_wp2_with (first | (refine wpList_build_as rfl 26 _ rfl (fA 16 fun _ => 0) (by kernel_rfl) ?_) | (refine wpList_store_row rfl 26 _ _ rfl _ _ rfl rfl _ _ hZ (by kernel_rfl) (by simp only [size_fA]) (all_fA _ _) ?_))
    exact bodyPost_ret (results_cell_row2 rfl _ _ w.heap.size _ _ _ _ rfl hZ.setRow Try.underlying26 rfl (by kernel_rfl)) rfl (RetCC.as Hm.out ⟨_, rfl, fun _ _ => rfl, (by repeat (first | assumption | exact Below.refl _ _ | refine bDrew ?_ _ | refine Below.alloc ?_ (by first | omega | (simp; done) | (simp; omega)) _ | refine Below.setCell ?_ (by first | omega | (simp; done) | (simp; omega)) _ | refine bRow ?_ (by first | omega | (simp; done) | (simp; omega)) _))⟩)
  | true =>
    have hq := (Bool.and_eq_true _ _ ▸ h0).2
    have H0 := Lib.hid h0
    clear h0 e0
    cases h2 : (FloatKind.f32.format.order q 0 == some .lt || FloatKind.f32.format.order q 0 == some .eq) with
    | true =>
      have Hm : Hid ((bumpRes (canon .f32 p) (canon .f32 q)) = (fun _ => canon .f32 0, 2)) := Lib.hid (by have h0 := H0.out; rw [o_le, fin_le hq] at h2; unfold bumpRes bumpOk; rw [h0, show fgt (canon .f32 q) (canon .f32 0) = false by simpa using h2]; rfl)
      go_wp2_with (first | (refine wpList_build_as rfl 26 _ rfl (fA 16 fun _ => 0) (by kernel_rfl) ?_) | (refine wpList_store_row rfl 26 _ _ rfl _ _ rfl rfl _ _ hZ (by kernel_rfl) (by simp only [size_fA]) (all_fA _ _) ?_))
      exact bodyPost_ret (results_cell_row2 rfl _ _ w.heap.size _ _ _ _ rfl hZ.setRow Try.underlying26 rfl (by kernel_rfl)) rfl (RetCC.as Hm.out ⟨_, rfl, fun _ _ => rfl, (by repeat (first | assumption | exact Below.refl _ _ | refine bDrew ?_ _ | refine Below.alloc ?_ (by first | omega | (simp; done) | (simp; omega)) _ | refine Below.setCell ?_ (by first | omega | (simp; done) | (simp; omega)) _ | refine bRow ?_ (by first | omega | (simp; done) | (simp; omega)) _))⟩)
    | false =>
      have Hm : Hid ((bumpRes (canon .f32 p) (canon .f32 q)) = (fun i => bumpAt (canon .f32 p) (canon .f32 q) i, 0)) := Lib.hid (by have h0 := H0.out; rw [o_le, fin_le hq] at h2; unfold bumpRes bumpOk; rw [h0, show fgt (canon .f32 q) (canon .f32 0) = true by simpa using h2]; rfl)
      go_wp2_with fail
      refine (bump_any p q w1).mono ?_
      rintro e w3 ⟨r, rfl, hr, hb1⟩
      have hZ := hZ.below hb1 hZ.lt
      have hb := bCall hb hb1 hb.size
      have Hr := Lib.hid hr
      clear hr hb1
      go_wp2_with (refine wpList_store_row rfl 26 _ _ rfl _ _ rfl rfl _ _ hZ (by kernel_rfl) (by simp only [size_fA]) (all_fA _ _) ?_)
      exact bodyPost_ret (results_cell_row2 rfl _ _ w.heap.size _ _ _ _ rfl hZ.setRow Try.underlying26 rfl (by kernel_rfl)) rfl (RetCC.as Hm.out ⟨_, rfl, Hr.out, (by repeat (first | assumption | exact Below.refl _ _ | refine bDrew ?_ _ | refine Below.alloc ?_ (by first | omega | (simp; done) | (simp; omega)) _ | refine Below.setCell ?_ (by first | omega | (simp; done) | (simp; omega)) _ | refine bRow ?_ (by first | omega | (simp; done) | (simp; omega)) _))⟩)
end Go.Proofs.Ytghmonkoleegjaa
