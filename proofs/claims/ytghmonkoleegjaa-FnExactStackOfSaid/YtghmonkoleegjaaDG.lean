/- Contracts: films of layers, the walks over all wavelengths. -/
import Derived.Test.YtghmonkoleegjaaDF
namespace Go.Proofs.Ytghmonkoleegjaa
open Go.RowKit
set_option maxRecDepth 100000

theorem at0 (a : Nat → Nat) (i : Nat) : rowAt a 0 i = a i := by simp [rowAt]

theorem finiteFilm_any (a : Nat → Nat) (w : World) : Calls Try.prog 68 #[.agg (fA 48 a)] w (RetCC 48 w (finFilmRes fun i => canon .f32 (a i)).1 (finFilmRes fun i => canon .f32 (a i)).2) := by
  have hA : Blk ((w.alloc (.cells (fA 48 a) 28)).alloc (.cells (fA 48 fun _ => 0) 28)) w.heap.size 28 (fA 48 a) := (Blk.new _ _ _).alloc _
  have hZ : Blk ((w.alloc (.cells (fA 48 a) 28)).alloc (.cells (fA 48 fun _ => 0) 28)) (w.heap.size + 1) 28 (fA 48 fun _ => 0) := Blk.new_at _ _ (by simp) rfl
  have hb : Below w.heap.size w ((w.alloc (.cells (fA 48 a) 28)).alloc (.cells (fA 48 fun _ => 0) 28)) := (by repeat (first | assumption | exact Below.refl _ _ | refine bDrew ?_ _ | refine Below.alloc ?_ (by first | omega | (simp; done) | (simp; omega)) _ | refine Below.setCell ?_ (by first | omega | (simp; done) | (simp; omega)) _ | refine bRow ?_ (by first | omega | (simp; done) | (simp; omega)) _))
  go_enter Try.func68, Try.ntmps68
  go_wp2_with (refine wpList_load_part rfl 26 _ rfl 0 16 hA rfl (by decide) Try.underlying26 rfl (by kernel_rfl) ?_)
  refine (iIsFiniteCurve_any (rowAt a 0) _).mono ?_
  rintro e w1 ⟨rfl, hb1⟩
  have hA := hA.below hb1 hA.lt
  have hZ := hZ.below hb1 hZ.lt
  have hb := bCall hb hb1 hb.size; clear hb1
  cases h0 : (allTo 16 fun i => fin (canon .f32 (rowAt a 0 i))) with
  | false =>
    have Hm : Hid ((finFilmRes fun i => canon .f32 (a i)) = (fun _ => canon .f32 0, 4)) := Lib.hid (by unfold finFilmRes finFilm; simp only [at0] at h0; rw [h0]; rfl)
    clear h0
    go_wp2_with (first | (refine wpList_build_as rfl 28 _ rfl (fA 48 fun _ => 0) (by kernel_rfl) ?_) | (refine wpList_store_row rfl 28 _ _ rfl _ _ rfl rfl _ _ hZ (by kernel_rfl) (by simp only [size_fA]) (all_fA _ _) ?_)); exact bodyPost_ret (results_cell_row2 rfl _ _ (w.heap.size + 1) _ _ _ _ rfl hZ.setRow Try.underlying28 rfl (by kernel_rfl)) rfl (RetCC.as Hm.out ⟨_, rfl, fun _ _ => rfl, (by repeat (first | assumption | exact Below.refl _ _ | refine bDrew ?_ _ | refine Below.alloc ?_ (by first | omega | (simp; done) | (simp; omega)) _ | refine Below.setCell ?_ (by first | omega | (simp; done) | (simp; omega)) _ | refine bRow ?_ (by first | omega | (simp; done) | (simp; omega)) _))⟩)
  | true =>
    have H0 := Lib.hid h0
    clear h0
    go_wp2_with (refine wpList_load_partW rfl 26 _ rfl 16 16 hA rfl (by decide) Try.underlying26 rfl (by kernel_rfl) ?_)
    refine (iIsFiniteCurve_any (rowAt a 16) _).mono ?_
    rintro e w2 ⟨rfl, hb1⟩
    have hA := hA.below hb1 hA.lt
    have hZ := hZ.below hb1 hZ.lt
    have hb := bCall hb hb1 hb.size; clear hb1
    cases h1 : (allTo 16 fun i => fin (canon .f32 (rowAt a 16 i))) with
    | false =>
      have Hm : Hid ((finFilmRes fun i => canon .f32 (a i)) = (fun _ => canon .f32 0, 4)) := Lib.hid (by have h0 := H0.out; unfold finFilmRes finFilm; simp only [at0] at h0; simp only [rowAt] at h1; rw [h0, h1]; rfl)
      clear h1
      go_wp2_with (first | (refine wpList_build_as rfl 28 _ rfl (fA 48 fun _ => 0) (by kernel_rfl) ?_) | (refine wpList_store_row rfl 28 _ _ rfl _ _ rfl rfl _ _ hZ (by kernel_rfl) (by simp only [size_fA]) (all_fA _ _) ?_)); exact bodyPost_ret (results_cell_row2 rfl _ _ (w.heap.size + 1) _ _ _ _ rfl hZ.setRow Try.underlying28 rfl (by kernel_rfl)) rfl (RetCC.as Hm.out ⟨_, rfl, fun _ _ => rfl, (by repeat (first | assumption | exact Below.refl _ _ | refine bDrew ?_ _ | refine Below.alloc ?_ (by first | omega | (simp; done) | (simp; omega)) _ | refine Below.setCell ?_ (by first | omega | (simp; done) | (simp; omega)) _ | refine bRow ?_ (by first | omega | (simp; done) | (simp; omega)) _))⟩)
    | true =>
      have H1 := Lib.hid h1
      clear h1
      go_wp2_with (refine wpList_load_partW rfl 26 _ rfl 32 16 hA rfl (by decide) Try.underlying26 rfl (by kernel_rfl) ?_)
      refine (iIsFiniteCurve_any (rowAt a 32) _).mono ?_
      rintro e w3 ⟨rfl, hb1⟩
      have hA := hA.below hb1 hA.lt
      have hZ := hZ.below hb1 hZ.lt
      have hb := bCall hb hb1 hb.size; clear hb1
      cases h2 : (allTo 16 fun i => fin (canon .f32 (rowAt a 32 i))) with
      | false =>
        have Hm : Hid ((finFilmRes fun i => canon .f32 (a i)) = (fun _ => canon .f32 0, 4)) := Lib.hid (by have h0 := H0.out; have h1 := H1.out; unfold finFilmRes finFilm; simp only [at0] at h0; simp only [rowAt] at h1 h2; rw [h0, h1, h2]; rfl)
        clear h2
        go_wp2_with (first | (refine wpList_build_as rfl 28 _ rfl (fA 48 fun _ => 0) (by kernel_rfl) ?_) | (refine wpList_store_row rfl 28 _ _ rfl _ _ rfl rfl _ _ hZ (by kernel_rfl) (by simp only [size_fA]) (all_fA _ _) ?_)); exact bodyPost_ret (results_cell_row2 rfl _ _ (w.heap.size + 1) _ _ _ _ rfl hZ.setRow Try.underlying28 rfl (by kernel_rfl)) rfl (RetCC.as Hm.out ⟨_, rfl, fun _ _ => rfl, (by repeat (first | assumption | exact Below.refl _ _ | refine bDrew ?_ _ | refine Below.alloc ?_ (by first | omega | (simp; done) | (simp; omega)) _ | refine Below.setCell ?_ (by first | omega | (simp; done) | (simp; omega)) _ | refine bRow ?_ (by first | omega | (simp; done) | (simp; omega)) _))⟩)
      | true =>
        have Hm : Hid ((finFilmRes fun i => canon .f32 (a i)) = (fun i => canon .f32 (a i), 0)) := Lib.hid (by have h0 := H0.out; have h1 := H1.out; unfold finFilmRes finFilm; simp only [at0] at h0; simp only [rowAt] at h1 h2; rw [h0, h1, h2]; rfl)
        clear h2
        go_wp2_with (first | (refine wpList_load_row rfl 28 _ rfl _ rfl _ _ (0, 0) _ hA Try.underlying28 rfl (by kernel_rfl) ?_) | (refine wpList_store_row rfl 28 _ _ rfl _ _ rfl rfl _ _ hZ (by kernel_rfl) (by simp only [size_fA]) (all_fA _ _) ?_))
        exact bodyPost_ret (results_cell_row2 rfl _ _ (w.heap.size + 1) _ _ _ _ rfl hZ.setRow Try.underlying28 rfl (by kernel_rfl)) rfl (RetCC.as Hm.out ⟨_, rfl, fun _ _ => rfl, (by repeat (first | assumption | exact Below.refl _ _ | refine bDrew ?_ _ | refine Below.alloc ?_ (by first | omega | (simp; done) | (simp; omega)) _ | refine Below.setCell ?_ (by first | omega | (simp; done) | (simp; omega)) _ | refine bRow ?_ (by first | omega | (simp; done) | (simp; omega)) _))⟩)
theorem l02Made_any (a : Nat → Nat) (w : World) : Calls Try.prog 60 #[.agg (fA 48 a)] w (RetCC 48 w (finFilmRes fun i => canon .f32 (a i)).1 (finFilmRes fun i => canon .f32 (a i)).2) := by
  have hA : Blk ((w.alloc (.cells (fA 48 a) 28)).alloc (.cells (fA 48 fun _ => 0) 28)) w.heap.size 28 (fA 48 a) := (Blk.new _ _ _).alloc _
  have hZ : Blk ((w.alloc (.cells (fA 48 a) 28)).alloc (.cells (fA 48 fun _ => 0) 28)) (w.heap.size + 1) 28 (fA 48 fun _ => 0) := Blk.new_at _ _ (by simp) rfl
  have hb : Below w.heap.size w ((w.alloc (.cells (fA 48 a) 28)).alloc (.cells (fA 48 fun _ => 0) 28)) := (by repeat (first | assumption | exact Below.refl _ _ | refine bDrew ?_ _ | refine Below.alloc ?_ (by first | omega | (simp; done) | (simp; omega)) _ | refine Below.setCell ?_ (by first | omega | (simp; done) | (simp; omega)) _ | refine bRow ?_ (by first | omega | (simp; done) | (simp; omega)) _))
  go_enter Try.func60, Try.ntmps60
  go_wp2_with (refine wpList_load_part rfl 26 _ rfl 0 16 hA rfl (by decide) Try.underlying26 rfl (by kernel_rfl) ?_)
  refine (l01Curve_any (rowAt a 0) _).mono ?_
  rintro e w1 ⟨rfl, hb1⟩
  have hA := hA.below hb1 hA.lt
  have hZ := hZ.below hb1 hZ.lt
  have hb := bCall hb hb1 hb.size; clear hb1
  cases h0 : (allTo 16 fun i => fin (canon .f32 (rowAt a 0 i))) with
  | false =>
    have Hm : Hid ((finFilmRes fun i => canon .f32 (a i)) = (fun _ => canon .f32 0, 4)) := Lib.hid (by unfold finFilmRes finFilm; simp only [at0] at h0; rw [h0]; rfl)
    clear h0
    go_wp2_with (first | (refine wpList_build_as rfl 28 _ rfl (fA 48 fun _ => 0) (by kernel_rfl) ?_) | (refine wpList_store_row rfl 28 _ _ rfl _ _ rfl rfl _ _ hZ (by kernel_rfl) (by simp only [size_fA]) (all_fA _ _) ?_)); exact bodyPost_ret (results_cell_row2 rfl _ _ (w.heap.size + 1) _ _ _ _ rfl hZ.setRow Try.underlying28 rfl (by kernel_rfl)) rfl (RetCC.as Hm.out ⟨_, rfl, fun _ _ => rfl, (by repeat (first | assumption | exact Below.refl _ _ | refine bDrew ?_ _ | refine Below.alloc ?_ (by first | omega | (simp; done) | (simp; omega)) _ | refine Below.setCell ?_ (by first | omega | (simp; done) | (simp; omega)) _ | refine bRow ?_ (by first | omega | (simp; done) | (simp; omega)) _))⟩)
  | true =>
    have H0 := Lib.hid h0
    clear h0
    go_wp2_with (refine wpList_load_partW rfl 26 _ rfl 16 16 hA rfl (by decide) Try.underlying26 rfl (by kernel_rfl) ?_)
    refine (l01Curve_any (rowAt a 16) _).mono ?_
    rintro e w2 ⟨rfl, hb1⟩
    have hA := hA.below hb1 hA.lt
    have hZ := hZ.below hb1 hZ.lt
    have hb := bCall hb hb1 hb.size; clear hb1
    cases h1 : (allTo 16 fun i => fin (canon .f32 (rowAt a 16 i))) with
    | false =>
      have Hm : Hid ((finFilmRes fun i => canon .f32 (a i)) = (fun _ => canon .f32 0, 4)) := Lib.hid (by have h0 := H0.out; unfold finFilmRes finFilm; simp only [at0] at h0; simp only [rowAt] at h1; rw [h0, h1]; rfl)
      clear h1
      go_wp2_with (first | (refine wpList_build_as rfl 28 _ rfl (fA 48 fun _ => 0) (by kernel_rfl) ?_) | (refine wpList_store_row rfl 28 _ _ rfl _ _ rfl rfl _ _ hZ (by kernel_rfl) (by simp only [size_fA]) (all_fA _ _) ?_)); exact bodyPost_ret (results_cell_row2 rfl _ _ (w.heap.size + 1) _ _ _ _ rfl hZ.setRow Try.underlying28 rfl (by kernel_rfl)) rfl (RetCC.as Hm.out ⟨_, rfl, fun _ _ => rfl, (by repeat (first | assumption | exact Below.refl _ _ | refine bDrew ?_ _ | refine Below.alloc ?_ (by first | omega | (simp; done) | (simp; omega)) _ | refine Below.setCell ?_ (by first | omega | (simp; done) | (simp; omega)) _ | refine bRow ?_ (by first | omega | (simp; done) | (simp; omega)) _))⟩)
    | true =>
      have H1 := Lib.hid h1
      clear h1
      go_wp2_with (refine wpList_load_partW rfl 26 _ rfl 32 16 hA rfl (by decide) Try.underlying26 rfl (by kernel_rfl) ?_)
      refine (l01Curve_any (rowAt a 32) _).mono ?_
      rintro e w3 ⟨rfl, hb1⟩
      have hA := hA.below hb1 hA.lt
      have hZ := hZ.below hb1 hZ.lt
      have hb := bCall hb hb1 hb.size; clear hb1
      cases h2 : (allTo 16 fun i => fin (canon .f32 (rowAt a 32 i))) with
      | false =>
        have Hm : Hid ((finFilmRes fun i => canon .f32 (a i)) = (fun _ => canon .f32 0, 4)) := Lib.hid (by have h0 := H0.out; have h1 := H1.out; unfold finFilmRes finFilm; simp only [at0] at h0; simp only [rowAt] at h1 h2; rw [h0, h1, h2]; rfl)
        clear h2
        go_wp2_with (first | (refine wpList_build_as rfl 28 _ rfl (fA 48 fun _ => 0) (by kernel_rfl) ?_) | (refine wpList_store_row rfl 28 _ _ rfl _ _ rfl rfl _ _ hZ (by kernel_rfl) (by simp only [size_fA]) (all_fA _ _) ?_)); exact bodyPost_ret (results_cell_row2 rfl _ _ (w.heap.size + 1) _ _ _ _ rfl hZ.setRow Try.underlying28 rfl (by kernel_rfl)) rfl (RetCC.as Hm.out ⟨_, rfl, fun _ _ => rfl, (by repeat (first | assumption | exact Below.refl _ _ | refine bDrew ?_ _ | refine Below.alloc ?_ (by first | omega | (simp; done) | (simp; omega)) _ | refine Below.setCell ?_ (by first | omega | (simp; done) | (simp; omega)) _ | refine bRow ?_ (by first | omega | (simp; done) | (simp; omega)) _))⟩)
      | true =>
        have Hm : Hid ((finFilmRes fun i => canon .f32 (a i)) = (fun i => canon .f32 (a i), 0)) := Lib.hid (by have h0 := H0.out; have h1 := H1.out; unfold finFilmRes finFilm; simp only [at0] at h0; simp only [rowAt] at h1 h2; rw [h0, h1, h2]; rfl)
        clear h2
        go_wp2_with (first | (refine wpList_load_row rfl 28 _ rfl _ rfl _ _ (0, 0) _ hA Try.underlying28 rfl (by kernel_rfl) ?_) | (refine wpList_store_row rfl 28 _ _ rfl _ _ rfl rfl _ _ hZ (by kernel_rfl) (by simp only [size_fA]) (all_fA _ _) ?_))
        exact bodyPost_ret (results_cell_row2 rfl _ _ (w.heap.size + 1) _ _ _ _ rfl hZ.setRow Try.underlying28 rfl (by kernel_rfl)) rfl (RetCC.as Hm.out ⟨_, rfl, fun _ _ => rfl, (by repeat (first | assumption | exact Below.refl _ _ | refine bDrew ?_ _ | refine Below.alloc ?_ (by first | omega | (simp; done) | (simp; omega)) _ | refine Below.setCell ?_ (by first | omega | (simp; done) | (simp; omega)) _ | refine bRow ?_ (by first | omega | (simp; done) | (simp; omega)) _))⟩)
/-- What a walk over the wavelengths has filled in. -/
def Filled (c : Nat → Option Nat) (cur : Nat → Nat) (k : Nat) : Prop := ∀ j, j < k → canon .f32 (cur j) = filmAt c j ∧ canon .f32 (cur (16 + j)) = filmAt c (16 + j) ∧ canon .f32 (cur (32 + j)) = filmAt c (32 + j)
theorem Filled.next {c : Nat → Option Nat} {cur : Nat → Nat} {k r t : Nat} (h : Filled c cur k) (hk : k < 16) (hr : canon .f32 r = (dblN (thin (c k) (c (16 + k)) (thinX (c 32))) 10).1) (ht : canon .f32 t = (dblN (thin (c k) (c (16 + k)) (thinX (c 32))) 10).2) :
    Filled c (upd (upd (upd cur k r) (16 + k) r) (32 + k) t) (k + 1) := by
  intro j hj
  have e1 : filmAt c k = (dblN (thin (c k) (c (16 + k)) (thinX (c 32))) 10).1 := by unfold filmAt; rw [if_pos hk]
  have e2 : filmAt c (16 + k) = (dblN (thin (c k) (c (16 + k)) (thinX (c 32))) 10).1 := by unfold filmAt; rw [if_neg (by omega), if_pos (by omega), show 16 + k - 16 = k by omega]
  have e3 : filmAt c (32 + k) = (dblN (thin (c k) (c (16 + k)) (thinX (c 32))) 10).2 := by unfold filmAt; rw [if_neg (by omega), if_neg (by omega), show 32 + k - 32 = k by omega, show 32 + k - 16 = 16 + k by omega]
  by_cases e : j = k
  · subst e
    refine ⟨?_, ?_, ?_⟩
    · rw [upd_other _ _ (by omega), upd_other _ _ (by omega), upd_same, hr, e1]
    · rw [upd_other _ _ (by omega), upd_same, hr, e2]
    · rw [upd_same, ht, e3]
  · obtain ⟨h1, h2, h3⟩ := h j (by omega)
    refine ⟨?_, ?_, ?_⟩
    · rw [upd_other _ _ (by omega), upd_other _ _ (by omega), upd_other _ _ (by omega), h1]
    · rw [upd_other _ _ (by omega), upd_other _ _ (by omega), upd_other _ _ (by omega), h2]
    · rw [upd_other _ _ (by omega), upd_other _ _ (by omega), upd_other _ _ (by omega), h3]
theorem Filled.all {c : Nat → Option Nat} {cur : Nat → Nat} (h : Filled c cur 16) : ∀ i, i < 48 → canon .f32 (cur i) = filmAt c i := by
  intro i hi
  by_cases h1 : i < 16
  · exact (h i h1).1
  · by_cases h2 : i < 32
    · have := (h (i - 16) (by omega)).2.1
      rwa [show 16 + (i - 16) = i by omega] at this
    · have := (h (i - 32) (by omega)).2.2
      rwa [show 32 + (i - 32) = i by omega] at this
/-- What the call of 'doubled' gives. -/
def GD (_f : FuncId) (args : Array Value) (u : Value) : Prop := ∃ k s x r t, args = #[.float .f32 k, .float .f32 s, .float .f32 x] ∧ u = .tuple #[.float .f32 r, .float .f32 t, .bool (dblRes (canon .f32 k) (canon .f32 s) (canon .f32 x)).2] ∧
  canon .f32 r = (dblRes (canon .f32 k) (canon .f32 s) (canon .f32 x)).1.1 ∧ canon .f32 t = (dblRes (canon .f32 k) (canon .f32 s) (canon .f32 x)).1.2
theorem GD.inv {f : FuncId} {k s x : Nat} {u : Value} (h : GD f #[.float .f32 k, .float .f32 s, .float .f32 x] u) : ∃ r t, u = .tuple #[.float .f32 r, .float .f32 t, .bool (dblRes (canon .f32 k) (canon .f32 s) (canon .f32 x)).2] ∧
    Hid (canon .f32 r = (dblRes (canon .f32 k) (canon .f32 s) (canon .f32 x)).1.1 ∧ canon .f32 t = (dblRes (canon .f32 k) (canon .f32 s) (canon .f32 x)).1.2) := by
  obtain ⟨k', s', x', r, t, ha, hu, h1, h2⟩ := h
  simp only [Array.mk.injEq, List.cons.injEq, Value.float.injEq, true_and, and_true] at ha
  obtain ⟨rfl, rfl, rfl⟩ := ha
  exact ⟨r, t, hu, Lib.hid ⟨h1, h2⟩⟩

set_option maxHeartbeats 2000000 in
theorem iFilmOf_any (a : Nat → Nat) (w : World) : Calls Try.prog 37 #[.agg (fA 33 a)] w (RetCC 48 w (filmOfRes a).1 (filmOfRes a).2) := by
  have hA : Blk ((w.alloc (.cells (fA 33 a) 56)).alloc (.cells (fA 48 fun _ => 0) 28)) w.heap.size 56 (fA 33 a) := (Blk.new _ _ _).alloc _
  have hZ : Blk ((w.alloc (.cells (fA 33 a) 56)).alloc (.cells (fA 48 fun _ => 0) 28)) (w.heap.size + 1) 28 (fA 48 fun _ => 0) := Blk.new_at _ _ (by simp) rfl
  have hb : Below w.heap.size w ((w.alloc (.cells (fA 33 a) 56)).alloc (.cells (fA 48 fun _ => 0) 28)) := (by repeat (first | assumption | exact Below.refl _ _ | refine bDrew ?_ _ | refine Below.alloc ?_ (by first | omega | (simp; done) | (simp; omega)) _ | refine Below.setCell ?_ (by first | omega | (simp; done) | (simp; omega)) _ | refine bRow ?_ (by first | omega | (simp; done) | (simp; omega)) _))
  go_enter Try.func37, Try.ntmps37
  go_wp2_with (refine wpList_load_row rfl 56 _ rfl _ rfl _ _ (0, 0) _ hA Try.underlying56 rfl (by kernel_rfl) ?_)
  refine (iValidLayer_any a _).mono ?_
  rintro e w1 ⟨rfl, hb1⟩
  have hA := hA.below hb1 hA.lt
  have hZ := hZ.below hb1 hZ.lt
  have hb := bCall hb hb1 hb.size; clear hb1
  cases hs : layerOk a with
  | false =>
    have Hm : Hid (filmOfRes a = (fun _ => canon .f32 0, 1)) := Lib.hid (by unfold filmOfRes; rw [hs]; rfl)
    clear hs
    go_wp2_with (first | (refine wpList_build_as rfl 28 _ rfl (fA 48 fun _ => 0) (by kernel_rfl) ?_) | (refine wpList_store_row rfl 28 _ _ rfl _ _ rfl rfl _ _ hZ (by kernel_rfl) (by simp only [size_fA]) (all_fA _ _) ?_)); exact bodyPost_ret (results_cell_row2 rfl _ _ (w.heap.size + 1) _ _ _ _ rfl hZ.setRow Try.underlying28 rfl (by kernel_rfl)) rfl (RetCC.as Hm.out ⟨_, rfl, fun _ _ => rfl, (by repeat (first | assumption | exact Below.refl _ _ | refine bDrew ?_ _ | refine Below.alloc ?_ (by first | omega | (simp; done) | (simp; omega)) _ | refine Below.setCell ?_ (by first | omega | (simp; done) | (simp; omega)) _ | refine bRow ?_ (by first | omega | (simp; done) | (simp; omega)) _))⟩)
  | true =>
    have HM : Hid (filmOfRes a = filmMade fun i => canon .f32 (a i)) := Lib.hid (by simp only [filmOfRes, hs, if_true])
    clear hs
    have hO : Blk (w1.alloc (.cells (fA 48 fun _ => 0) 28)) w1.heap.size 28 (fA 48 fun _ => 0) := Blk.new _ _ _
    have hO2 : Blk ((w1.alloc (.cells (fA 48 fun _ => 0) 28)).setRow w1.heap.size (fA 48 fun _ => 0)) w1.heap.size 28 (fA 48 fun _ => 0) := hO.setRow
    have hA2 : Blk ((w1.alloc (.cells (fA 48 fun _ => 0) 28)).setRow w1.heap.size (fA 48 fun _ => 0)) w.heap.size 56 (fA 33 a) := (hA.alloc _).farRow (by have := hA.lt; omega)
    have hZ2 : Blk ((w1.alloc (.cells (fA 48 fun _ => 0) 28)).setRow w1.heap.size (fA 48 fun _ => 0)) (w.heap.size + 1) 28 (fA 48 fun _ => 0) := (hZ.alloc _).farRow (by have := hZ.lt; omega)
    have hb2 : Below w.heap.size w ((w1.alloc (.cells (fA 48 fun _ => 0) 28)).setRow w1.heap.size (fA 48 fun _ => 0)) := bRow (Below.alloc hb hb.size _) hb.size _
    have hg : w.heap.size + 1 < w1.heap.size := hZ.lt
    clear hA hZ hb
    go_wp2_with (first | (refine wpList_build_as rfl 28 _ rfl (fA 48 fun _ => 0) (by kernel_rfl) ?_) | (refine wpList_store_row rfl 28 _ _ rfl _ _ rfl rfl _ _ hO (by kernel_rfl) (by simp only [size_fA]) (all_fA _ _) ?_))
    go_loopw [5, 6, 7, 8, 14] (fun _ _ _ _ i wr => ∃ (k : Nat) (cur : Nat → Nat), k ≤ 16 ∧ i = .int .i64 k ∧ Below w.heap.size w wr ∧ Blk wr w.heap.size 56 (fA 33 a) ∧ Blk wr (w.heap.size + 1) 28 (fA 48 fun _ => 0) ∧ Blk wr w1.heap.size 28 (fA 48 cur) ∧ Hid ((∀ j, j < k → (!tooStrong (canon .f32 (a j)) (canon .f32 (a (16 + j))) (thinX (canon .f32 (a 32)))) = true) ∧ Filled (fun i => canon .f32 (a i)) cur k)) (fun _ _ _ _ i _ => 16 - (intOf i).toNat)
    case atStart => exact ⟨0, fun _ => 0, by omega, rfl, hb2, hA2, hZ2, hO2, Lib.hid ⟨fun j h => absurd h (by omega), fun j h => absurd h (by omega)⟩⟩
    case round =>
      clear hO hO2 hA2 hZ2 hb2
      obtain ⟨k, cur, hk, rfl, hb, hA, hZ, hC, HC⟩ := hrel
      by_cases hlt : k < 16
      · have c0 : wr.cell? ⟨w.heap.size, k, none⟩ = some (.float .f32 (a k)) := (hA.cell k).trans (get_fA_lt a (by omega))
        have c1 : wr.cell? ⟨w.heap.size, 16 + k, none⟩ = some (.float .f32 (a (16 + k))) := (hA.cell (16 + k)).trans (get_fA_lt a (by omega))
        have c2 : wr.cell? ⟨w.heap.size, 32, none⟩ = some (.float .f32 (a 32)) := (hA.cell 32).trans (get_fA_lt a (by omega))
        go_wp2_with fail
        (refine wp_region_loose_lit (fun w' => ∃ n, w' = wr.drewN n) (GD) (by kernel_rfl) (by kernel_rfl) ⟨1, rfl⟩ ?_)
        repeat (refine wpLoose_plain rfl (fun K hK w1 hw1 => ?_); obtain ⟨n, rfl⟩ := hw1; go_simp; refine ⟨⟨_, rfl⟩, hK _ ?_⟩; clear hK K)
        refine wpLoose_plain rfl (fun K hK w1 hw1 => ?_); obtain ⟨n1, rfl⟩ := hw1; go_simp; refine ⟨⟨_, rfl⟩, (doubled_any _ _ _ _).mono ?_, fun u hu => hK _ ?_⟩; (rintro e w' ⟨r, t, rfl, hr, ht, m, rfl⟩; exact ⟨_, rfl, ⟨_, _, _, r, t, rfl, rfl, hr, ht⟩, _, by rw [World.drewN_drewN]⟩); clear hK K; obtain ⟨r, t, rfl, HR⟩ := GD.inv hu; clear hu
        repeat (refine wpLoose_plain rfl (fun K hK w1 hw1 => ?_); obtain ⟨n, rfl⟩ := hw1; go_simp; refine ⟨⟨_, rfl⟩, hK _ ?_⟩; clear hK K)
        (refine wpLoose_nil ?_; intro _ hw'; obtain ⟨nq, rfl⟩ := hw')
        clear c0 c1 c2
        cases hs : tooStrong (canon .f32 (a k)) (canon .f32 (a (16 + k))) (thinX (canon .f32 (a 32))) with
        | true =>
          have Hm : Hid (filmOfRes a = (fun _ => canon .f32 0, 3)) := Lib.hid (by
            have hq : (allTo 16 fun i => !tooStrong (canon .f32 (a i)) (canon .f32 (a (16 + i))) (thinX (canon .f32 (a 32)))) = false := allTo_false hlt (by rw [hs]; rfl)
            simp only [HM.out, filmMade, hq, Bool.false_eq_true, if_false])
          have hd : (dblRes (canon .f32 (a k)) (canon .f32 (a (16 + k))) (canon .f32 (a 32))).2 = false := by simp only [dblRes, hs, if_true]
          have hZ := Blk.drewN hZ nq
          have hb := bDrew hb nq
          clear hs
          go_wp2_with (first | (refine wpList_build_as rfl 28 _ rfl (fA 48 fun _ => 0) (by kernel_rfl) ?_) | (refine wpList_store_row rfl 28 _ _ rfl _ _ rfl rfl _ _ hZ (by kernel_rfl) (by simp only [size_fA]) (all_fA _ _) ?_)); exact bodyPost_ret (results_cell_row2 rfl _ _ (w.heap.size + 1) _ _ _ _ rfl hZ.setRow Try.underlying28 rfl (by kernel_rfl)) rfl (RetCC.as Hm.out ⟨_, rfl, fun _ _ => rfl, (by repeat (first | assumption | exact Below.refl _ _ | refine bDrew ?_ _ | refine Below.alloc ?_ (by first | omega | (simp; done) | (simp; omega)) _ | refine Below.setCell ?_ (by first | omega | (simp; done) | (simp; omega)) _ | refine bRow ?_ (by first | omega | (simp; done) | (simp; omega)) _))⟩)
        | false =>
          have hd : (dblRes (canon .f32 (a k)) (canon .f32 (a (16 + k))) (canon .f32 (a 32))).2 = true := by simp only [dblRes, hs, Bool.false_eq_true, if_false]
          have HD : Hid ((dblRes (canon .f32 (a k)) (canon .f32 (a (16 + k))) (canon .f32 (a 32))).1 = dblN (thin (canon .f32 (a k)) (canon .f32 (a (16 + k))) (thinX (canon .f32 (a 32)))) 10) := Lib.hid (by simp only [dblRes, hs, Bool.false_eq_true, if_false])
          have HS := Lib.hid hs
          have c3 : wr.cell? ⟨w1.heap.size, k, none⟩ = some (.float .f32 (cur k)) := (hC.cell k).trans (get_fA_lt cur (by omega))
          have c4 : wr.cell? ⟨w1.heap.size, 16 + k, none⟩ = some (.float .f32 (cur (16 + k))) := (hC.cell (16 + k)).trans (get_fA_lt cur (by omega))
          have c5 : wr.cell? ⟨w1.heap.size, 32 + k, none⟩ = some (.float .f32 (cur (32 + k))) := (hC.cell (32 + k)).trans (get_fA_lt cur (by omega))
          have f3 := hC.frozen k
          have f4 := hC.frozen (16 + k)
          have f5 := hC.frozen (32 + k)
          have hC := Blk.drewN hC nq
          clear hs
          go_wp2
          go_roundw
          case rel =>
            refine ⟨k + 1, _, by omega, by go_num, (((bDrew hb _).setCell (by dsimp only; omega) _).setCell (by dsimp only; omega) _).setCell (by dsimp only; omega) _, Blk.far (Blk.far (Blk.far (Blk.drewN hA _) (by dsimp only; omega) _) (by dsimp only; omega) _) (by dsimp only; omega) _, Blk.far (Blk.far (Blk.far (Blk.drewN hZ _) (by dsimp only; omega) _) (by dsimp only; omega) _) (by dsimp only; omega) _, Blk.setF (Blk.setF (Blk.setF hC k _) (16 + k) _) (32 + k) _, Lib.hid ⟨?_, HC.out.2.next hlt ?_ ?_⟩⟩
            · intro j hj
              by_cases e : j = k
              · subst e; rw [HS.out]; rfl
              · exact HC.out.1 j (by omega)
            · rw [HR.out.1, HD.out]
            · rw [HR.out.2, HD.out]
          case measure => simp [intOf]; omega
      · obtain rfl : k = 16 := by omega
        have Hm : Hid (filmOfRes a = ((finFilmRes (filmAt fun i => canon .f32 (a i))).1, (finFilmRes (filmAt fun i => canon .f32 (a i))).2)) := Lib.hid (by
          have hq : (allTo 16 fun i => !tooStrong (canon .f32 (a i)) (canon .f32 (a (16 + i))) (thinX (canon .f32 (a 32)))) = true := allTo_true HC.out.1
          simp only [HM.out, filmMade, hq, if_true])
        go_wp2_with (refine wpList_load_row rfl 28 _ rfl _ rfl _ _ (0, 0) _ hC Try.underlying28 rfl (by kernel_rfl) ?_)
        refine (finiteFilm_any cur wr).mono ?_
        rintro e w4 ⟨q, rfl, hq, hb1⟩
        have hZ := hZ.below hb1 hZ.lt
        have hb := bCall hb hb1 hb.size
        have Hq := Lib.hid hq
        clear hq hb1
        go_wp2_with (refine wpList_store_row rfl 28 _ _ rfl _ _ rfl rfl _ _ hZ (by kernel_rfl) (by simp only [size_fA]) (all_fA _ _) ?_)
        exact bodyPost_ret (results_cell_row2 rfl _ _ (w.heap.size + 1) _ _ _ _ rfl hZ.setRow Try.underlying28 rfl (by kernel_rfl)) rfl (RetCC.as Hm.out (finFilm_congr HC.out.2.all ⟨q, rfl, Hq.out, (by repeat (first | assumption | exact Below.refl _ _ | refine bDrew ?_ _ | refine Below.alloc ?_ (by first | omega | (simp; done) | (simp; omega)) _ | refine Below.setCell ?_ (by first | omega | (simp; done) | (simp; omega)) _ | refine bRow ?_ (by first | omega | (simp; done) | (simp; omega)) _))⟩))
end Go.Proofs.Ytghmonkoleegjaa
