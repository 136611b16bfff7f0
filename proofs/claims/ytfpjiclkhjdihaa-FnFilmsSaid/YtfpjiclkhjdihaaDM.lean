/- One cell of a row of float32: reading, writing, as steps of a walk. No program is named here. Contracts: films of layers. Contracts: films of layers, the walks over all wavelengths. Contracts: a film over a backing; a film over another one. Contracts: films of layers, the reference. Contracts: a film over a backing, the reference and the whole. Contracts: paint over a backing. -/
import Derived.Test.YtfpjiclkhjdihaaKit
import Derived.WalkKit
import Derived.Test.YtfpjiclkhjdihaaCR
import Derived.Test.YtfpjiclkhjdihaaCZ
import Derived.Deep.Cut
namespace Go.Proofs.Ytfpjiclkhjdihaa
open Go.RowKit
section
variable {P : Program} {w : World} {g n : Nat} {t : TypeId} {b : Nat → Nat}
theorem wpList_store_f {ops : Array Oper} {rest : List Oper} {o : Oper} {act : Act} {Q : Exit → Act → World → Prop} (hgd : o.guard = none) (ty : TypeId) (x y : Operand) (ho : o.op = .store ty x y)
    (hB : Blk w g t (fA n b)) {off v : Nat} (hx : act.eval x = .pointer (some ⟨g, off, none⟩)) (hy : act.eval y = .float .f32 v) (hoff : off < n) (hi : (P.info? ty).map (·.size) = some 1)
    (h : wpList P ops Q rest (act.put o.dst undef) (w.setCell ⟨g, off, none⟩ (.float .f32 v))) : wpList P ops Q (o :: rest) act w :=
  wpList_plain hgd fun K hK => by
    have h1 := (hB.cell off).trans (get_fA_lt b hoff)
    have h2 := hB.frozen off
    have hk := hK _ _ h
    have hs : ∀ w : World, (sizeOf ty).run P w = .ok 1 w := by
      intro w
      cases hq : P.info? ty with
      | none => simp [hq] at hi
      | some inf =>
        have hz : inf.size = 1 := by simpa [hq] using hi
        simp [sizeOf, typeInfo, hq, hz]
    unfold Oper.wp execOp
    simp only [ho, hx, hy]
    go_simp
    exact hk
end
end Go.Proofs.Ytfpjiclkhjdihaa

namespace Go.Proofs.Ytfpjiclkhjdihaa
open Go.RowKit
set_option maxRecDepth 100000

/-- A thin film of one wavelength; whether it is too strong; two of them are one. -/
def thinR (s x : Option Nat) : Option Nat := fmul s x
def thinT (k s x : Option Nat) : Option Nat := fsub (fsub (canon .f32 1065353216) (fmul k x)) (fmul s x)
def thinX (thick : Option Nat) : Option Nat := fdiv thick (canon .f32 1149239296)
def strong (r t : Option Nat) : Bool := flt t (canon .f32 0) || fgt r (canon .f32 1065353216)
def dblD (r : Option Nat) : Option Nat := fsub (canon .f32 1065353216) (fmul r r)
def dbl (p : Option Nat × Option Nat) : Option Nat × Option Nat := (fadd p.1 (fdiv (fmul (fmul p.2 p.2) p.1) (dblD p.1)), fdiv (fmul p.2 p.2) (dblD p.1))
def dblN (p : Option Nat × Option Nat) : Nat → Option Nat × Option Nat
  | 0 => p
  | n + 1 => dbl (dblN p n)
def thin (k s x : Option Nat) : Option Nat × Option Nat := (thinR s x, thinT k s x)
def tooStrong (k s x : Option Nat) : Bool := strong (thinR s x) (thinT k s x)
/-- The film of a layer: 16 times R, B and T. -/
def filmAt (f : Nat → Option Nat) (i : Nat) : Option Nat :=
  if i < 16 then (dblN (thin (f i) (f (16 + i)) (thinX (f 32))) 10).1
  else if i < 32 then (dblN (thin (f (i - 16)) (f i) (thinX (f 32))) 10).1
  else (dblN (thin (f (i - 32)) (f (i - 16)) (thinX (f 32))) 10).2
def finFilm (p : Nat → Option Nat) : Bool := allTo 16 (fun i => fin (p i)) && allTo 16 (fun i => fin (p (16 + i))) && allTo 16 (fun i => fin (p (32 + i)))
def finFilmRes (p : Nat → Option Nat) : (Nat → Option Nat) × Int := if finFilm p then (p, 0) else (fun _ => canon .f32 0, 4)
def filmMade (f : Nat → Option Nat) : (Nat → Option Nat) × Int := if allTo 16 (fun i => !tooStrong (f i) (f (16 + i)) (thinX (f 32))) then finFilmRes (filmAt f) else (fun _ => canon .f32 0, 3)
def filmOfRes (a : Nat → Nat) : (Nat → Option Nat) × Int := if layerOk a then filmMade (fun i => canon .f32 (a i)) else (fun _ => canon .f32 0, 1)
theorem finFilm_congr {w : World} {p q : Nat → Option Nat} {e : Ending} {w' : World} (h : ∀ i, i < 48 → p i = q i) (hr : RetCC 48 w (finFilmRes p).1 (finFilmRes p).2 e w') : RetCC 48 w (finFilmRes q).1 (finFilmRes q).2 e w' := by
  have ha : finFilm p = finFilm q := by
    unfold finFilm
    rw [allTo_congr (q := fun i => fin (q i)) fun i hi => by rw [h i (by omega)], allTo_congr (p := fun i => fin (p (16 + i))) (q := fun i => fin (q (16 + i))) fun i hi => by rw [h _ (by omega)],
      allTo_congr (p := fun i => fin (p (32 + i))) (q := fun i => fin (q (32 + i))) fun i hi => by rw [h _ (by omega)]]
  unfold finFilmRes at hr ⊢
  rw [ha] at hr
  cases hq : finFilm q with
  | false => rw [hq] at hr; exact hr
  | true =>
    rw [hq] at hr
    obtain ⟨r, h1, h2, h3⟩ := hr
    exact ⟨r, h1, fun i hi => (h2 i hi).trans (h i hi), h3⟩

/-- Two numbers and whether they may be. -/
def RetD (w : World) (p : Option Nat × Option Nat) (ok : Bool) (e : Ending) (w' : World) : Prop := ∃ r t, e = .returned (.tuple #[.float .f32 r, .float .f32 t, .bool ok]) ∧ canon .f32 r = p.1 ∧ canon .f32 t = p.2 ∧ Drawn w w'
theorem RetD.as {w : World} {p : Option Nat × Option Nat} {c : Bool} {q : (Option Nat × Option Nat) × Bool} {e : Ending} {w' : World} (h : q = (p, c)) (hr : RetD w p c e w') : RetD w q.1 q.2 e w' := by subst h; exact hr
theorem results_tmp3 {P : Program} {fn : Func} {a b c : Tmp} (h : fn.results = #[.tmp a, .tmp b, .tmp c]) (tmps : Array Value) (w : World) :
    (results fn tmps).run P w = .ok (.tuple #[tmps.getD a undef, tmps.getD b undef, tmps.getD c undef]) w := by
  simp [results, h]
def dblRes (k s x : Option Nat) : (Option Nat × Option Nat) × Bool := if tooStrong k s (thinX x) then ((canon .f32 0, canon .f32 0), false) else (dblN (thin k s (thinX x)) 10, true)

theorem doubled_any (k s x : Nat) (w : World) : Calls Try.prog 48 #[.float .f32 k, .float .f32 s, .float .f32 x] w (RetD w (dblRes (canon .f32 k) (canon .f32 s) (canon .f32 x)).1 (dblRes (canon .f32 k) (canon .f32 s) (canon .f32 x)).2) := by
  go_enter Try.func48, Try.ntmps48
  go_wp2_with fail
  refine (mul_any _ _ _).mono ?_
  rintro e w1 ⟨r1, rfl, hr1, n1, rfl⟩
  have H1 := Lib.hid hr1
  clear hr1
  go_wp2_with fail
  refine (mul_any _ _ _).mono ?_
  rintro e w1 ⟨r2, rfl, hr2, n2, rfl⟩
  have H2 := Lib.hid hr2
  clear hr2
  go_wp2_with fail
  refine (mul_any _ _ _).mono ?_
  rintro e w1 ⟨r3, rfl, hr3, n3, rfl⟩
  have H3 := Lib.hid hr3
  clear hr3
  have T1 : Hid (canon .f32 r1 = thinR (canon .f32 s) (thinX (canon .f32 x))) := Lib.hid (by rw [H1.out, c_div]; rfl)
  have T2 : Hid (∀ w1 w2, canon .f32 (fval .sub .f32 (fval .sub .f32 1065353216 r2 w1) r3 w2) = thinT (canon .f32 k) (canon .f32 s) (thinX (canon .f32 x))) := Lib.hid (fun w1 w2 => by rw [c_sub, c_sub, H2.out, H3.out, c_div]; rfl)
  have hc1 : ∀ w1 w2, (FloatKind.f32.format.order (fval .sub .f32 (fval .sub .f32 1065353216 r2 w1) r3 w2) 0 == some .lt) = flt (thinT (canon .f32 k) (canon .f32 s) (thinX (canon .f32 x))) (canon .f32 0) := fun w1 w2 => by rw [o_lt, T2.out]
  have hc2 : (FloatKind.f32.format.order r1 1065353216 == some .gt) = fgt (thinR (canon .f32 s) (thinX (canon .f32 x))) (canon .f32 1065353216) := by rw [o_gt, T1.out]
  clear H1 H2 H3
  cases h1 : flt (thinT (canon .f32 k) (canon .f32 s) (thinX (canon .f32 x))) (canon .f32 0) with
  | true =>
    have Hm : Hid (dblRes (canon .f32 k) (canon .f32 s) (canon .f32 x) = ((canon .f32 0, canon .f32 0), false)) := Lib.hid (by unfold dblRes tooStrong strong; rw [h1]; rfl)
    rw [h1] at hc1
    clear h1 hc2
    go_wp2
    exact bodyPost_ret (results_tmp3 rfl _ _) rfl (RetD.as Hm.out ⟨_, _, rfl, rfl, rfl, _, rfl⟩)
  | false =>
    rw [h1] at hc1
    cases h2 : fgt (thinR (canon .f32 s) (thinX (canon .f32 x))) (canon .f32 1065353216) with
    | true =>
      have Hm : Hid (dblRes (canon .f32 k) (canon .f32 s) (canon .f32 x) = ((canon .f32 0, canon .f32 0), false)) := Lib.hid (by unfold dblRes tooStrong strong; rw [h1, h2]; rfl)
      rw [h2] at hc2
      clear h1 h2
      go_wp2
      exact bodyPost_ret (results_tmp3 rfl _ _) rfl (RetD.as Hm.out ⟨_, _, rfl, rfl, rfl, _, rfl⟩)
    | false =>
      have Hm : Hid (dblRes (canon .f32 k) (canon .f32 s) (canon .f32 x) = (dblN (thin (canon .f32 k) (canon .f32 s) (thinX (canon .f32 x))) 10, true)) := Lib.hid (by unfold dblRes tooStrong strong; rw [h1, h2]; rfl)
      rw [h2] at hc2
      clear h1 h2
      go_wp2
      clear hc1 hc2
      go_loopw [10, 11, 12, 13, 33] (fun r t _ _ i wr => ∃ (n rr tt : Nat), n ≤ 10 ∧ i = .int .i64 n ∧ r = .float .f32 rr ∧ t = .float .f32 tt ∧ Hid ((canon .f32 rr, canon .f32 tt) = dblN (thin (canon .f32 k) (canon .f32 s) (thinX (canon .f32 x))) n) ∧ ∃ n, wr = w.drewN n) (fun _ _ _ _ i _ => 10 - (intOf i).toNat)
      case atStart => exact ⟨0, _, _, by omega, rfl, rfl, rfl, Lib.hid (by rw [T1.out, T2.out]; rfl), _, rfl⟩
      case round =>
        clear T1 T2
        obtain ⟨n, rr, tt, hn, rfl, rfl, rfl, HR, n0, rfl⟩ := hrel
        by_cases hlt : n < 10
        · go_wp2_with fail
          refine (mul_any _ _ _).mono ?_
          rintro e w1 ⟨q1, rfl, hq1, m1, rfl⟩
          have Q1 := Lib.hid hq1
          clear hq1
          go_wp2_with fail
          refine (mul_any _ _ _).mono ?_
          rintro e w1 ⟨q2, rfl, hq2, m2, rfl⟩
          have Q2 := Lib.hid hq2
          clear hq2
          go_wp2_with fail
          refine (mul_any _ _ _).mono ?_
          rintro e w1 ⟨q3, rfl, hq3, m3, rfl⟩
          have Q3 := Lib.hid hq3
          clear hq3
          go_wp2
          go_roundw
          case rel => exact ⟨n + 1, _, _, by omega, by go_num, rfl, rfl, Lib.hid (by rw [c_add, c_div, c_div, Q3.out, Q2.out, c_sub, Q1.out]; show dbl (canon .f32 rr, canon .f32 tt) = _; rw [HR.out]; rfl), _, rfl⟩
          case measure => simp [intOf]; omega
        · obtain rfl : n = 10 := by omega
          go_wp2
          exact bodyPost_ret (results_tmp3 rfl _ _) rfl (RetD.as Hm.out ⟨_, _, rfl, congrArg (·.1) HR.out, congrArg (·.2) HR.out, _, rfl⟩)
end Go.Proofs.Ytfpjiclkhjdihaa

namespace Go.Proofs.Ytfpjiclkhjdihaa
open Go.RowKit
set_option maxRecDepth 100000

theorem at0 (a : Nat → Nat) (i : Nat) : rowAt a 0 i = a i := by simp [rowAt]

theorem finiteFilm_any (a : Nat → Nat) (w : World) : Calls Try.prog 49 #[.agg (fA 48 a)] w (RetCC 48 w (finFilmRes fun i => canon .f32 (a i)).1 (finFilmRes fun i => canon .f32 (a i)).2) := by
  have hA : Blk ((w.alloc (.cells (fA 48 a) 28)).alloc (.cells (fA 48 fun _ => 0) 28)) w.heap.size 28 (fA 48 a) := (Blk.new _ _ _).alloc _
  have hZ : Blk ((w.alloc (.cells (fA 48 a) 28)).alloc (.cells (fA 48 fun _ => 0) 28)) (w.heap.size + 1) 28 (fA 48 fun _ => 0) := Blk.new_at _ _ (by simp) rfl
  have hb : Below w.heap.size w ((w.alloc (.cells (fA 48 a) 28)).alloc (.cells (fA 48 fun _ => 0) 28)) := (by repeat (first | assumption | exact Below.refl _ _ | refine bDrew ?_ _ | refine Below.alloc ?_ (by first | omega | (simp; done) | (simp; omega)) _ | refine Below.setCell ?_ (by first | omega | (simp; done) | (simp; omega)) _ | refine bRow ?_ (by first | omega | (simp; done) | (simp; omega)) _))
  go_enter Try.func49, Try.ntmps49
  go_wp2_with (refine wpList_load_part rfl 26 _ rfl 0 16 hA rfl (by decide) Try.underlying26 rfl (by kernel_rfl) ?_)
  refine (iIsFiniteCurve_any (rowAt a 0) _).mono ?_
  rintro e w1 ⟨rfl, hb1⟩
  have hA := hA.below hb1 hA.lt
  have hZ := hZ.below hb1 hZ.lt
  have hb := bCall hb hb1 hb.size; clear hb1
  cases h0 : (allTo 16 fun i => fin (canon .f32 (rowAt a 0 i))) with
  | false =>
    have Hm : Hid ((finFilmRes fun i => canon .f32 (a i)) = (fun _ => canon .f32 0, 4)) := Lib.hid (by unfold finFilmRes finFilm; simp only [at0] at h0; rw [h0]; rfl)
    clear h0
    go_wp2_with (first | (refine wpList_build_as rfl 28 _ rfl (fA 48 fun _ => 0) (by kernel_rfl) ?_) | (refine wpList_store_row rfl 28 _ _ rfl _ _ rfl rfl _ _ hZ (by kernel_rfl) (by simp only [size_fA]) (all_fA _ _) ?_)); exact bodyPost_ret (results_cell_row2 rfl _ _ (w.heap.size + 1) _ _ _ _ rfl hZ.setRow Try.underlying28 rfl (by kernel_rfl)) rfl (RetCC.as Hm.out ⟨_, rfl, fun _ _ => rfl, (by repeat (first | assumption | exact Below.refl _ _ | refine bDrew ?_ _ | refine Below.alloc ?_ (by first | omega | (simp; done) | (simp; omega)) _ | refine Below.setCell ?_ (by first | omega | (simp; done) | (simp; omega)) _ | refine bRow ?_ (by first | omega | (simp; done) | (simp; omega)) _))⟩)
  | true =>
    have H0 := Lib.hid h0
    clear h0
    go_wp2_with (refine wpList_load_partW rfl 26 _ rfl 16 16 hA rfl (by decide) Try.underlying26 rfl (by kernel_rfl) ?_)
    refine (iIsFiniteCurve_any (rowAt a 16) _).mono ?_
    rintro e w2 ⟨rfl, hb1⟩
    have hA := hA.below hb1 hA.lt
    have hZ := hZ.below hb1 hZ.lt
    have hb := bCall hb hb1 hb.size; clear hb1
    cases h1 : (allTo 16 fun i => fin (canon .f32 (rowAt a 16 i))) with
    | false =>
      have Hm : Hid ((finFilmRes fun i => canon .f32 (a i)) = (fun _ => canon .f32 0, 4)) := Lib.hid (by have h0 := H0.out; unfold finFilmRes finFilm; simp only [at0] at h0; simp only [rowAt] at h1; rw [h0, h1]; rfl)
      clear h1
      go_wp2_with (first | (refine wpList_build_as rfl 28 _ rfl (fA 48 fun _ => 0) (by kernel_rfl) ?_) | (refine wpList_store_row rfl 28 _ _ rfl _ _ rfl rfl _ _ hZ (by kernel_rfl) (by simp only [size_fA]) (all_fA _ _) ?_)); exact bodyPost_ret (results_cell_row2 rfl _ _ (w.heap.size + 1) _ _ _ _ rfl hZ.setRow Try.underlying28 rfl (by kernel_rfl)) rfl (RetCC.as Hm.out ⟨_, rfl, fun _ _ => rfl, (by repeat (first | assumption | exact Below.refl _ _ | refine bDrew ?_ _ | refine Below.alloc ?_ (by first | omega | (simp; done) | (simp; omega)) _ | refine Below.setCell ?_ (by first | omega | (simp; done) | (simp; omega)) _ | refine bRow ?_ (by first | omega | (simp; done) | (simp; omega)) _))⟩)
    | true =>
      have H1 := Lib.hid h1
      clear h1
      go_wp2_with (refine wpList_load_partW rfl 26 _ rfl 32 16 hA rfl (by decide) Try.underlying26 rfl (by kernel_rfl) ?_)
      refine (iIsFiniteCurve_any (rowAt a 32) _).mono ?_
      rintro e w3 ⟨rfl, hb1⟩
      have hA := hA.below hb1 hA.lt
      have hZ := hZ.below hb1 hZ.lt
      have hb := bCall hb hb1 hb.size; clear hb1
      cases h2 : (allTo 16 fun i => fin (canon .f32 (rowAt a 32 i))) with
      | false =>
        have Hm : Hid ((finFilmRes fun i => canon .f32 (a i)) = (fun _ => canon .f32 0, 4)) := Lib.hid (by have h0 := H0.out; have h1 := H1.out; unfold finFilmRes finFilm; simp only [at0] at h0; simp only [rowAt] at h1 h2; rw [h0, h1, h2]; rfl)
        clear h2
        go_wp2_with (first | (refine wpList_build_as rfl 28 _ rfl (fA 48 fun _ => 0) (by kernel_rfl) ?_) | (refine wpList_store_row rfl 28 _ _ rfl _ _ rfl rfl _ _ hZ (by kernel_rfl) (by simp only [size_fA]) (all_fA _ _) ?_)); exact bodyPost_ret (results_cell_row2 rfl _ _ (w.heap.size + 1) _ _ _ _ rfl hZ.setRow Try.underlying28 rfl (by kernel_rfl)) rfl (RetCC.as Hm.out ⟨_, rfl, fun _ _ => rfl, (by repeat (first | assumption | exact Below.refl _ _ | refine bDrew ?_ _ | refine Below.alloc ?_ (by first | omega | (simp; done) | (simp; omega)) _ | refine Below.setCell ?_ (by first | omega | (simp; done) | (simp; omega)) _ | refine bRow ?_ (by first | omega | (simp; done) | (simp; omega)) _))⟩)
      | true =>
        have Hm : Hid ((finFilmRes fun i => canon .f32 (a i)) = (fun i => canon .f32 (a i), 0)) := Lib.hid (by have h0 := H0.out; have h1 := H1.out; unfold finFilmRes finFilm; simp only [at0] at h0; simp only [rowAt] at h1 h2; rw [h0, h1, h2]; rfl)
        clear h2
        go_wp2_with (first | (refine wpList_load_row rfl 28 _ rfl _ rfl _ _ (0, 0) _ hA Try.underlying28 rfl (by kernel_rfl) ?_) | (refine wpList_store_row rfl 28 _ _ rfl _ _ rfl rfl _ _ hZ (by kernel_rfl) (by simp only [size_fA]) (all_fA _ _) ?_))
        exact bodyPost_ret (results_cell_row2 rfl _ _ (w.heap.size + 1) _ _ _ _ rfl hZ.setRow Try.underlying28 rfl (by kernel_rfl)) rfl (RetCC.as Hm.out ⟨_, rfl, fun _ _ => rfl, (by repeat (first | assumption | exact Below.refl _ _ | refine bDrew ?_ _ | refine Below.alloc ?_ (by first | omega | (simp; done) | (simp; omega)) _ | refine Below.setCell ?_ (by first | omega | (simp; done) | (simp; omega)) _ | refine bRow ?_ (by first | omega | (simp; done) | (simp; omega)) _))⟩)
theorem l02Made_any (a : Nat → Nat) (w : World) : Calls Try.prog 64 #[.agg (fA 48 a)] w (RetCC 48 w (finFilmRes fun i => canon .f32 (a i)).1 (finFilmRes fun i => canon .f32 (a i)).2) := by
  have hA : Blk ((w.alloc (.cells (fA 48 a) 28)).alloc (.cells (fA 48 fun _ => 0) 28)) w.heap.size 28 (fA 48 a) := (Blk.new _ _ _).alloc _
  have hZ : Blk ((w.alloc (.cells (fA 48 a) 28)).alloc (.cells (fA 48 fun _ => 0) 28)) (w.heap.size + 1) 28 (fA 48 fun _ => 0) := Blk.new_at _ _ (by simp) rfl
  have hb : Below w.heap.size w ((w.alloc (.cells (fA 48 a) 28)).alloc (.cells (fA 48 fun _ => 0) 28)) := (by repeat (first | assumption | exact Below.refl _ _ | refine bDrew ?_ _ | refine Below.alloc ?_ (by first | omega | (simp; done) | (simp; omega)) _ | refine Below.setCell ?_ (by first | omega | (simp; done) | (simp; omega)) _ | refine bRow ?_ (by first | omega | (simp; done) | (simp; omega)) _))
  go_enter Try.func64, Try.ntmps64
  go_wp2_with (refine wpList_load_part rfl 26 _ rfl 0 16 hA rfl (by decide) Try.underlying26 rfl (by kernel_rfl) ?_)
  refine (l01Curve_any (rowAt a 0) _).mono ?_
  rintro e w1 ⟨rfl, hb1⟩
  have hA := hA.below hb1 hA.lt
  have hZ := hZ.below hb1 hZ.lt
  have hb := bCall hb hb1 hb.size; clear hb1
  cases h0 : (allTo 16 fun i => fin (canon .f32 (rowAt a 0 i))) with
  | false =>
    have Hm : Hid ((finFilmRes fun i => canon .f32 (a i)) = (fun _ => canon .f32 0, 4)) := Lib.hid (by unfold finFilmRes finFilm; simp only [at0] at h0; rw [h0]; rfl)
    clear h0
    go_wp2_with (first | (refine wpList_build_as rfl 28 _ rfl (fA 48 fun _ => 0) (by kernel_rfl) ?_) | (refine wpList_store_row rfl 28 _ _ rfl _ _ rfl rfl _ _ hZ (by kernel_rfl) (by simp only [size_fA]) (all_fA _ _) ?_)); exact bodyPost_ret (results_cell_row2 rfl _ _ (w.heap.size + 1) _ _ _ _ rfl hZ.setRow Try.underlying28 rfl (by kernel_rfl)) rfl (RetCC.as Hm.out ⟨_, rfl, fun _ _ => rfl, (by repeat (first | assumption | exact Below.refl _ _ | refine bDrew ?_ _ | refine Below.alloc ?_ (by first | omega | (simp; done) | (simp; omega)) _ | refine Below.setCell ?_ (by first | omega | (simp; done) | (simp; omega)) _ | refine bRow ?_ (by first | omega | (simp; done) | (simp; omega)) _))⟩)
  | true =>
    have H0 := Lib.hid h0
    clear h0
    go_wp2_with (refine wpList_load_partW rfl 26 _ rfl 16 16 hA rfl (by decide) Try.underlying26 rfl (by kernel_rfl) ?_)
    refine (l01Curve_any (rowAt a 16) _).mono ?_
    rintro e w2 ⟨rfl, hb1⟩
    have hA := hA.below hb1 hA.lt
    have hZ := hZ.below hb1 hZ.lt
    have hb := bCall hb hb1 hb.size; clear hb1
    cases h1 : (allTo 16 fun i => fin (canon .f32 (rowAt a 16 i))) with
    | false =>
      have Hm : Hid ((finFilmRes fun i => canon .f32 (a i)) = (fun _ => canon .f32 0, 4)) := Lib.hid (by have h0 := H0.out; unfold finFilmRes finFilm; simp only [at0] at h0; simp only [rowAt] at h1; rw [h0, h1]; rfl)
      clear h1
      go_wp2_with (first | (refine wpList_build_as rfl 28 _ rfl (fA 48 fun _ => 0) (by kernel_rfl) ?_) | (refine wpList_store_row rfl 28 _ _ rfl _ _ rfl rfl _ _ hZ (by kernel_rfl) (by simp only [size_fA]) (all_fA _ _) ?_)); exact bodyPost_ret (results_cell_row2 rfl _ _ (w.heap.size + 1) _ _ _ _ rfl hZ.setRow Try.underlying28 rfl (by kernel_rfl)) rfl (RetCC.as Hm.out ⟨_, rfl, fun _ _ => rfl, (by repeat (first | assumption | exact Below.refl _ _ | refine bDrew ?_ _ | refine Below.alloc ?_ (by first | omega | (simp; done) | (simp; omega)) _ | refine Below.setCell ?_ (by first | omega | (simp; done) | (simp; omega)) _ | refine bRow ?_ (by first | omega | (simp; done) | (simp; omega)) _))⟩)
    | true =>
      have H1 := Lib.hid h1
      clear h1
      go_wp2_with (refine wpList_load_partW rfl 26 _ rfl 32 16 hA rfl (by decide) Try.underlying26 rfl (by kernel_rfl) ?_)
      refine (l01Curve_any (rowAt a 32) _).mono ?_
      rintro e w3 ⟨rfl, hb1⟩
      have hA := hA.below hb1 hA.lt
      have hZ := hZ.below hb1 hZ.lt
      have hb := bCall hb hb1 hb.size; clear hb1
      cases h2 : (allTo 16 fun i => fin (canon .f32 (rowAt a 32 i))) with
      | false =>
        have Hm : Hid ((finFilmRes fun i => canon .f32 (a i)) = (fun _ => canon .f32 0, 4)) := Lib.hid (by have h0 := H0.out; have h1 := H1.out; unfold finFilmRes finFilm; simp only [at0] at h0; simp only [rowAt] at h1 h2; rw [h0, h1, h2]; rfl)
        clear h2
        go_wp2_with (first | (refine wpList_build_as rfl 28 _ rfl (fA 48 fun _ => 0) (by kernel_rfl) ?_) | (refine wpList_store_row rfl 28 _ _ rfl _ _ rfl rfl _ _ hZ (by kernel_rfl) (by simp only [size_fA]) (all_fA _ _) ?_)); exact bodyPost_ret (results_cell_row2 rfl _ _ (w.heap.size + 1) _ _ _ _ rfl hZ.setRow Try.underlying28 rfl (by kernel_rfl)) rfl (RetCC.as Hm.out ⟨_, rfl, fun _ _ => rfl, (by repeat (first | assumption | exact Below.refl _ _ | refine bDrew ?_ _ | refine Below.alloc ?_ (by first | omega | (simp; done) | (simp; omega)) _ | refine Below.setCell ?_ (by first | omega | (simp; done) | (simp; omega)) _ | refine bRow ?_ (by first | omega | (simp; done) | (simp; omega)) _))⟩)
      | true =>
        have Hm : Hid ((finFilmRes fun i => canon .f32 (a i)) = (fun i => canon .f32 (a i), 0)) := Lib.hid (by have h0 := H0.out; have h1 := H1.out; unfold finFilmRes finFilm; simp only [at0] at h0; simp only [rowAt] at h1 h2; rw [h0, h1, h2]; rfl)
        clear h2
        go_wp2_with (first | (refine wpList_load_row rfl 28 _ rfl _ rfl _ _ (0, 0) _ hA Try.underlying28 rfl (by kernel_rfl) ?_) | (refine wpList_store_row rfl 28 _ _ rfl _ _ rfl rfl _ _ hZ (by kernel_rfl) (by simp only [size_fA]) (all_fA _ _) ?_))
        exact bodyPost_ret (results_cell_row2 rfl _ _ (w.heap.size + 1) _ _ _ _ rfl hZ.setRow Try.underlying28 rfl (by kernel_rfl)) rfl (RetCC.as Hm.out ⟨_, rfl, fun _ _ => rfl, (by repeat (first | assumption | exact Below.refl _ _ | refine bDrew ?_ _ | refine Below.alloc ?_ (by first | omega | (simp; done) | (simp; omega)) _ | refine Below.setCell ?_ (by first | omega | (simp; done) | (simp; omega)) _ | refine bRow ?_ (by first | omega | (simp; done) | (simp; omega)) _))⟩)
/-- What a walk over the wavelengths has filled in. -/
def Filled (c : Nat → Option Nat) (cur : Nat → Nat) (k : Nat) : Prop := ∀ j, j < k → canon .f32 (cur j) = filmAt c j ∧ canon .f32 (cur (16 + j)) = filmAt c (16 + j) ∧ canon .f32 (cur (32 + j)) = filmAt c (32 + j)
theorem Filled.next {c : Nat → Option Nat} {cur : Nat → Nat} {k r t : Nat} (h : Filled c cur k) (hk : k < 16) (hr : canon .f32 r = (dblN (thin (c k) (c (16 + k)) (thinX (c 32))) 10).1) (ht : canon .f32 t = (dblN (thin (c k) (c (16 + k)) (thinX (c 32))) 10).2) :
    Filled c (upd (upd (upd cur k r) (16 + k) r) (32 + k) t) (k + 1) := by
  intro j hj
  have e1 : filmAt c k = (dblN (thin (c k) (c (16 + k)) (thinX (c 32))) 10).1 := by unfold filmAt; rw [if_pos hk]
  have e2 : filmAt c (16 + k) = (dblN (thin (c k) (c (16 + k)) (thinX (c 32))) 10).1 := by unfold filmAt; rw [if_neg (by omega), if_pos (by omega), show 16 + k - 16 = k by omega]
  have e3 : filmAt c (32 + k) = (dblN (thin (c k) (c (16 + k)) (thinX (c 32))) 10).2 := by unfold filmAt; rw [if_neg (by omega), if_neg (by omega), show 32 + k - 32 = k by omega, show 32 + k - 16 = 16 + k by omega]
  by_cases e : j = k
  · subst e
    refine ⟨?_, ?_, ?_⟩
    · rw [upd_other _ _ (by omega), upd_other _ _ (by omega), upd_same, hr, e1]
    · rw [upd_other _ _ (by omega), upd_same, hr, e2]
    · rw [upd_same, ht, e3]
  · obtain ⟨h1, h2, h3⟩ := h j (by omega)
    refine ⟨?_, ?_, ?_⟩
    · rw [upd_other _ _ (by omega), upd_other _ _ (by omega), upd_other _ _ (by omega), h1]
    · rw [upd_other _ _ (by omega), upd_other _ _ (by omega), upd_other _ _ (by omega), h2]
    · rw [upd_other _ _ (by omega), upd_other _ _ (by omega), upd_other _ _ (by omega), h3]
theorem Filled.all {c : Nat → Option Nat} {cur : Nat → Nat} (h : Filled c cur 16) : ∀ i, i < 48 → canon .f32 (cur i) = filmAt c i := by
  intro i hi
  by_cases h1 : i < 16
  · exact (h i h1).1
  · by_cases h2 : i < 32
    · have := (h (i - 16) (by omega)).2.1
      rwa [show 16 + (i - 16) = i by omega] at this
    · have := (h (i - 32) (by omega)).2.2
      rwa [show 32 + (i - 32) = i by omega] at this
/-- What the call of 'doubled' gives. -/
def GD (_f : FuncId) (args : Array Value) (u : Value) : Prop := ∃ k s x r t, args = #[.float .f32 k, .float .f32 s, .float .f32 x] ∧ u = .tuple #[.float .f32 r, .float .f32 t, .bool (dblRes (canon .f32 k) (canon .f32 s) (canon .f32 x)).2] ∧
  canon .f32 r = (dblRes (canon .f32 k) (canon .f32 s) (canon .f32 x)).1.1 ∧ canon .f32 t = (dblRes (canon .f32 k) (canon .f32 s) (canon .f32 x)).1.2
theorem GD.inv {f : FuncId} {k s x : Nat} {u : Value} (h : GD f #[.float .f32 k, .float .f32 s, .float .f32 x] u) : ∃ r t, u = .tuple #[.float .f32 r, .float .f32 t, .bool (dblRes (canon .f32 k) (canon .f32 s) (canon .f32 x)).2] ∧
    Hid (canon .f32 r = (dblRes (canon .f32 k) (canon .f32 s) (canon .f32 x)).1.1 ∧ canon .f32 t = (dblRes (canon .f32 k) (canon .f32 s) (canon .f32 x)).1.2) := by
  obtain ⟨k', s', x', r, t, ha, hu, h1, h2⟩ := h
  simp only [Array.mk.injEq, List.cons.injEq, Value.float.injEq, true_and, and_true] at ha
  obtain ⟨rfl, rfl, rfl⟩ := ha
  exact ⟨r, t, hu, Lib.hid ⟨h1, h2⟩⟩

set_option maxHeartbeats 2000000 in
theorem iFilmOf_any (a : Nat → Nat) (w : World) : Calls Try.prog 23 #[.agg (fA 33 a)] w (RetCC 48 w (filmOfRes a).1 (filmOfRes a).2) := by
  have hA : Blk ((w.alloc (.cells (fA 33 a) 41)).alloc (.cells (fA 48 fun _ => 0) 28)) w.heap.size 41 (fA 33 a) := (Blk.new _ _ _).alloc _
  have hZ : Blk ((w.alloc (.cells (fA 33 a) 41)).alloc (.cells (fA 48 fun _ => 0) 28)) (w.heap.size + 1) 28 (fA 48 fun _ => 0) := Blk.new_at _ _ (by simp) rfl
  have hb : Below w.heap.size w ((w.alloc (.cells (fA 33 a) 41)).alloc (.cells (fA 48 fun _ => 0) 28)) := (by repeat (first | assumption | exact Below.refl _ _ | refine bDrew ?_ _ | refine Below.alloc ?_ (by first | omega | (simp; done) | (simp; omega)) _ | refine Below.setCell ?_ (by first | omega | (simp; done) | (simp; omega)) _ | refine bRow ?_ (by first | omega | (simp; done) | (simp; omega)) _))
  go_enter Try.func23, Try.ntmps23
  go_wp2_with (refine wpList_load_row rfl 41 _ rfl _ rfl _ _ (0, 0) _ hA Try.underlying41 rfl (by kernel_rfl) ?_)
  refine (iValidLayer_any a _).mono ?_
  rintro e w1 ⟨rfl, hb1⟩
  have hA := hA.below hb1 hA.lt
  have hZ := hZ.below hb1 hZ.lt
  have hb := bCall hb hb1 hb.size; clear hb1
  cases hs : layerOk a with
  | false =>
    have Hm : Hid (filmOfRes a = (fun _ => canon .f32 0, 1)) := Lib.hid (by unfold filmOfRes; rw [hs]; rfl)
    clear hs
    go_wp2_with (first | (refine wpList_build_as rfl 28 _ rfl (fA 48 fun _ => 0) (by kernel_rfl) ?_) | (refine wpList_store_row rfl 28 _ _ rfl _ _ rfl rfl _ _ hZ (by kernel_rfl) (by simp only [size_fA]) (all_fA _ _) ?_)); exact bodyPost_ret (results_cell_row2 rfl _ _ (w.heap.size + 1) _ _ _ _ rfl hZ.setRow Try.underlying28 rfl (by kernel_rfl)) rfl (RetCC.as Hm.out ⟨_, rfl, fun _ _ => rfl, (by repeat (first | assumption | exact Below.refl _ _ | refine bDrew ?_ _ | refine Below.alloc ?_ (by first | omega | (simp; done) | (simp; omega)) _ | refine Below.setCell ?_ (by first | omega | (simp; done) | (simp; omega)) _ | refine bRow ?_ (by first | omega | (simp; done) | (simp; omega)) _))⟩)
  | true =>
    have HM : Hid (filmOfRes a = filmMade fun i => canon .f32 (a i)) := Lib.hid (by simp only [filmOfRes, hs, if_true])
    clear hs
    have hO : Blk (w1.alloc (.cells (fA 48 fun _ => 0) 28)) w1.heap.size 28 (fA 48 fun _ => 0) := Blk.new _ _ _
    have hO2 : Blk ((w1.alloc (.cells (fA 48 fun _ => 0) 28)).setRow w1.heap.size (fA 48 fun _ => 0)) w1.heap.size 28 (fA 48 fun _ => 0) := hO.setRow
    have hA2 : Blk ((w1.alloc (.cells (fA 48 fun _ => 0) 28)).setRow w1.heap.size (fA 48 fun _ => 0)) w.heap.size 41 (fA 33 a) := (hA.alloc _).farRow (by have := hA.lt; omega)
    have hZ2 : Blk ((w1.alloc (.cells (fA 48 fun _ => 0) 28)).setRow w1.heap.size (fA 48 fun _ => 0)) (w.heap.size + 1) 28 (fA 48 fun _ => 0) := (hZ.alloc _).farRow (by have := hZ.lt; omega)
    have hb2 : Below w.heap.size w ((w1.alloc (.cells (fA 48 fun _ => 0) 28)).setRow w1.heap.size (fA 48 fun _ => 0)) := bRow (Below.alloc hb hb.size _) hb.size _
    have hg : w.heap.size + 1 < w1.heap.size := hZ.lt
    clear hA hZ hb
    go_wp2_with (first | (refine wpList_build_as rfl 28 _ rfl (fA 48 fun _ => 0) (by kernel_rfl) ?_) | (refine wpList_store_row rfl 28 _ _ rfl _ _ rfl rfl _ _ hO (by kernel_rfl) (by simp only [size_fA]) (all_fA _ _) ?_))
    go_loopw [5, 6, 7, 8, 14] (fun _ _ _ _ i wr => ∃ (k : Nat) (cur : Nat → Nat), k ≤ 16 ∧ i = .int .i64 k ∧ Below w.heap.size w wr ∧ Blk wr w.heap.size 41 (fA 33 a) ∧ Blk wr (w.heap.size + 1) 28 (fA 48 fun _ => 0) ∧ Blk wr w1.heap.size 28 (fA 48 cur) ∧ Hid ((∀ j, j < k → (!tooStrong (canon .f32 (a j)) (canon .f32 (a (16 + j))) (thinX (canon .f32 (a 32)))) = true) ∧ Filled (fun i => canon .f32 (a i)) cur k)) (fun _ _ _ _ i _ => 16 - (intOf i).toNat)
    case atStart => exact ⟨0, fun _ => 0, by omega, rfl, hb2, hA2, hZ2, hO2, Lib.hid ⟨fun j h => absurd h (by omega), fun j h => absurd h (by omega)⟩⟩
    case round =>
      clear hO hO2 hA2 hZ2 hb2
      obtain ⟨k, cur, hk, rfl, hb, hA, hZ, hC, HC⟩ := hrel
      by_cases hlt : k < 16
      · have c0 : wr.cell? ⟨w.heap.size, k, none⟩ = some (.float .f32 (a k)) := (hA.cell k).trans (get_fA_lt a (by omega))
        have c1 : wr.cell? ⟨w.heap.size, 16 + k, none⟩ = some (.float .f32 (a (16 + k))) := (hA.cell (16 + k)).trans (get_fA_lt a (by omega))
        have c2 : wr.cell? ⟨w.heap.size, 32, none⟩ = some (.float .f32 (a 32)) := (hA.cell 32).trans (get_fA_lt a (by omega))
        go_wp2_with fail
        (refine wp_region_loose_lit (fun w' => ∃ n, w' = wr.drewN n) (GD) (by kernel_rfl) (by kernel_rfl) ⟨1, rfl⟩ ?_)
        repeat (refine wpLoose_plain rfl (fun K hK w1 hw1 => ?_); obtain ⟨n, rfl⟩ := hw1; go_simp; refine ⟨⟨_, rfl⟩, hK _ ?_⟩; clear hK K)
        refine wpLoose_plain rfl (fun K hK w1 hw1 => ?_); obtain ⟨n1, rfl⟩ := hw1; go_simp; refine ⟨⟨_, rfl⟩, (doubled_any _ _ _ _).mono ?_, fun u hu => hK _ ?_⟩; (rintro e w' ⟨r, t, rfl, hr, ht, m, rfl⟩; exact ⟨_, rfl, ⟨_, _, _, r, t, rfl, rfl, hr, ht⟩, _, by rw [World.drewN_drewN]⟩); clear hK K; obtain ⟨r, t, rfl, HR⟩ := GD.inv hu; clear hu
        repeat (refine wpLoose_plain rfl (fun K hK w1 hw1 => ?_); obtain ⟨n, rfl⟩ := hw1; go_simp; refine ⟨⟨_, rfl⟩, hK _ ?_⟩; clear hK K)
        (refine wpLoose_nil ?_; intro _ hw'; obtain ⟨nq, rfl⟩ := hw')
        clear c0 c1 c2
        cases hs : tooStrong (canon .f32 (a k)) (canon .f32 (a (16 + k))) (thinX (canon .f32 (a 32))) with
        | true =>
          have Hm : Hid (filmOfRes a = (fun _ => canon .f32 0, 3)) := Lib.hid (by
            have hq : (allTo 16 fun i => !tooStrong (canon .f32 (a i)) (canon .f32 (a (16 + i))) (thinX (canon .f32 (a 32)))) = false := allTo_false hlt (by rw [hs]; rfl)
            simp only [HM.out, filmMade, hq, Bool.false_eq_true, if_false])
          have hd : (dblRes (canon .f32 (a k)) (canon .f32 (a (16 + k))) (canon .f32 (a 32))).2 = false := by simp only [dblRes, hs, if_true]
          have hZ := Blk.drewN hZ nq
          have hb := bDrew hb nq
          clear hs
          go_wp2_with (first | (refine wpList_build_as rfl 28 _ rfl (fA 48 fun _ => 0) (by kernel_rfl) ?_) | (refine wpList_store_row rfl 28 _ _ rfl _ _ rfl rfl _ _ hZ (by kernel_rfl) (by simp only [size_fA]) (all_fA _ _) ?_)); exact bodyPost_ret (results_cell_row2 rfl _ _ (w.heap.size + 1) _ _ _ _ rfl hZ.setRow Try.underlying28 rfl (by kernel_rfl)) rfl (RetCC.as Hm.out ⟨_, rfl, fun _ _ => rfl, (by repeat (first | assumption | exact Below.refl _ _ | refine bDrew ?_ _ | refine Below.alloc ?_ (by first | omega | (simp; done) | (simp; omega)) _ | refine Below.setCell ?_ (by first | omega | (simp; done) | (simp; omega)) _ | refine bRow ?_ (by first | omega | (simp; done) | (simp; omega)) _))⟩)
        | false =>
          have hd : (dblRes (canon .f32 (a k)) (canon .f32 (a (16 + k))) (canon .f32 (a 32))).2 = true := by simp only [dblRes, hs, Bool.false_eq_true, if_false]
          have HD : Hid ((dblRes (canon .f32 (a k)) (canon .f32 (a (16 + k))) (canon .f32 (a 32))).1 = dblN (thin (canon .f32 (a k)) (canon .f32 (a (16 + k))) (thinX (canon .f32 (a 32)))) 10) := Lib.hid (by simp only [dblRes, hs, Bool.false_eq_true, if_false])
          have HS := Lib.hid hs
          have c3 : wr.cell? ⟨w1.heap.size, k, none⟩ = some (.float .f32 (cur k)) := (hC.cell k).trans (get_fA_lt cur (by omega))
          have c4 : wr.cell? ⟨w1.heap.size, 16 + k, none⟩ = some (.float .f32 (cur (16 + k))) := (hC.cell (16 + k)).trans (get_fA_lt cur (by omega))
          have c5 : wr.cell? ⟨w1.heap.size, 32 + k, none⟩ = some (.float .f32 (cur (32 + k))) := (hC.cell (32 + k)).trans (get_fA_lt cur (by omega))
          have f3 := hC.frozen k
          have f4 := hC.frozen (16 + k)
          have f5 := hC.frozen (32 + k)
          have hC := Blk.drewN hC nq
          clear hs
          go_wp2
          go_roundw
          case rel =>
            refine ⟨k + 1, _, by omega, by go_num, (((bDrew hb _).setCell (by dsimp only; omega) _).setCell (by dsimp only; omega) _).setCell (by dsimp only; omega) _, Blk.far (Blk.far (Blk.far (Blk.drewN hA _) (by dsimp only; omega) _) (by dsimp only; omega) _) (by dsimp only; omega) _, Blk.far (Blk.far (Blk.far (Blk.drewN hZ _) (by dsimp only; omega) _) (by dsimp only; omega) _) (by dsimp only; omega) _, Blk.setF (Blk.setF (Blk.setF hC k _) (16 + k) _) (32 + k) _, Lib.hid ⟨?_, HC.out.2.next hlt ?_ ?_⟩⟩
            · intro j hj
              by_cases e : j = k
              · subst e; rw [HS.out]; rfl
              · exact HC.out.1 j (by omega)
            · rw [HR.out.1, HD.out]
            · rw [HR.out.2, HD.out]
          case measure => simp [intOf]; omega
      · obtain rfl : k = 16 := by omega
        have Hm : Hid (filmOfRes a = ((finFilmRes (filmAt fun i => canon .f32 (a i))).1, (finFilmRes (filmAt fun i => canon .f32 (a i))).2)) := Lib.hid (by
          have hq : (allTo 16 fun i => !tooStrong (canon .f32 (a i)) (canon .f32 (a (16 + i))) (thinX (canon .f32 (a 32)))) = true := allTo_true HC.out.1
          simp only [HM.out, filmMade, hq, if_true])
        go_wp2_with (refine wpList_load_row rfl 28 _ rfl _ rfl _ _ (0, 0) _ hC Try.underlying28 rfl (by kernel_rfl) ?_)
        refine (finiteFilm_any cur wr).mono ?_
        rintro e w4 ⟨q, rfl, hq, hb1⟩
        have hZ := hZ.below hb1 hZ.lt
        have hb := bCall hb hb1 hb.size
        have Hq := Lib.hid hq
        clear hq hb1
        go_wp2_with (refine wpList_store_row rfl 28 _ _ rfl _ _ rfl rfl _ _ hZ (by kernel_rfl) (by simp only [size_fA]) (all_fA _ _) ?_)
        exact bodyPost_ret (results_cell_row2 rfl _ _ (w.heap.size + 1) _ _ _ _ rfl hZ.setRow Try.underlying28 rfl (by kernel_rfl)) rfl (RetCC.as Hm.out (finFilm_congr HC.out.2.all ⟨q, rfl, Hq.out, (by repeat (first | assumption | exact Below.refl _ _ | refine bDrew ?_ _ | refine Below.alloc ?_ (by first | omega | (simp; done) | (simp; omega)) _ | refine Below.setCell ?_ (by first | omega | (simp; done) | (simp; omega)) _ | refine bRow ?_ (by first | omega | (simp; done) | (simp; omega)) _))⟩))
end Go.Proofs.Ytfpjiclkhjdihaa

namespace Go.Proofs.Ytfpjiclkhjdihaa
open Go.RowKit
set_option maxRecDepth 100000

def most (x : Option Nat) : Option Nat := if fgt x (canon .f32 1065353216) then canon .f32 1065353216 else x
/-- What is divided by; a sum of what is reflected at once and later. -/
def gapOf (b q : Option Nat) : Option Nat := fsub (canon .f32 1065353216) (fmul b q)
def gapOk (b q : Option Nat) : Bool := fgt (gapOf b q) (canon .f32 0)
def upon (r t q d : Option Nat) : Option Nat := most (fadd r (fdiv (fmul (fmul t t) q) d))
def overAt (f q : Nat → Option Nat) (i : Nat) : Option Nat := upon (f i) (f (32 + i)) (q i) (gapOf (f (16 + i)) (q i))
def overRes (f q : Nat → Option Nat) : (Nat → Option Nat) × Int := if allTo 16 (fun i => share (q i)) then if allTo 16 (fun i => gapOk (f (16 + i)) (q i)) then finRes (overAt f q) else (fun _ => canon .f32 0, 4) else (fun _ => canon .f32 0, 2)
def addAt (f g : Nat → Option Nat) (i : Nat) : Option Nat :=
  if i < 16 then upon (f i) (f (32 + i)) (g i) (gapOf (f (16 + i)) (g i))
  else if i < 32 then upon (g i) (g (16 + i)) (f i) (gapOf (f i) (g (i - 16)))
  else most (fdiv (fmul (f i) (g i)) (gapOf (f (i - 16)) (g (i - 32))))
def addRes (f g : Nat → Option Nat) : (Nat → Option Nat) × Int := if allTo 16 (fun i => gapOk (f (16 + i)) (g i)) then finFilmRes (addAt f g) else (fun _ => canon .f32 0, 4)

theorem most_yes {x : Nat} (h : (FloatKind.f32.format.order x 1065353216 == some .gt) = true) : most (canon .f32 x) = canon .f32 1065353216 := by
  rw [o_gt] at h
  simp only [most, h, if_true]
theorem most_no {x : Nat} (h : (FloatKind.f32.format.order x 1065353216 == some .gt) = false) : most (canon .f32 x) = canon .f32 x := by
  rw [o_gt] at h
  simp only [most, h, Bool.false_eq_true, if_false]
theorem atMostOne_any (x : Nat) (w : World) : Calls Try.prog 62 #[.float .f32 x] w (RetFq w (most (canon .f32 x))) := by
  cases h : (FloatKind.f32.format.order x 1065353216 == some .gt) with
  | true =>
    have Hm := Lib.hid (most_yes h)
    go_enter Try.func62, Try.ntmps62
    go_wp2
    go_ret
    exact ⟨_, rfl, Hm.out.symm, 0, rfl⟩
  | false =>
    have Hm := Lib.hid (most_no h)
    go_enter Try.func62, Try.ntmps62
    go_wp2
    go_ret
    exact ⟨_, rfl, Hm.out.symm, 0, rfl⟩
theorem l02Most_any (x : Nat) (w : World) : Calls Try.prog 63 #[.float .f32 x] w (RetFq w (most (canon .f32 x))) := by
  cases h : (FloatKind.f32.format.order x 1065353216 == some .gt) with
  | true =>
    have Hm := Lib.hid (most_yes h)
    go_enter Try.func63, Try.ntmps63
    go_wp2
    go_ret
    exact ⟨_, rfl, Hm.out.symm, 0, rfl⟩
  | false =>
    have Hm := Lib.hid (most_no h)
    go_enter Try.func63, Try.ntmps63
    go_wp2
    go_ret
    exact ⟨_, rfl, Hm.out.symm, 0, rfl⟩
set_option maxHeartbeats 4000000 in
theorem over_any (f q : Nat → Nat) (w : World) : Calls Try.prog 36 #[.agg (fA 48 f), .agg (fA 16 q)] w (RetCC 16 w (overRes (fun i => canon .f32 (f i)) fun i => canon .f32 (q i)).1 (overRes (fun i => canon .f32 (f i)) fun i => canon .f32 (q i)).2) := by
  have hF : Blk (((w.alloc (.cells (fA 48 f) 28)).alloc (.cells (fA 16 q) 26)).alloc (.cells (fA 16 fun _ => 0) 26)) w.heap.size 28 (fA 48 f) := ((Blk.new _ _ _).alloc _).alloc _
  have hQ : Blk (((w.alloc (.cells (fA 48 f) 28)).alloc (.cells (fA 16 q) 26)).alloc (.cells (fA 16 fun _ => 0) 26)) (w.heap.size + 1) 26 (fA 16 q) := (Blk.new_at _ _ (by simp) rfl).alloc _
  have hZ : Blk (((w.alloc (.cells (fA 48 f) 28)).alloc (.cells (fA 16 q) 26)).alloc (.cells (fA 16 fun _ => 0) 26)) (w.heap.size + 1 + 1) 26 (fA 16 fun _ => 0) := Blk.new_at _ _ (by simp) rfl
  have hb : Below w.heap.size w (((w.alloc (.cells (fA 48 f) 28)).alloc (.cells (fA 16 q) 26)).alloc (.cells (fA 16 fun _ => 0) 26)) := (by repeat (first | assumption | exact Below.refl _ _ | refine bDrew ?_ _ | refine Below.alloc ?_ (by first | omega | (simp; done) | (simp; omega)) _ | refine Below.setCell ?_ (by first | omega | (simp; done) | (simp; omega)) _ | refine bRow ?_ (by first | omega | (simp; done) | (simp; omega)) _))
  go_enter Try.func36, Try.ntmps36
  go_wp2_with (refine wpList_load_row rfl 26 _ rfl _ rfl _ _ (0, 0) _ hQ Try.underlying26 rfl (by kernel_rfl) ?_)
  refine (all_any 34 share q _ (fun _ _ => by kernel_rfl) (fun x w => (isShare_any x w).mono fun _ _ h => h.to)).mono ?_
  rintro e w1 ⟨rfl, hb1⟩
  have hF := hF.below hb1 hF.lt
  have hQ := hQ.below hb1 hQ.lt
  have hZ := hZ.below hb1 hZ.lt
  have hb := bCall hb hb1 hb.size; clear hb1
  cases hs : (allTo 16 fun i => share (canon .f32 (q i))) with
  | false =>
    have Hm : Hid ((overRes (fun i => canon .f32 (f i)) fun i => canon .f32 (q i)) = (fun _ => canon .f32 0, 2)) := Lib.hid (by simp only [overRes, hs, Bool.false_eq_true, if_false])
    clear hs
    go_wp2_with (first | (refine wpList_build_as rfl 26 _ rfl (fA 16 fun _ => 0) (by kernel_rfl) ?_) | (refine wpList_store_row rfl 26 _ _ rfl _ _ rfl rfl _ _ hZ (by kernel_rfl) (by simp only [size_fA]) (all_fA _ _) ?_)); exact bodyPost_ret (results_cell_row2 rfl _ _ (w.heap.size + 1 + 1) _ _ _ _ rfl hZ.setRow Try.underlying26 rfl (by kernel_rfl)) rfl (RetCC.as Hm.out ⟨_, rfl, fun _ _ => rfl, (by repeat (first | assumption | exact Below.refl _ _ | refine bDrew ?_ _ | refine Below.alloc ?_ (by first | omega | (simp; done) | (simp; omega)) _ | refine Below.setCell ?_ (by first | omega | (simp; done) | (simp; omega)) _ | refine bRow ?_ (by first | omega | (simp; done) | (simp; omega)) _))⟩)
  | true =>
    have Hs := Lib.hid hs
    clear hs
    have hO : Blk (w1.alloc (.cells (fA 16 fun _ => 0) 26)) w1.heap.size 26 (fA 16 fun _ => 0) := Blk.new _ _ _
    have hO2 : Blk ((w1.alloc (.cells (fA 16 fun _ => 0) 26)).setRow w1.heap.size (fA 16 fun _ => 0)) w1.heap.size 26 (fA 16 fun _ => 0) := hO.setRow
    have hF2 : Blk ((w1.alloc (.cells (fA 16 fun _ => 0) 26)).setRow w1.heap.size (fA 16 fun _ => 0)) w.heap.size 28 (fA 48 f) := (hF.alloc _).farRow (by have := hF.lt; omega)
    have hQ2 : Blk ((w1.alloc (.cells (fA 16 fun _ => 0) 26)).setRow w1.heap.size (fA 16 fun _ => 0)) (w.heap.size + 1) 26 (fA 16 q) := (hQ.alloc _).farRow (by have := hQ.lt; omega)
    have hZ2 : Blk ((w1.alloc (.cells (fA 16 fun _ => 0) 26)).setRow w1.heap.size (fA 16 fun _ => 0)) (w.heap.size + 1 + 1) 26 (fA 16 fun _ => 0) := (hZ.alloc _).farRow (by have := hZ.lt; omega)
    have hb2 : Below w.heap.size w ((w1.alloc (.cells (fA 16 fun _ => 0) 26)).setRow w1.heap.size (fA 16 fun _ => 0)) := bRow (Below.alloc hb hb.size _) hb.size _
    have hg : w.heap.size + 1 + 1 < w1.heap.size := hZ.lt
    have hix : ∀ (k : Nat) (w : World), k < 16 → (Instr.index 26 (.agg (fA 16 q)) (.int .i64 k)).run Try.prog w = .ok (.float .f32 (q k)) w := fun k w hk =>
      run_index_fA w 26 24 16 q k Try.underlying26 Try.underlying24 (by kernel_rfl) (by omega) (by omega)
    clear hF hQ hZ hb
    go_wp2_with (first | (refine wpList_build_as rfl 26 _ rfl (fA 16 fun _ => 0) (by kernel_rfl) ?_) | (refine wpList_store_row rfl 26 _ _ rfl _ _ rfl rfl _ _ hO (by kernel_rfl) (by simp only [size_fA]) (all_fA _ _) ?_) | (refine wpList_load_row rfl 26 _ rfl _ rfl _ _ (0, 0) _ hQ2 Try.underlying26 rfl (by kernel_rfl) ?_))
    go_loopw [7, 8, 9, 16] (fun _ _ _ i wr => ∃ (k : Nat) (cur : Nat → Nat), k ≤ 16 ∧ i = .int .i64 k ∧ Below w.heap.size w wr ∧ Blk wr w.heap.size 28 (fA 48 f) ∧ Blk wr (w.heap.size + 1 + 1) 26 (fA 16 fun _ => 0) ∧ Blk wr w1.heap.size 26 (fA 16 cur) ∧ (∀ j, j < k → gapOk (canon .f32 (f (16 + j))) (canon .f32 (q j)) = true) ∧ ∀ j, j < k → canon .f32 (cur j) = overAt (fun i => canon .f32 (f i)) (fun i => canon .f32 (q i)) j) (fun _ _ _ i _ => 16 - (intOf i).toNat)
    case atStart => exact ⟨0, fun _ => 0, by omega, rfl, hb2, hF2, hZ2, hO2, fun j h => absurd h (by omega), fun j h => absurd h (by omega)⟩
    case round =>
      clear hO hO2 hF2 hQ2 hZ2 hb2
      obtain ⟨k, cur, hk, rfl, hb, hF, hZ, hC, hg', hc⟩ := hrel
      have Hc := Lib.hid hc
      have Hg := Lib.hid hg'
      clear hc hg'
      by_cases hlt : k < 16
      · have hx := fun w => hix k w hlt
        have c0 : wr.cell? ⟨w.heap.size, k, none⟩ = some (.float .f32 (f k)) := (hF.cell k).trans (get_fA_lt f (by omega))
        have c1 : wr.cell? ⟨w.heap.size, 16 + k, none⟩ = some (.float .f32 (f (16 + k))) := (hF.cell (16 + k)).trans (get_fA_lt f (by omega))
        have c2 : wr.cell? ⟨w.heap.size, 32 + k, none⟩ = some (.float .f32 (f (32 + k))) := (hF.cell (32 + k)).trans (get_fA_lt f (by omega))
        clear hix
        go_wp2_with fail
        refine (mul_any _ _ _).mono ?_
        rintro e w2 ⟨r1, rfl, hr1, n1, rfl⟩
        have HD : Hid (∀ w', canon .f32 (fval .sub .f32 1065353216 r1 w') = gapOf (canon .f32 (f (16 + k))) (canon .f32 (q k))) := Lib.hid (fun w' => by rw [c_sub, hr1]; rfl)
        have hq : ∀ w', (FloatKind.f32.format.order (fval .sub .f32 1065353216 r1 w') 0 == some .gt) = gapOk (canon .f32 (f (16 + k))) (canon .f32 (q k)) := fun w' => by rw [o_gt, HD.out]; rfl
        clear hr1 hx
        cases h0 : gapOk (canon .f32 (f (16 + k))) (canon .f32 (q k)) with
        | false =>
          have Hm : Hid ((overRes (fun i => canon .f32 (f i)) fun i => canon .f32 (q i)) = (fun _ => canon .f32 0, 4)) := Lib.hid (by
            have h1 : (allTo 16 fun i => gapOk (canon .f32 (f (16 + i))) (canon .f32 (q i))) = false := allTo_false hlt h0
            simp only [overRes, Hs.out, h1, Bool.false_eq_true, if_false, if_true])
          rw [h0] at hq
          have hZ := Blk.drewN hZ n1
          have hb := bDrew hb n1
          clear h0 c0 c1 c2
          go_wp2_with (first | (refine wpList_build_as rfl 26 _ rfl (fA 16 fun _ => 0) (by kernel_rfl) ?_) | (refine wpList_store_row rfl 26 _ _ rfl _ _ rfl rfl _ _ hZ (by kernel_rfl) (by simp only [size_fA]) (all_fA _ _) ?_)); exact bodyPost_ret (results_cell_row2 rfl _ _ (w.heap.size + 1 + 1) _ _ _ _ rfl hZ.setRow Try.underlying26 rfl (by kernel_rfl)) rfl (RetCC.as Hm.out ⟨_, rfl, fun _ _ => rfl, (by repeat (first | assumption | exact Below.refl _ _ | refine bDrew ?_ _ | refine Below.alloc ?_ (by first | omega | (simp; done) | (simp; omega)) _ | refine Below.setCell ?_ (by first | omega | (simp; done) | (simp; omega)) _ | refine bRow ?_ (by first | omega | (simp; done) | (simp; omega)) _))⟩)
        | true =>
          rw [h0] at hq
          have H0 := Lib.hid h0
          clear h0
          have c3 := (hC.cell k).trans (get_fA_lt cur hlt)
          have f1 := hC.frozen k
          go_wp2_with fail
          clear hq
          (refine wp_region_loose_tail 21 (fun w' => ∃ n, w' = wr.drewN n) (GM fmul (fun _ x => most x)) (by kernel_rfl) (by kernel_rfl) ⟨n1 + fcnt .sub .f32 1065353216 r1 + 1, rfl⟩ ?_; simp only [List.take_succ_cons, List.take_zero, List.drop_succ_cons, List.drop_zero])
          repeat (refine wpLoose_plain rfl (fun K hK w1 hw1 => ?_); obtain ⟨n, rfl⟩ := hw1; go_simp; refine ⟨⟨_, rfl⟩, hK _ ?_⟩; clear hK K)
          (refine wpLoose_plain rfl (fun K hK w1 hw1 => ?_); obtain ⟨n1, rfl⟩ := hw1; go_simp; refine ⟨⟨_, rfl⟩, (mul_any _ _ _).mono ?_, fun u hu => hK _ ?_⟩; (rintro e w' ⟨r, rfl, hr, m, rfl⟩; exact ⟨_, rfl, GM.mk2 hr, _, by rw [World.drewN_drewN]⟩); clear hK K; obtain ⟨r2, rfl, H2⟩ := GM.inv2 hu; clear hu)
          repeat (refine wpLoose_plain rfl (fun K hK w1 hw1 => ?_); obtain ⟨n, rfl⟩ := hw1; go_simp; refine ⟨⟨_, rfl⟩, hK _ ?_⟩; clear hK K)
          (refine wpLoose_plain rfl (fun K hK w1 hw1 => ?_); obtain ⟨n1, rfl⟩ := hw1; go_simp; refine ⟨⟨_, rfl⟩, (mul_any _ _ _).mono ?_, fun u hu => hK _ ?_⟩; (rintro e w' ⟨r, rfl, hr, m, rfl⟩; exact ⟨_, rfl, GM.mk2 hr, _, by rw [World.drewN_drewN]⟩); clear hK K; obtain ⟨r3, rfl, H3⟩ := GM.inv2 hu; clear hu)
          repeat (refine wpLoose_plain rfl (fun K hK w1 hw1 => ?_); obtain ⟨n, rfl⟩ := hw1; go_simp; refine ⟨⟨_, rfl⟩, hK _ ?_⟩; clear hK K)
          (refine wpLoose_plain rfl (fun K hK w1 hw1 => ?_); obtain ⟨n1, rfl⟩ := hw1; go_simp; refine ⟨⟨_, rfl⟩, (atMostOne_any _ _).mono ?_, fun u hu => hK _ ?_⟩; (rintro e w' ⟨r, rfl, hr, m, rfl⟩; exact ⟨_, rfl, GM.mk1 hr, _, by rw [World.drewN_drewN]⟩); clear hK K; obtain ⟨r4, rfl, H4⟩ := GM.inv1 hu; clear hu)
          repeat (refine wpLoose_plain rfl (fun K hK w1 hw1 => ?_); obtain ⟨n, rfl⟩ := hw1; go_simp; refine ⟨⟨_, rfl⟩, hK _ ?_⟩; clear hK K)
          (refine wpLoose_nil ?_; intro _ hw'; obtain ⟨nq, rfl⟩ := hw')
          go_wp2
          go_roundw
          case rel =>
            refine ⟨k + 1, _, by omega, by go_num, (bDrew hb _).setCell (by dsimp only; omega) _, Blk.far (Blk.drewN hF _) (by dsimp only; omega) _, Blk.far (Blk.drewN hZ _) (by dsimp only; omega) _, Blk.setF (Blk.drewN hC _) k _, ?_, upd_to (Q := fun j v => canon .f32 v = overAt (fun i => canon .f32 (f i)) (fun i => canon .f32 (q i)) j) Hc.out ?_⟩
            · intro j hj
              by_cases e : j = k
              · subst e; exact H0.out
              · exact Hg.out j (by omega)
            · rw [H4.out, c_add, c_div, H3.out, H2.out, HD.out]; rfl
          case measure => simp [intOf]; omega
      · obtain rfl : k = 16 := by omega
        have Hm : Hid ((overRes (fun i => canon .f32 (f i)) fun i => canon .f32 (q i)) = ((finRes (overAt (fun i => canon .f32 (f i)) fun i => canon .f32 (q i))).1, (finRes (overAt (fun i => canon .f32 (f i)) fun i => canon .f32 (q i))).2)) := Lib.hid (by
          have h1 : (allTo 16 fun i => gapOk (canon .f32 (f (16 + i))) (canon .f32 (q i))) = true := allTo_true Hg.out
          simp only [overRes, Hs.out, h1, if_true])
        clear hix
        go_wp2_with (refine wpList_load_row rfl 26 _ rfl _ rfl _ _ (0, 0) _ hC Try.underlying26 rfl (by kernel_rfl) ?_)
        refine (finiteCurve_any cur wr).mono ?_
        rintro e w4 ⟨s, rfl, hs, hb1⟩
        have hZ := hZ.below hb1 hZ.lt
        have hb := bCall hb hb1 hb.size
        have Hq := Lib.hid hs
        clear hs hb1
        go_wp2_with (refine wpList_store_row rfl 26 _ _ rfl _ _ rfl rfl _ _ hZ (by kernel_rfl) (by simp only [size_fA]) (all_fA _ _) ?_)
        exact bodyPost_ret (results_cell_row2 rfl _ _ (w.heap.size + 1 + 1) _ _ _ _ rfl hZ.setRow Try.underlying26 rfl (by kernel_rfl)) rfl (RetCC.as Hm.out (finRes_congr Hc.out ⟨s, rfl, Hq.out, (by repeat (first | assumption | exact Below.refl _ _ | refine bDrew ?_ _ | refine Below.alloc ?_ (by first | omega | (simp; done) | (simp; omega)) _ | refine Below.setCell ?_ (by first | omega | (simp; done) | (simp; omega)) _ | refine bRow ?_ (by first | omega | (simp; done) | (simp; omega)) _))⟩))
end Go.Proofs.Ytfpjiclkhjdihaa

namespace Go.Proofs.Ytfpjiclkhjdihaa
open Go.RowKit
set_option maxRecDepth 100000

set_option maxHeartbeats 2000000 in
theorem l02FilmOf_any (g : Nat) (T : TypeId) (a : Nat → Nat) (w : World) (hA : Blk w g T (fA 33 a)) : Calls Try.prog 60 #[.pointer (some ⟨g, 0, none⟩)] w (RetCC 48 w (filmMade fun i => canon .f32 (a i)).1 (filmMade fun i => canon .f32 (a i)).2) := by
  have hg := hA.lt
  have hZ : Blk ((w.alloc (.cells (fA 48 fun _ => 0) 28)).alloc (.cells (fA 48 fun _ => 0) 28)) w.heap.size 28 (fA 48 fun _ => 0) := (Blk.new _ _ _).alloc _
  have hO : Blk ((w.alloc (.cells (fA 48 fun _ => 0) 28)).alloc (.cells (fA 48 fun _ => 0) 28)) (w.heap.size + 1) 28 (fA 48 fun _ => 0) := Blk.new_at _ _ (by simp) rfl
  have hb : Below w.heap.size w ((w.alloc (.cells (fA 48 fun _ => 0) 28)).alloc (.cells (fA 48 fun _ => 0) 28)) := (by repeat (first | assumption | exact Below.refl _ _ | refine bDrew ?_ _ | refine Below.alloc ?_ (by first | omega | (simp; done) | (simp; omega)) _ | refine Below.setCell ?_ (by first | omega | (simp; done) | (simp; omega)) _ | refine bRow ?_ (by first | omega | (simp; done) | (simp; omega)) _))
  have hA2 : Blk (((w.alloc (.cells (fA 48 fun _ => 0) 28)).alloc (.cells (fA 48 fun _ => 0) 28)).setRow (w.heap.size + 1) (fA 48 fun _ => 0)) g T (fA 33 a) := ((hA.alloc _).alloc _).farRow (by omega)
  have c0 : ∀ o1 o2 cs, (((w.alloc o1).alloc o2).setRow (w.heap.size + 1) cs).cell? ⟨g, 32, none⟩ = some (.float .f32 (a 32)) := fun o1 o2 cs => (Blk.cell (((hA.alloc o1).alloc o2).farRow (g' := w.heap.size + 1) (cs' := cs) (by omega)) 32).trans (get_fA_lt a (by omega))
  go_enter Try.func60, Try.ntmps60
  go_upto_region 2 with (first | (refine wpList_build_as rfl 28 _ rfl (fA 48 fun _ => 0) (by kernel_rfl) ?_) | (refine wpList_store_row rfl 28 _ _ rfl _ _ rfl rfl _ _ hO (by kernel_rfl) (by simp only [size_fA]) (all_fA _ _) ?_))
  go_simp
  go_cut [5] from 5 (fun x wc => ∃ X, x = .float .f32 X ∧ Hid (canon .f32 X = thinX (canon .f32 (a 32))) ∧ Below w.heap.size w wc ∧ Blk wc g T (fA 33 a) ∧ Blk wc w.heap.size 28 (fA 48 fun _ => 0) ∧ Blk wc (w.heap.size + 1) 28 (fA 48 fun _ => 0))
  case first =>
    go_wp2
    go_meet
    case rel => exact ⟨_, rfl, Lib.hid (c_div ..), bDrew (bRow hb (by omega) _) _, Blk.drewN hA2 _, Blk.drewN (hZ.farRow (by omega)) _, Blk.drewN hO.setRow _⟩
  case rest =>
  clear hZ hO hb hA2 c0 hA
  obtain ⟨X, rfl, HX, hb, hA, hZ, hO⟩ := hcut
  go_wp2
  go_loopw [6, 7, 8, 9, 10, 11] (fun i _ _ _ _ _ wr => ∃ (k : Nat) (cur : Nat → Nat), k ≤ 16 ∧ i = .int .i64 k ∧ Below w.heap.size w wr ∧ Blk wr g T (fA 33 a) ∧ Blk wr w.heap.size 28 (fA 48 fun _ => 0) ∧ Blk wr (w.heap.size + 1) 28 (fA 48 cur) ∧ Hid ((∀ j, j < k → (!tooStrong (canon .f32 (a j)) (canon .f32 (a (16 + j))) (thinX (canon .f32 (a 32)))) = true) ∧ Filled (fun i => canon .f32 (a i)) cur k)) (fun i _ _ _ _ _ _ => 16 - (intOf i).toNat)
  case atStart => exact ⟨0, fun _ => 0, by omega, rfl, hb, hA, hZ, hO, Lib.hid ⟨fun j h => absurd h (by omega), fun j h => absurd h (by omega)⟩⟩
  case round =>
    clear hO hA hZ hb
    obtain ⟨k, cur, hk, rfl, hb, hA, hZ, hC, HC⟩ := hrel
    by_cases hlt : k < 16
    · have c0 : wr.cell? ⟨g, k, none⟩ = some (.float .f32 (a k)) := (hA.cell k).trans (get_fA_lt a (by omega))
      have c1 : wr.cell? ⟨g, 16 + k, none⟩ = some (.float .f32 (a (16 + k))) := (hA.cell (16 + k)).trans (get_fA_lt a (by omega))
      go_wp2_with fail
      (refine wp_region_loose_lit (fun w' => ∃ n, w' = wr.drewN n) (fun _ _ _ => False) (by kernel_rfl) (by kernel_rfl) ⟨fcnt .mul .f32 (a (16 + k)) X + 1, rfl⟩ ?_)
      repeat (refine wpLoose_plain rfl (fun K hK w1 hw1 => ?_); obtain ⟨n, rfl⟩ := hw1; go_simp; refine ⟨⟨_, rfl⟩, hK _ ?_⟩; clear hK K)
      (refine wpLoose_nil ?_; intro _ hw'; obtain ⟨nq, rfl⟩ := hw')
      clear c0 c1
      have hc1 : ∀ w1 w2 w3 w4, (FloatKind.f32.format.order (fval .sub .f32 (fval .sub .f32 1065353216 (fval .mul .f32 (a k) X w1) w2) (fval .mul .f32 (a (16 + k)) X w3) w4) 0 == some .lt) = flt (thinT (canon .f32 (a k)) (canon .f32 (a (16 + k))) (thinX (canon .f32 (a 32)))) (canon .f32 0) := fun w1 w2 w3 w4 => by rw [o_lt, c_sub, c_sub, c_mul, c_mul, HX.out]; rfl
      have hc2 : ∀ w1, (FloatKind.f32.format.order (fval .mul .f32 (a (16 + k)) X w1) 1065353216 == some .gt) = fgt (thinR (canon .f32 (a (16 + k))) (thinX (canon .f32 (a 32)))) (canon .f32 1065353216) := fun w1 => by rw [o_gt, c_mul, HX.out]; rfl
      cases h1 : flt (thinT (canon .f32 (a k)) (canon .f32 (a (16 + k))) (thinX (canon .f32 (a 32)))) (canon .f32 0) with
      | true =>
        have Hm : Hid ((filmMade fun i => canon .f32 (a i)) = (fun _ => canon .f32 0, 3)) := Lib.hid (by
          have hq : (allTo 16 fun i => !tooStrong (canon .f32 (a i)) (canon .f32 (a (16 + i))) (thinX (canon .f32 (a 32)))) = false := allTo_false hlt (by simp only [tooStrong, strong, h1, Bool.true_or, Bool.not_true])
          simp only [filmMade, hq, Bool.false_eq_true, if_false])
        rw [h1] at hc1
        have hZ := Blk.drewN hZ nq
        have hb := bDrew hb nq
        clear h1 hc2
        go_wp2_with (first | (refine wpList_build_as rfl 28 _ rfl (fA 48 fun _ => 0) (by kernel_rfl) ?_) | (refine wpList_store_row rfl 28 _ _ rfl _ _ rfl rfl _ _ hZ (by kernel_rfl) (by simp only [size_fA]) (all_fA _ _) ?_)); exact bodyPost_ret (results_cell_row2 rfl _ _ (w.heap.size) _ _ _ _ rfl hZ.setRow Try.underlying28 rfl (by kernel_rfl)) rfl (RetCC.as Hm.out ⟨_, rfl, fun _ _ => rfl, (by repeat (first | assumption | exact Below.refl _ _ | refine bDrew ?_ _ | refine Below.alloc ?_ (by first | omega | (simp; done) | (simp; omega)) _ | refine Below.setCell ?_ (by first | omega | (simp; done) | (simp; omega)) _ | refine bRow ?_ (by first | omega | (simp; done) | (simp; omega)) _))⟩)
      | false =>
        rw [h1] at hc1
        cases h2 : fgt (thinR (canon .f32 (a (16 + k))) (thinX (canon .f32 (a 32)))) (canon .f32 1065353216) with
        | true =>
          have Hm : Hid ((filmMade fun i => canon .f32 (a i)) = (fun _ => canon .f32 0, 3)) := Lib.hid (by
            have hq : (allTo 16 fun i => !tooStrong (canon .f32 (a i)) (canon .f32 (a (16 + i))) (thinX (canon .f32 (a 32)))) = false := allTo_false hlt (by simp only [tooStrong, strong, h1, h2, Bool.false_or, Bool.not_true])
            simp only [filmMade, hq, Bool.false_eq_true, if_false])
          rw [h2] at hc2
          have hZ := Blk.drewN hZ nq
          have hb := bDrew hb nq
          clear h1 h2
          go_wp2_with (first | (refine wpList_build_as rfl 28 _ rfl (fA 48 fun _ => 0) (by kernel_rfl) ?_) | (refine wpList_store_row rfl 28 _ _ rfl _ _ rfl rfl _ _ hZ (by kernel_rfl) (by simp only [size_fA]) (all_fA _ _) ?_)); exact bodyPost_ret (results_cell_row2 rfl _ _ (w.heap.size) _ _ _ _ rfl hZ.setRow Try.underlying28 rfl (by kernel_rfl)) rfl (RetCC.as Hm.out ⟨_, rfl, fun _ _ => rfl, (by repeat (first | assumption | exact Below.refl _ _ | refine bDrew ?_ _ | refine Below.alloc ?_ (by first | omega | (simp; done) | (simp; omega)) _ | refine Below.setCell ?_ (by first | omega | (simp; done) | (simp; omega)) _ | refine bRow ?_ (by first | omega | (simp; done) | (simp; omega)) _))⟩)
        | false =>
          have HS : Hid ((!tooStrong (canon .f32 (a k)) (canon .f32 (a (16 + k))) (thinX (canon .f32 (a 32)))) = true) := Lib.hid (by simp only [tooStrong, strong, h1, h2, Bool.false_or, Bool.not_false])
          rw [h2] at hc2
          clear h1 h2
          go_wp2
          clear hc1 hc2
          go_loopw [7, 8, 9, 10, 11] (fun r t n _ _ w2 => ∃ (m rr tt : Nat), m ≤ 10 ∧ n = .int .i64 m ∧ r = .float .f32 rr ∧ t = .float .f32 tt ∧ Hid ((canon .f32 rr, canon .f32 tt) = dblN (thin (canon .f32 (a k)) (canon .f32 (a (16 + k))) (thinX (canon .f32 (a 32)))) m) ∧ ∃ n, w2 = wr.drewN n) (fun _ _ n _ _ _ => 10 - (intOf n).toNat)
          case atStart => exact ⟨0, _, _, by omega, rfl, rfl, rfl, Lib.hid (by rw [c_sub, c_sub, c_mul, c_mul, c_mul, HX.out]; rfl), _, rfl⟩
          case round =>
            obtain ⟨m, rr, tt, hm, rfl, rfl, rfl, HR, n0, rfl⟩ := hrel
            by_cases hlt2 : m < 10
            · go_wp2
              go_roundw
              case rel => exact ⟨m + 1, _, _, by omega, by go_num, rfl, rfl, Lib.hid (by simp only [c_add, c_div, c_mul, c_sub]; show dbl (canon .f32 rr, canon .f32 tt) = _; rw [HR.out]; rfl), _, rfl⟩
              case measure => simp [intOf]; omega
            · obtain rfl : m = 10 := by omega
              have c3 : wr.cell? ⟨w.heap.size + 1, k, none⟩ = some (.float .f32 (cur k)) := (hC.cell k).trans (get_fA_lt cur (by omega))
              have c4 : wr.cell? ⟨w.heap.size + 1, 16 + k, none⟩ = some (.float .f32 (cur (16 + k))) := (hC.cell (16 + k)).trans (get_fA_lt cur (by omega))
              have c5 : wr.cell? ⟨w.heap.size + 1, 32 + k, none⟩ = some (.float .f32 (cur (32 + k))) := (hC.cell (32 + k)).trans (get_fA_lt cur (by omega))
              have f3 := hC.frozen k
              have f4 := hC.frozen (16 + k)
              have f5 := hC.frozen (32 + k)
              go_wp2
              go_roundw
              case rel =>
                refine ⟨k + 1, _, by omega, by go_num, (((bDrew hb _).setCell (by dsimp only; omega) _).setCell (by dsimp only; omega) _).setCell (by dsimp only; omega) _, Blk.far (Blk.far (Blk.far (Blk.drewN hA _) (by dsimp only; omega) _) (by dsimp only; omega) _) (by dsimp only; omega) _, Blk.far (Blk.far (Blk.far (Blk.drewN hZ _) (by dsimp only; omega) _) (by dsimp only; omega) _) (by dsimp only; omega) _, Blk.setF (Blk.setF (Blk.setF (Blk.drewN hC _) k _) (16 + k) _) (32 + k) _, Lib.hid ⟨?_, HC.out.2.next hlt (congrArg (·.1) HR.out) (congrArg (·.2) HR.out)⟩⟩
                intro j hj
                by_cases e : j = k
                · subst e; exact HS.out
                · exact HC.out.1 j (by omega)
              case measure => simp [intOf]; omega
    · obtain rfl : k = 16 := by omega
      have Hm : Hid ((filmMade fun i => canon .f32 (a i)) = ((finFilmRes (filmAt fun i => canon .f32 (a i))).1, (finFilmRes (filmAt fun i => canon .f32 (a i))).2)) := Lib.hid (by
        have hq : (allTo 16 fun i => !tooStrong (canon .f32 (a i)) (canon .f32 (a (16 + i))) (thinX (canon .f32 (a 32)))) = true := allTo_true HC.out.1
        simp only [filmMade, hq, if_true])
      go_wp2_with (refine wpList_load_row rfl 28 _ rfl _ rfl _ _ (0, 0) _ hC Try.underlying28 rfl (by kernel_rfl) ?_)
      refine (l02Made_any cur wr).mono ?_
      rintro e w4 ⟨q, rfl, hq, hb1⟩
      have hZ := hZ.below hb1 hZ.lt
      have hb := bCall hb hb1 hb.size
      have Hq := Lib.hid hq
      clear hq hb1
      go_wp2_with (refine wpList_store_row rfl 28 _ _ rfl _ _ rfl rfl _ _ hZ (by kernel_rfl) (by simp only [size_fA]) (all_fA _ _) ?_)
      exact bodyPost_ret (results_cell_row2 rfl _ _ (w.heap.size) _ _ _ _ rfl hZ.setRow Try.underlying28 rfl (by kernel_rfl)) rfl (RetCC.as Hm.out (finFilm_congr HC.out.2.all ⟨q, rfl, Hq.out, (by repeat (first | assumption | exact Below.refl _ _ | refine bDrew ?_ _ | refine Below.alloc ?_ (by first | omega | (simp; done) | (simp; omega)) _ | refine Below.setCell ?_ (by first | omega | (simp; done) | (simp; omega)) _ | refine bRow ?_ (by first | omega | (simp; done) | (simp; omega)) _))⟩))
end Go.Proofs.Ytfpjiclkhjdihaa

namespace Go.Proofs.Ytfpjiclkhjdihaa
open Go.RowKit
set_option maxRecDepth 100000

def overBackingRes (f q : Nat → Nat) : (Nat → Option Nat) × Int := if filmOk f then overRes (fun i => canon .f32 (f i)) (fun i => canon .f32 (q i)) else (fun _ => canon .f32 0, 1)

set_option maxHeartbeats 4000000 in
theorem l02Over_any (g : Nat) (T : TypeId) (f q : Nat → Nat) (w : World) (hF : Blk w g T (fA 48 f)) : Calls Try.prog 37 #[.pointer (some ⟨g, 0, none⟩), .agg (fA 16 q)] w (RetCC 16 w (overRes (fun i => canon .f32 (f i)) fun i => canon .f32 (q i)).1 (overRes (fun i => canon .f32 (f i)) fun i => canon .f32 (q i)).2) := by
  have hg0 := hF.lt
  have hF := (hF.alloc (.cells (fA 16 q) 26)).alloc (.cells (fA 16 fun _ => 0) 26)
  have hQ : Blk ((w.alloc (.cells (fA 16 q) 26)).alloc (.cells (fA 16 fun _ => 0) 26)) w.heap.size 26 (fA 16 q) := (Blk.new _ _ _).alloc _
  have hZ : Blk ((w.alloc (.cells (fA 16 q) 26)).alloc (.cells (fA 16 fun _ => 0) 26)) (w.heap.size + 1) 26 (fA 16 fun _ => 0) := Blk.new_at _ _ (by simp) rfl
  have hb : Below w.heap.size w ((w.alloc (.cells (fA 16 q) 26)).alloc (.cells (fA 16 fun _ => 0) 26)) := (by repeat (first | assumption | exact Below.refl _ _ | refine bDrew ?_ _ | refine Below.alloc ?_ (by first | omega | (simp; done) | (simp; omega)) _ | refine Below.setCell ?_ (by first | omega | (simp; done) | (simp; omega)) _ | refine bRow ?_ (by first | omega | (simp; done) | (simp; omega)) _))
  go_enter Try.func37, Try.ntmps37
  go_wp2_with (refine wpList_load_row rfl 26 _ rfl _ rfl _ _ (0, 0) _ hQ Try.underlying26 rfl (by kernel_rfl) ?_)
  refine (l02Share_any q _).mono ?_
  rintro e w1 ⟨rfl, hb1⟩
  have hF := hF.below hb1 hF.lt
  have hQ := hQ.below hb1 hQ.lt
  have hZ := hZ.below hb1 hZ.lt
  have hb := bCall hb hb1 hb.size; clear hb1
  cases hs : (allTo 16 fun i => share (canon .f32 (q i))) with
  | false =>
    have Hm : Hid ((overRes (fun i => canon .f32 (f i)) fun i => canon .f32 (q i)) = (fun _ => canon .f32 0, 2)) := Lib.hid (by simp only [overRes, hs, Bool.false_eq_true, if_false])
    clear hs
    go_wp2_with (first | (refine wpList_build_as rfl 26 _ rfl (fA 16 fun _ => 0) (by kernel_rfl) ?_) | (refine wpList_store_row rfl 26 _ _ rfl _ _ rfl rfl _ _ hZ (by kernel_rfl) (by simp only [size_fA]) (all_fA _ _) ?_)); exact bodyPost_ret (results_cell_row2 rfl _ _ (w.heap.size + 1) _ _ _ _ rfl hZ.setRow Try.underlying26 rfl (by kernel_rfl)) rfl (RetCC.as Hm.out ⟨_, rfl, fun _ _ => rfl, (by repeat (first | assumption | exact Below.refl _ _ | refine bDrew ?_ _ | refine Below.alloc ?_ (by first | omega | (simp; done) | (simp; omega)) _ | refine Below.setCell ?_ (by first | omega | (simp; done) | (simp; omega)) _ | refine bRow ?_ (by first | omega | (simp; done) | (simp; omega)) _))⟩)
  | true =>
    have Hs := Lib.hid hs
    clear hs
    have hO : Blk (w1.alloc (.cells (fA 16 fun _ => 0) 26)) w1.heap.size 26 (fA 16 fun _ => 0) := Blk.new _ _ _
    have hO2 : Blk ((w1.alloc (.cells (fA 16 fun _ => 0) 26)).setRow w1.heap.size (fA 16 fun _ => 0)) w1.heap.size 26 (fA 16 fun _ => 0) := hO.setRow
    have hF2 : Blk ((w1.alloc (.cells (fA 16 fun _ => 0) 26)).setRow w1.heap.size (fA 16 fun _ => 0)) g T (fA 48 f) := (hF.alloc _).farRow (by have := hF.lt; omega)
    have hQ2 : Blk ((w1.alloc (.cells (fA 16 fun _ => 0) 26)).setRow w1.heap.size (fA 16 fun _ => 0)) w.heap.size 26 (fA 16 q) := (hQ.alloc _).farRow (by have := hQ.lt; omega)
    have hZ2 : Blk ((w1.alloc (.cells (fA 16 fun _ => 0) 26)).setRow w1.heap.size (fA 16 fun _ => 0)) (w.heap.size + 1) 26 (fA 16 fun _ => 0) := (hZ.alloc _).farRow (by have := hZ.lt; omega)
    have hb2 : Below w.heap.size w ((w1.alloc (.cells (fA 16 fun _ => 0) 26)).setRow w1.heap.size (fA 16 fun _ => 0)) := bRow (Below.alloc hb hb.size _) hb.size _
    have hg : w.heap.size + 1 < w1.heap.size := hZ.lt
    clear hF hQ hZ hb
    go_wp2_with (first | (refine wpList_build_as rfl 26 _ rfl (fA 16 fun _ => 0) (by kernel_rfl) ?_) | (refine wpList_store_row rfl 26 _ _ rfl _ _ rfl rfl _ _ hO (by kernel_rfl) (by simp only [size_fA]) (all_fA _ _) ?_))
    go_loopw [7, 8] (fun i _ wr => ∃ (k : Nat) (cur : Nat → Nat), k ≤ 16 ∧ i = .int .i64 k ∧ Below w.heap.size w wr ∧ Blk wr g T (fA 48 f) ∧ Blk wr w.heap.size 26 (fA 16 q) ∧ Blk wr (w.heap.size + 1) 26 (fA 16 fun _ => 0) ∧ Blk wr w1.heap.size 26 (fA 16 cur) ∧ (∀ j, j < k → gapOk (canon .f32 (f (16 + j))) (canon .f32 (q j)) = true) ∧ ∀ j, j < k → canon .f32 (cur j) = overAt (fun i => canon .f32 (f i)) (fun i => canon .f32 (q i)) j) (fun i _ _ => 16 - (intOf i).toNat)
    case atStart => exact ⟨0, fun _ => 0, by omega, rfl, hb2, hF2, hQ2, hZ2, hO2, fun j h => absurd h (by omega), fun j h => absurd h (by omega)⟩
    case round =>
      clear hO hO2 hF2 hQ2 hZ2 hb2
      obtain ⟨k, cur, hk, rfl, hb, hF, hQ, hZ, hC, hg', hc⟩ := hrel
      have Hc := Lib.hid hc
      have Hg := Lib.hid hg'
      clear hc hg'
      by_cases hlt : k < 16
      · have c0 : wr.cell? ⟨g, k, none⟩ = some (.float .f32 (f k)) := (hF.cell k).trans (get_fA_lt f (by omega))
        have c1 : wr.cell? ⟨g, 16 + k, none⟩ = some (.float .f32 (f (16 + k))) := (hF.cell (16 + k)).trans (get_fA_lt f (by omega))
        have c2 : wr.cell? ⟨g, 32 + k, none⟩ = some (.float .f32 (f (32 + k))) := (hF.cell (32 + k)).trans (get_fA_lt f (by omega))
        have c4 := (hQ.cell k).trans (get_fA_lt q hlt)
        go_wp2_with fail
        (refine wp_region_loose_lit (fun w' => ∃ n, w' = wr.drewN n) (fun _ _ _ => False) (by kernel_rfl) (by kernel_rfl) ⟨1, rfl⟩ ?_)
        repeat (refine wpLoose_plain rfl (fun K hK w1 hw1 => ?_); obtain ⟨n, rfl⟩ := hw1; go_simp; refine ⟨⟨_, rfl⟩, hK _ ?_⟩; clear hK K)
        (refine wpLoose_nil ?_; intro _ hw'; obtain ⟨nq, rfl⟩ := hw')
        have HD : Hid (∀ w1 w', canon .f32 (fval .sub .f32 1065353216 (fval .mul .f32 (f (16 + k)) (q k) w1) w') = gapOf (canon .f32 (f (16 + k))) (canon .f32 (q k))) := Lib.hid (fun w1 w' => by rw [c_sub, c_mul]; rfl)
        have hq : ∀ w1 w', (FloatKind.f32.format.order (fval .sub .f32 1065353216 (fval .mul .f32 (f (16 + k)) (q k) w1) w') 0 == some .gt) = gapOk (canon .f32 (f (16 + k))) (canon .f32 (q k)) := fun w1 w' => by rw [o_gt, HD.out]; rfl
        cases h0 : gapOk (canon .f32 (f (16 + k))) (canon .f32 (q k)) with
        | false =>
          have Hm : Hid ((overRes (fun i => canon .f32 (f i)) fun i => canon .f32 (q i)) = (fun _ => canon .f32 0, 4)) := Lib.hid (by
            have h1 : (allTo 16 fun i => gapOk (canon .f32 (f (16 + i))) (canon .f32 (q i))) = false := allTo_false hlt h0
            simp only [overRes, Hs.out, h1, Bool.false_eq_true, if_false, if_true])
          rw [h0] at hq
          have hZ := Blk.drewN hZ nq
          have hb := bDrew hb nq
          clear h0 c0 c1 c2 c4
          go_wp2_with (first | (refine wpList_build_as rfl 26 _ rfl (fA 16 fun _ => 0) (by kernel_rfl) ?_) | (refine wpList_store_row rfl 26 _ _ rfl _ _ rfl rfl _ _ hZ (by kernel_rfl) (by simp only [size_fA]) (all_fA _ _) ?_)); exact bodyPost_ret (results_cell_row2 rfl _ _ (w.heap.size + 1) _ _ _ _ rfl hZ.setRow Try.underlying26 rfl (by kernel_rfl)) rfl (RetCC.as Hm.out ⟨_, rfl, fun _ _ => rfl, (by repeat (first | assumption | exact Below.refl _ _ | refine bDrew ?_ _ | refine Below.alloc ?_ (by first | omega | (simp; done) | (simp; omega)) _ | refine Below.setCell ?_ (by first | omega | (simp; done) | (simp; omega)) _ | refine bRow ?_ (by first | omega | (simp; done) | (simp; omega)) _))⟩)
        | true =>
          rw [h0] at hq
          have H0 := Lib.hid h0
          clear h0
          have c3 := (hC.cell k).trans (get_fA_lt cur hlt)
          have f1 := hC.frozen k
          go_wp2_with fail
          clear hq
          (refine wp_region_loose_tail 29 (fun w' => ∃ n, w' = wr.drewN n) (GM fmul (fun _ x => most x)) (by kernel_rfl) (by kernel_rfl) ⟨nq + 1, rfl⟩ ?_; simp only [List.take_succ_cons, List.take_zero, List.drop_succ_cons, List.drop_zero])
          clear nq
          repeat (refine wpLoose_plain rfl (fun K hK w1 hw1 => ?_); obtain ⟨n, rfl⟩ := hw1; go_simp; refine ⟨⟨_, rfl⟩, hK _ ?_⟩; clear hK K)
          (refine wpLoose_plain rfl (fun K hK w1 hw1 => ?_); obtain ⟨n1, rfl⟩ := hw1; go_simp; refine ⟨⟨_, rfl⟩, (l02Most_any _ _).mono ?_, fun u hu => hK _ ?_⟩; (rintro e w' ⟨r, rfl, hr, m, rfl⟩; exact ⟨_, rfl, GM.mk1 hr, _, by rw [World.drewN_drewN]⟩); clear hK K; obtain ⟨r4, rfl, H4⟩ := GM.inv1 hu; clear hu)
          repeat (refine wpLoose_plain rfl (fun K hK w1 hw1 => ?_); obtain ⟨n, rfl⟩ := hw1; go_simp; refine ⟨⟨_, rfl⟩, hK _ ?_⟩; clear hK K)
          (refine wpLoose_nil ?_; intro _ hw'; obtain ⟨nq, rfl⟩ := hw')
          go_wp2
          go_roundw
          case rel =>
            refine ⟨k + 1, _, by omega, by go_num, (bDrew hb _).setCell (by dsimp only; omega) _, Blk.far (Blk.drewN hF _) (by dsimp only; omega) _, Blk.far (Blk.drewN hQ _) (by dsimp only; omega) _, Blk.far (Blk.drewN hZ _) (by dsimp only; omega) _, Blk.setF (Blk.drewN hC _) k _, ?_, upd_to (Q := fun j v => canon .f32 v = overAt (fun i => canon .f32 (f i)) (fun i => canon .f32 (q i)) j) Hc.out ?_⟩
            · intro j hj
              by_cases e : j = k
              · subst e; exact H0.out
              · exact Hg.out j (by omega)
            · rw [H4.out, c_add, c_div, c_mul, c_mul, HD.out]; rfl
          case measure => simp [intOf]; omega
      · obtain rfl : k = 16 := by omega
        have Hm : Hid ((overRes (fun i => canon .f32 (f i)) fun i => canon .f32 (q i)) = ((finRes (overAt (fun i => canon .f32 (f i)) fun i => canon .f32 (q i))).1, (finRes (overAt (fun i => canon .f32 (f i)) fun i => canon .f32 (q i))).2)) := Lib.hid (by
          have h1 : (allTo 16 fun i => gapOk (canon .f32 (f (16 + i))) (canon .f32 (q i))) = true := allTo_true Hg.out
          simp only [overRes, Hs.out, h1, if_true])
        go_wp2_with (refine wpList_load_row rfl 26 _ rfl _ rfl _ _ (0, 0) _ hC Try.underlying26 rfl (by kernel_rfl) ?_)
        refine (l02Curve_any cur wr).mono ?_
        rintro e w4 ⟨s, rfl, hs, hb1⟩
        have hZ := hZ.below hb1 hZ.lt
        have hb := bCall hb hb1 hb.size
        have Hq := Lib.hid hs
        clear hs hb1
        go_wp2_with (refine wpList_store_row rfl 26 _ _ rfl _ _ rfl rfl _ _ hZ (by kernel_rfl) (by simp only [size_fA]) (all_fA _ _) ?_)
        exact bodyPost_ret (results_cell_row2 rfl _ _ (w.heap.size + 1) _ _ _ _ rfl hZ.setRow Try.underlying26 rfl (by kernel_rfl)) rfl (RetCC.as Hm.out (finRes_congr Hc.out ⟨s, rfl, Hq.out, (by repeat (first | assumption | exact Below.refl _ _ | refine bDrew ?_ _ | refine Below.alloc ?_ (by first | omega | (simp; done) | (simp; omega)) _ | refine Below.setCell ?_ (by first | omega | (simp; done) | (simp; omega)) _ | refine bRow ?_ (by first | omega | (simp; done) | (simp; omega)) _))⟩))
theorem iOverBacking_any (f q : Nat → Nat) (w : World) : Calls Try.prog 14 #[.agg (fA 48 f), .agg (fA 16 q)] w (RetCC 16 w (overBackingRes f q).1 (overBackingRes f q).2) := by
  have hF : Blk (((w.alloc (.cells (fA 48 f) 28)).alloc (.cells (fA 16 q) 26)).alloc (.cells (fA 16 fun _ => 0) 26)) w.heap.size 28 (fA 48 f) := ((Blk.new _ _ _).alloc _).alloc _
  have hQ : Blk (((w.alloc (.cells (fA 48 f) 28)).alloc (.cells (fA 16 q) 26)).alloc (.cells (fA 16 fun _ => 0) 26)) (w.heap.size + 1) 26 (fA 16 q) := (Blk.new_at _ _ (by simp) rfl).alloc _
  have hZ : Blk (((w.alloc (.cells (fA 48 f) 28)).alloc (.cells (fA 16 q) 26)).alloc (.cells (fA 16 fun _ => 0) 26)) (w.heap.size + 1 + 1) 26 (fA 16 fun _ => 0) := Blk.new_at _ _ (by simp) rfl
  have hb : Below w.heap.size w (((w.alloc (.cells (fA 48 f) 28)).alloc (.cells (fA 16 q) 26)).alloc (.cells (fA 16 fun _ => 0) 26)) := (by repeat (first | assumption | exact Below.refl _ _ | refine bDrew ?_ _ | refine Below.alloc ?_ (by first | omega | (simp; done) | (simp; omega)) _ | refine Below.setCell ?_ (by first | omega | (simp; done) | (simp; omega)) _ | refine bRow ?_ (by first | omega | (simp; done) | (simp; omega)) _))
  go_enter Try.func14, Try.ntmps14
  go_wp2_with (refine wpList_load_row rfl 28 _ rfl _ rfl _ _ (0, 0) _ hF Try.underlying28 rfl (by kernel_rfl) ?_)
  refine (iValidFilm_any f _).mono ?_
  rintro e w1 ⟨rfl, hb1⟩
  have hF := hF.below hb1 hF.lt
  have hQ := hQ.below hb1 hQ.lt
  have hZ := hZ.below hb1 hZ.lt
  have hb := bCall hb hb1 hb.size; clear hb1
  cases hs : filmOk f with
  | false =>
    have Hm : Hid (overBackingRes f q = (fun _ => canon .f32 0, 1)) := Lib.hid (by simp only [overBackingRes, hs, Bool.false_eq_true, if_false])
    clear hs
    go_wp2_with (first | (refine wpList_build_as rfl 26 _ rfl (fA 16 fun _ => 0) (by kernel_rfl) ?_) | (refine wpList_store_row rfl 26 _ _ rfl _ _ rfl rfl _ _ hZ (by kernel_rfl) (by simp only [size_fA]) (all_fA _ _) ?_)); exact bodyPost_ret (results_cell_row2 rfl _ _ (w.heap.size + 1 + 1) _ _ _ _ rfl hZ.setRow Try.underlying26 rfl (by kernel_rfl)) rfl (RetCC.as Hm.out ⟨_, rfl, fun _ _ => rfl, (by repeat (first | assumption | exact Below.refl _ _ | refine bDrew ?_ _ | refine Below.alloc ?_ (by first | omega | (simp; done) | (simp; omega)) _ | refine Below.setCell ?_ (by first | omega | (simp; done) | (simp; omega)) _ | refine bRow ?_ (by first | omega | (simp; done) | (simp; omega)) _))⟩)
  | true =>
    have Hm : Hid (overBackingRes f q = ((overRes (fun i => canon .f32 (f i)) fun i => canon .f32 (q i)).1, (overRes (fun i => canon .f32 (f i)) fun i => canon .f32 (q i)).2)) := Lib.hid (by simp only [overBackingRes, hs, if_true])
    clear hs
    go_wp2_with (first | (refine wpList_load_row rfl 28 _ rfl _ rfl _ _ (0, 0) _ hF Try.underlying28 rfl (by kernel_rfl) ?_) | (refine wpList_load_row rfl 26 _ rfl _ rfl _ _ (0, 0) _ hQ Try.underlying26 rfl (by kernel_rfl) ?_))
    refine (over_any f q w1).mono ?_
    rintro e w4 ⟨s, rfl, hs, hb1⟩
    have hZ := hZ.below hb1 hZ.lt
    have hb := bCall hb hb1 hb.size
    have Hq := Lib.hid hs
    clear hs hb1
    go_wp2_with (refine wpList_store_row rfl 26 _ _ rfl _ _ rfl rfl _ _ hZ (by kernel_rfl) (by simp only [size_fA]) (all_fA _ _) ?_)
    exact bodyPost_ret (results_cell_row2 rfl _ _ (w.heap.size + 1 + 1) _ _ _ _ rfl hZ.setRow Try.underlying26 rfl (by kernel_rfl)) rfl (RetCC.as Hm.out ⟨s, rfl, Hq.out, (by repeat (first | assumption | exact Below.refl _ _ | refine bDrew ?_ _ | refine Below.alloc ?_ (by first | omega | (simp; done) | (simp; omega)) _ | refine Below.setCell ?_ (by first | omega | (simp; done) | (simp; omega)) _ | refine bRow ?_ (by first | omega | (simp; done) | (simp; omega)) _))⟩)
theorem sOverBacking_any (f q : Nat → Nat) (w : World) : Calls Try.prog 15 #[.agg (fA 48 f), .agg (fA 16 q)] w (RetCC 16 w (overBackingRes f q).1 (overBackingRes f q).2) := by
  have hF : Blk (((w.alloc (.cells (fA 48 f) 28)).alloc (.cells (fA 16 q) 26)).alloc (.cells (fA 16 fun _ => 0) 26)) w.heap.size 28 (fA 48 f) := ((Blk.new _ _ _).alloc _).alloc _
  have hQ : Blk (((w.alloc (.cells (fA 48 f) 28)).alloc (.cells (fA 16 q) 26)).alloc (.cells (fA 16 fun _ => 0) 26)) (w.heap.size + 1) 26 (fA 16 q) := (Blk.new_at _ _ (by simp) rfl).alloc _
  have hZ : Blk (((w.alloc (.cells (fA 48 f) 28)).alloc (.cells (fA 16 q) 26)).alloc (.cells (fA 16 fun _ => 0) 26)) (w.heap.size + 1 + 1) 26 (fA 16 fun _ => 0) := Blk.new_at _ _ (by simp) rfl
  have hb : Below w.heap.size w (((w.alloc (.cells (fA 48 f) 28)).alloc (.cells (fA 16 q) 26)).alloc (.cells (fA 16 fun _ => 0) 26)) := (by repeat (first | assumption | exact Below.refl _ _ | refine bDrew ?_ _ | refine Below.alloc ?_ (by first | omega | (simp; done) | (simp; omega)) _ | refine Below.setCell ?_ (by first | omega | (simp; done) | (simp; omega)) _ | refine bRow ?_ (by first | omega | (simp; done) | (simp; omega)) _))
  go_enter Try.func15, Try.ntmps15
  go_wp2_with fail
  refine (l02Film_any _ _ f _ hF).mono ?_
  rintro e w1 ⟨rfl, hb1⟩
  have hF := hF.below hb1 hF.lt
  have hQ := hQ.below hb1 hQ.lt
  have hZ := hZ.below hb1 hZ.lt
  have hb := bCall hb hb1 hb.size; clear hb1
  cases hs : filmOk f with
  | false =>
    have Hm : Hid (overBackingRes f q = (fun _ => canon .f32 0, 1)) := Lib.hid (by simp only [overBackingRes, hs, Bool.false_eq_true, if_false])
    clear hs
    go_wp2_with (first | (refine wpList_build_as rfl 26 _ rfl (fA 16 fun _ => 0) (by kernel_rfl) ?_) | (refine wpList_store_row rfl 26 _ _ rfl _ _ rfl rfl _ _ hZ (by kernel_rfl) (by simp only [size_fA]) (all_fA _ _) ?_)); exact bodyPost_ret (results_cell_row2 rfl _ _ (w.heap.size + 1 + 1) _ _ _ _ rfl hZ.setRow Try.underlying26 rfl (by kernel_rfl)) rfl (RetCC.as Hm.out ⟨_, rfl, fun _ _ => rfl, (by repeat (first | assumption | exact Below.refl _ _ | refine bDrew ?_ _ | refine Below.alloc ?_ (by first | omega | (simp; done) | (simp; omega)) _ | refine Below.setCell ?_ (by first | omega | (simp; done) | (simp; omega)) _ | refine bRow ?_ (by first | omega | (simp; done) | (simp; omega)) _))⟩)
  | true =>
    have Hm : Hid (overBackingRes f q = ((overRes (fun i => canon .f32 (f i)) fun i => canon .f32 (q i)).1, (overRes (fun i => canon .f32 (f i)) fun i => canon .f32 (q i)).2)) := Lib.hid (by simp only [overBackingRes, hs, if_true])
    clear hs
    go_wp2_with (refine wpList_load_row rfl 26 _ rfl _ rfl _ _ (0, 0) _ hQ Try.underlying26 rfl (by kernel_rfl) ?_)
    refine (l02Over_any _ _ f q w1 hF).mono ?_
    rintro e w4 ⟨s, rfl, hs, hb1⟩
    have hZ := hZ.below hb1 hZ.lt
    have hb := bCall hb hb1 hb.size
    have Hq := Lib.hid hs
    clear hs hb1
    go_wp2_with (refine wpList_store_row rfl 26 _ _ rfl _ _ rfl rfl _ _ hZ (by kernel_rfl) (by simp only [size_fA]) (all_fA _ _) ?_)
    exact bodyPost_ret (results_cell_row2 rfl _ _ (w.heap.size + 1 + 1) _ _ _ _ rfl hZ.setRow Try.underlying26 rfl (by kernel_rfl)) rfl (RetCC.as Hm.out ⟨s, rfl, Hq.out, (by repeat (first | assumption | exact Below.refl _ _ | refine bDrew ?_ _ | refine Below.alloc ?_ (by first | omega | (simp; done) | (simp; omega)) _ | refine Below.setCell ?_ (by first | omega | (simp; done) | (simp; omega)) _ | refine bRow ?_ (by first | omega | (simp; done) | (simp; omega)) _))⟩)
end Go.Proofs.Ytfpjiclkhjdihaa

namespace Go.Proofs.Ytfpjiclkhjdihaa
open Go.RowKit
set_option maxRecDepth 100000

def paintMade (F : (Nat → Option Nat) × Int) (q : Nat → Option Nat) : (Nat → Option Nat) × Int := if F.2 = 0 then overRes F.1 q else (fun _ => canon .f32 0, F.2)
theorem over_congr {w : World} {f f' q : Nat → Option Nat} {e : Ending} {w' : World} (h : ∀ i, i < 48 → f i = f' i) (hr : RetCC 16 w (overRes f q).1 (overRes f q).2 e w') : RetCC 16 w (overRes f' q).1 (overRes f' q).2 e w' := by
  have ha : (allTo 16 fun i => gapOk (f (16 + i)) (q i)) = allTo 16 fun i => gapOk (f' (16 + i)) (q i) := allTo_congr fun i hi => by rw [h _ (by omega)]
  unfold overRes at hr ⊢
  rw [ha] at hr
  split at hr
  · rename_i h1
    rw [if_pos h1]
    split at hr
    · rename_i h2
      rw [if_pos h2]
      exact finRes_congr (fun i hi => by unfold overAt; rw [h i (by omega), h (16 + i) (by omega), h (32 + i) (by omega)]) hr
    · rename_i h2
      rw [if_neg h2]
      exact hr
  · rename_i h1
    rw [if_neg h1]
    exact hr
theorem ne_facts {c : Int} (h : ¬ c = 0) : (c == 0) = false ∧ (c != 0) = true := by simp [h]

theorem iPaintOver_any (a q : Nat → Nat) (w : World) : Calls Try.prog 43 #[.agg (fA 33 a), .agg (fA 16 q)] w (RetCC 16 w (paintMade (filmOfRes a) fun i => canon .f32 (q i)).1 (paintMade (filmOfRes a) fun i => canon .f32 (q i)).2) := by
  have hA : Blk (((w.alloc (.cells (fA 33 a) 41)).alloc (.cells (fA 16 q) 26)).alloc (.cells (fA 16 fun _ => 0) 26)) w.heap.size 41 (fA 33 a) := ((Blk.new _ _ _).alloc _).alloc _
  have hQ : Blk (((w.alloc (.cells (fA 33 a) 41)).alloc (.cells (fA 16 q) 26)).alloc (.cells (fA 16 fun _ => 0) 26)) (w.heap.size + 1) 26 (fA 16 q) := (Blk.new_at _ _ (by simp) rfl).alloc _
  have hZ : Blk (((w.alloc (.cells (fA 33 a) 41)).alloc (.cells (fA 16 q) 26)).alloc (.cells (fA 16 fun _ => 0) 26)) (w.heap.size + 1 + 1) 26 (fA 16 fun _ => 0) := Blk.new_at _ _ (by simp) rfl
  have hb : Below w.heap.size w (((w.alloc (.cells (fA 33 a) 41)).alloc (.cells (fA 16 q) 26)).alloc (.cells (fA 16 fun _ => 0) 26)) := (by repeat (first | assumption | exact Below.refl _ _ | refine bDrew ?_ _ | refine Below.alloc ?_ (by first | omega | (simp; done) | (simp; omega)) _ | refine Below.setCell ?_ (by first | omega | (simp; done) | (simp; omega)) _ | refine bRow ?_ (by first | omega | (simp; done) | (simp; omega)) _))
  go_enter Try.func43, Try.ntmps43
  go_wp2_with (refine wpList_load_row rfl 41 _ rfl _ rfl _ _ (0, 0) _ hA Try.underlying41 rfl (by kernel_rfl) ?_)
  refine (iFilmOf_any a _).mono ?_
  generalize hF : filmOfRes a = F
  obtain ⟨p, cd⟩ := F
  have HF := Lib.hid hF
  clear hF
  rintro e w1 ⟨r, rfl, hr, hb1⟩
  have hQ := hQ.below hb1 hQ.lt
  have hZ := hZ.below hb1 hZ.lt
  have hb := bCall hb hb1 hb.size; clear hb1
  have Hr := Lib.hid hr
  clear hr hA
  have hR : Blk (w1.alloc (.cells (fA 48 r) 28)) w1.heap.size 28 (fA 48 r) := Blk.new _ _ _
  have hQ := hQ.alloc (.cells (fA 48 r) 28)
  have hg : w.heap.size + 1 + 1 < w1.heap.size := hZ.lt
  have hZ := hZ.alloc (.cells (fA 48 r) 28)
  have hb : Below w.heap.size w (w1.alloc (.cells (fA 48 r) 28)) := Below.alloc hb hb.size _
  dsimp only at *
  by_cases hc : cd = 0
  · subst hc
    have Hm : Hid ((paintMade (filmOfRes a) fun i => canon .f32 (q i)) = ((overRes p fun i => canon .f32 (q i)).1, (overRes p fun i => canon .f32 (q i)).2)) := Lib.hid (by rw [HF.out]; simp only [paintMade, if_true])
    go_wp2_with (first | (refine wpList_store_new rfl 28 _ _ rfl _ rfl rfl (by kernel_rfl) rfl (all_fA _ _) ?_) | (refine wpList_load_row rfl 28 _ rfl _ rfl _ _ (0, 0) _ hR Try.underlying28 rfl (by kernel_rfl) ?_) | (refine wpList_load_row rfl 26 _ rfl _ rfl _ _ (0, 0) _ hQ Try.underlying26 rfl (by kernel_rfl) ?_))
    refine (over_any r q _).mono ?_
    intro e w4 h4
    obtain ⟨s, rfl, hs, hb1⟩ := over_congr Hr.out h4
    clear h4
    have hZ := hZ.below hb1 hZ.lt
    have hb := bCall hb hb1 hb.size
    have Hq := Lib.hid hs
    clear hs hb1
    go_wp2_with (refine wpList_store_row rfl 26 _ _ rfl _ _ rfl rfl _ _ hZ (by kernel_rfl) (by simp only [size_fA]) (all_fA _ _) ?_)
    exact bodyPost_ret (results_cell_row2 rfl _ _ (w.heap.size + 1 + 1) _ _ _ _ rfl hZ.setRow Try.underlying26 rfl (by kernel_rfl)) rfl (RetCC.as Hm.out ⟨s, rfl, Hq.out, (by repeat (first | assumption | exact Below.refl _ _ | refine bDrew ?_ _ | refine Below.alloc ?_ (by first | omega | (simp; done) | (simp; omega)) _ | refine Below.setCell ?_ (by first | omega | (simp; done) | (simp; omega)) _ | refine bRow ?_ (by first | omega | (simp; done) | (simp; omega)) _))⟩)
  · obtain ⟨h1, h2⟩ := ne_facts hc
    have Hm : Hid ((paintMade (filmOfRes a) fun i => canon .f32 (q i)) = (fun _ => canon .f32 0, cd)) := Lib.hid (by rw [HF.out]; simp only [paintMade, hc, if_false])
    go_wp2_with (first | (refine wpList_store_new rfl 28 _ _ rfl _ rfl rfl (by kernel_rfl) rfl (all_fA _ _) ?_) | (refine wpList_build_as rfl 26 _ rfl (fA 16 fun _ => 0) (by kernel_rfl) ?_) | (refine wpList_store_row rfl 26 _ _ rfl _ _ rfl rfl _ _ hZ (by kernel_rfl) (by simp only [size_fA]) (all_fA _ _) ?_))
    exact bodyPost_ret (results_cell_row2 rfl _ _ (w.heap.size + 1 + 1) _ _ _ _ rfl hZ.setRow Try.underlying26 rfl (by kernel_rfl)) rfl (RetCC.as Hm.out ⟨_, rfl, fun _ _ => rfl, (by repeat (first | assumption | exact Below.refl _ _ | refine bDrew ?_ _ | refine Below.alloc ?_ (by first | omega | (simp; done) | (simp; omega)) _ | refine Below.setCell ?_ (by first | omega | (simp; done) | (simp; omega)) _ | refine bRow ?_ (by first | omega | (simp; done) | (simp; omega)) _))⟩)
theorem l02Paint_any (g : Nat) (T : TypeId) (a q : Nat → Nat) (w : World) (hA : Blk w g T (fA 33 a)) : Calls Try.prog 75 #[.pointer (some ⟨g, 0, none⟩), .agg (fA 16 q)] w (RetCC 16 w (paintMade (filmMade fun i => canon .f32 (a i)) fun i => canon .f32 (q i)).1 (paintMade (filmMade fun i => canon .f32 (a i)) fun i => canon .f32 (q i)).2) := by
  have hA := (hA.alloc (.cells (fA 16 q) 26)).alloc (.cells (fA 16 fun _ => 0) 26)
  have hQ : Blk ((w.alloc (.cells (fA 16 q) 26)).alloc (.cells (fA 16 fun _ => 0) 26)) w.heap.size 26 (fA 16 q) := (Blk.new _ _ _).alloc _
  have hZ : Blk ((w.alloc (.cells (fA 16 q) 26)).alloc (.cells (fA 16 fun _ => 0) 26)) (w.heap.size + 1) 26 (fA 16 fun _ => 0) := Blk.new_at _ _ (by simp) rfl
  have hb : Below w.heap.size w ((w.alloc (.cells (fA 16 q) 26)).alloc (.cells (fA 16 fun _ => 0) 26)) := (by repeat (first | assumption | exact Below.refl _ _ | refine bDrew ?_ _ | refine Below.alloc ?_ (by first | omega | (simp; done) | (simp; omega)) _ | refine Below.setCell ?_ (by first | omega | (simp; done) | (simp; omega)) _ | refine bRow ?_ (by first | omega | (simp; done) | (simp; omega)) _))
  go_enter Try.func75, Try.ntmps75
  go_wp2_with fail
  refine (l02FilmOf_any _ _ a _ hA).mono ?_
  generalize hF : (filmMade fun i => canon .f32 (a i)) = F
  obtain ⟨p, cd⟩ := F
  have HF := Lib.hid hF
  clear hF
  rintro e w1 ⟨r, rfl, hr, hb1⟩
  have hQ := hQ.below hb1 hQ.lt
  have hZ := hZ.below hb1 hZ.lt
  have hb := bCall hb hb1 hb.size; clear hb1
  have Hr := Lib.hid hr
  clear hr hA
  have hR : Blk (w1.alloc (.cells (fA 48 r) 28)) w1.heap.size 28 (fA 48 r) := Blk.new _ _ _
  have hQ := hQ.alloc (.cells (fA 48 r) 28)
  have hg : w.heap.size + 1 < w1.heap.size := hZ.lt
  have hZ := hZ.alloc (.cells (fA 48 r) 28)
  have hb : Below w.heap.size w (w1.alloc (.cells (fA 48 r) 28)) := Below.alloc hb hb.size _
  dsimp only at *
  by_cases hc : cd = 0
  · subst hc
    have Hm : Hid ((paintMade (filmMade fun i => canon .f32 (a i)) fun i => canon .f32 (q i)) = ((overRes p fun i => canon .f32 (q i)).1, (overRes p fun i => canon .f32 (q i)).2)) := Lib.hid (by rw [HF.out]; simp only [paintMade, if_true])
    go_wp2_with (first | (refine wpList_store_new rfl 28 _ _ rfl _ rfl rfl (by kernel_rfl) rfl (all_fA _ _) ?_) | (refine wpList_load_row rfl 28 _ rfl _ rfl _ _ (0, 0) _ hR Try.underlying28 rfl (by kernel_rfl) ?_) | (refine wpList_load_row rfl 26 _ rfl _ rfl _ _ (0, 0) _ hQ Try.underlying26 rfl (by kernel_rfl) ?_))
    refine (l02Over_any _ _ r q _ hR).mono ?_
    intro e w4 h4
    obtain ⟨s, rfl, hs, hb1⟩ := over_congr Hr.out h4
    clear h4
    have hZ := hZ.below hb1 hZ.lt
    have hb := bCall hb hb1 hb.size
    have Hq := Lib.hid hs
    clear hs hb1
    go_wp2_with (refine wpList_store_row rfl 26 _ _ rfl _ _ rfl rfl _ _ hZ (by kernel_rfl) (by simp only [size_fA]) (all_fA _ _) ?_)
    exact bodyPost_ret (results_cell_row2 rfl _ _ (w.heap.size + 1) _ _ _ _ rfl hZ.setRow Try.underlying26 rfl (by kernel_rfl)) rfl (RetCC.as Hm.out ⟨s, rfl, Hq.out, (by repeat (first | assumption | exact Below.refl _ _ | refine bDrew ?_ _ | refine Below.alloc ?_ (by first | omega | (simp; done) | (simp; omega)) _ | refine Below.setCell ?_ (by first | omega | (simp; done) | (simp; omega)) _ | refine bRow ?_ (by first | omega | (simp; done) | (simp; omega)) _))⟩)
  · obtain ⟨h1, h2⟩ := ne_facts hc
    have Hm : Hid ((paintMade (filmMade fun i => canon .f32 (a i)) fun i => canon .f32 (q i)) = (fun _ => canon .f32 0, cd)) := Lib.hid (by rw [HF.out]; simp only [paintMade, hc, if_false])
    go_wp2_with (first | (refine wpList_store_new rfl 28 _ _ rfl _ rfl rfl (by kernel_rfl) rfl (all_fA _ _) ?_) | (refine wpList_build_as rfl 26 _ rfl (fA 16 fun _ => 0) (by kernel_rfl) ?_) | (refine wpList_store_row rfl 26 _ _ rfl _ _ rfl rfl _ _ hZ (by kernel_rfl) (by simp only [size_fA]) (all_fA _ _) ?_))
    exact bodyPost_ret (results_cell_row2 rfl _ _ (w.heap.size + 1) _ _ _ _ rfl hZ.setRow Try.underlying26 rfl (by kernel_rfl)) rfl (RetCC.as Hm.out ⟨_, rfl, fun _ _ => rfl, (by repeat (first | assumption | exact Below.refl _ _ | refine bDrew ?_ _ | refine Below.alloc ?_ (by first | omega | (simp; done) | (simp; omega)) _ | refine Below.setCell ?_ (by first | omega | (simp; done) | (simp; omega)) _ | refine bRow ?_ (by first | omega | (simp; done) | (simp; omega)) _))⟩)
end Go.Proofs.Ytfpjiclkhjdihaa
