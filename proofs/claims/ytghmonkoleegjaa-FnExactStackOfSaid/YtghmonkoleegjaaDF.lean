/- Contracts: films of layers. -/
import Derived.Test.YtghmonkoleegjaaCR
import Derived.Test.YtghmonkoleegjaaCY
import Derived.Test.YtghmonkoleegjaaCell
namespace Go.Proofs.Ytghmonkoleegjaa
open Go.RowKit
set_option maxRecDepth 100000

/-- A thin film of one wavelength; whether it is too strong; two of them are one. -/
def thinR (s x : Option Nat) : Option Nat := fmul s x
def thinT (k s x : Option Nat) : Option Nat := fsub (fsub (canon .f32 1065353216) (fmul k x)) (fmul s x)
def thinX (thick : Option Nat) : Option Nat := fdiv thick (canon .f32 1149239296)
def strong (r t : Option Nat) : Bool := flt t (canon .f32 0) || fgt r (canon .f32 1065353216)
def dblD (r : Option Nat) : Option Nat := fsub (canon .f32 1065353216) (fmul r r)
def dbl (p : Option Nat × Option Nat) : Option Nat × Option Nat := (fadd p.1 (fdiv (fmul (fmul p.2 p.2) p.1) (dblD p.1)), fdiv (fmul p.2 p.2) (dblD p.1))
def dblN (p : Option Nat × Option Nat) : Nat → Option Nat × Option Nat
  | 0 => p
  | n + 1 => dbl (dblN p n)
def thin (k s x : Option Nat) : Option Nat × Option Nat := (thinR s x, thinT k s x)
def tooStrong (k s x : Option Nat) : Bool := strong (thinR s x) (thinT k s x)
/-- The film of a layer: 16 times R, B and T. -/
def filmAt (f : Nat → Option Nat) (i : Nat) : Option Nat :=
  if i < 16 then (dblN (thin (f i) (f (16 + i)) (thinX (f 32))) 10).1
  else if i < 32 then (dblN (thin (f (i - 16)) (f i) (thinX (f 32))) 10).1
  else (dblN (thin (f (i - 32)) (f (i - 16)) (thinX (f 32))) 10).2
def finFilm (p : Nat → Option Nat) : Bool := allTo 16 (fun i => fin (p i)) && allTo 16 (fun i => fin (p (16 + i))) && allTo 16 (fun i => fin (p (32 + i)))
def finFilmRes (p : Nat → Option Nat) : (Nat → Option Nat) × Int := if finFilm p then (p, 0) else (fun _ => canon .f32 0, 4)
def filmMade (f : Nat → Option Nat) : (Nat → Option Nat) × Int := if allTo 16 (fun i => !tooStrong (f i) (f (16 + i)) (thinX (f 32))) then finFilmRes (filmAt f) else (fun _ => canon .f32 0, 3)
def filmOfRes (a : Nat → Nat) : (Nat → Option Nat) × Int := if layerOk a then filmMade (fun i => canon .f32 (a i)) else (fun _ => canon .f32 0, 1)
theorem finFilm_congr {w : World} {p q : Nat → Option Nat} {e : Ending} {w' : World} (h : ∀ i, i < 48 → p i = q i) (hr : RetCC 48 w (finFilmRes p).1 (finFilmRes p).2 e w') : RetCC 48 w (finFilmRes q).1 (finFilmRes q).2 e w' := by
  have ha : finFilm p = finFilm q := by
    unfold finFilm
    rw [allTo_congr (q := fun i => fin (q i)) fun i hi => by rw [h i (by omega)], allTo_congr (p := fun i => fin (p (16 + i))) (q := fun i => fin (q (16 + i))) fun i hi => by rw [h _ (by omega)],
      allTo_congr (p := fun i => fin (p (32 + i))) (q := fun i => fin (q (32 + i))) fun i hi => by rw [h _ (by omega)]]
  unfold finFilmRes at hr ⊢
  rw [ha] at hr
  cases hq : finFilm q with
  | false => rw [hq] at hr; exact hr
  | true =>
    rw [hq] at hr
    obtain ⟨r, h1, h2, h3⟩ := hr
    exact ⟨r, h1, fun i hi => (h2 i hi).trans (h i hi), h3⟩

/-- Two numbers and whether they may be. -/
def RetD (w : World) (p : Option Nat × Option Nat) (ok : Bool) (e : Ending) (w' : World) : Prop := ∃ r t, e = .returned (.tuple #[.float .f32 r, .float .f32 t, .bool ok]) ∧ canon .f32 r = p.1 ∧ canon .f32 t = p.2 ∧ Drawn w w'
theorem RetD.as {w : World} {p : Option Nat × Option Nat} {c : Bool} {q : (Option Nat × Option Nat) × Bool} {e : Ending} {w' : World} (h : q = (p, c)) (hr : RetD w p c e w') : RetD w q.1 q.2 e w' := by subst h; exact hr
theorem results_tmp3 {P : Program} {fn : Func} {a b c : Tmp} (h : fn.results = #[.tmp a, .tmp b, .tmp c]) (tmps : Array Value) (w : World) :
    (results fn tmps).run P w = .ok (.tuple #[tmps.getD a undef, tmps.getD b undef, tmps.getD c undef]) w := by
  simp [results, h]
def dblRes (k s x : Option Nat) : (Option Nat × Option Nat) × Bool := if tooStrong k s (thinX x) then ((canon .f32 0, canon .f32 0), false) else (dblN (thin k s (thinX x)) 10, true)

theorem doubled_any (k s x : Nat) (w : World) : Calls Try.prog 67 #[.float .f32 k, .float .f32 s, .float .f32 x] w (RetD w (dblRes (canon .f32 k) (canon .f32 s) (canon .f32 x)).1 (dblRes (canon .f32 k) (canon .f32 s) (canon .f32 x)).2) := by
  go_enter Try.func67, Try.ntmps67
  go_wp2_with fail
  refine (mul_any _ _ _).mono ?_
  rintro e w1 ⟨r1, rfl, hr1, n1, rfl⟩
  have H1 := Lib.hid hr1
  clear hr1
  go_wp2_with fail
  refine (mul_any _ _ _).mono ?_
  rintro e w1 ⟨r2, rfl, hr2, n2, rfl⟩
  have H2 := Lib.hid hr2
  clear hr2
  go_wp2_with fail
  refine (mul_any _ _ _).mono ?_
  rintro e w1 ⟨r3, rfl, hr3, n3, rfl⟩
  have H3 := Lib.hid hr3
  clear hr3
  have T1 : Hid (canon .f32 r1 = thinR (canon .f32 s) (thinX (canon .f32 x))) := Lib.hid (by rw [H1.out, c_div]; rfl)
  have T2 : Hid (∀ w1 w2, canon .f32 (fval .sub .f32 (fval .sub .f32 1065353216 r2 w1) r3 w2) = thinT (canon .f32 k) (canon .f32 s) (thinX (canon .f32 x))) := Lib.hid (fun w1 w2 => by rw [c_sub, c_sub, H2.out, H3.out, c_div]; rfl)
  have hc1 : ∀ w1 w2, (FloatKind.f32.format.order (fval .sub .f32 (fval .sub .f32 1065353216 r2 w1) r3 w2) 0 == some .lt) = flt (thinT (canon .f32 k) (canon .f32 s) (thinX (canon .f32 x))) (canon .f32 0) := fun w1 w2 => by rw [o_lt, T2.out]
  have hc2 : (FloatKind.f32.format.order r1 1065353216 == some .gt) = fgt (thinR (canon .f32 s) (thinX (canon .f32 x))) (canon .f32 1065353216) := by rw [o_gt, T1.out]
  clear H1 H2 H3
  cases h1 : flt (thinT (canon .f32 k) (canon .f32 s) (thinX (canon .f32 x))) (canon .f32 0) with
  | true =>
    have Hm : Hid (dblRes (canon .f32 k) (canon .f32 s) (canon .f32 x) = ((canon .f32 0, canon .f32 0), false)) := Lib.hid (by unfold dblRes tooStrong strong; rw [h1]; rfl)
    rw [h1] at hc1
    clear h1 hc2
    go_wp2
    exact bodyPost_ret (results_tmp3 rfl _ _) rfl (RetD.as Hm.out ⟨_, _, rfl, rfl, rfl, _, rfl⟩)
  | false =>
    rw [h1] at hc1
    cases h2 : fgt (thinR (canon .f32 s) (thinX (canon .f32 x))) (canon .f32 1065353216) with
    | true =>
      have Hm : Hid (dblRes (canon .f32 k) (canon .f32 s) (canon .f32 x) = ((canon .f32 0, canon .f32 0), false)) := Lib.hid (by unfold dblRes tooStrong strong; rw [h1, h2]; rfl)
      rw [h2] at hc2
      clear h1 h2
      go_wp2
      exact bodyPost_ret (results_tmp3 rfl _ _) rfl (RetD.as Hm.out ⟨_, _, rfl, rfl, rfl, _, rfl⟩)
    | false =>
      have Hm : Hid (dblRes (canon .f32 k) (canon .f32 s) (canon .f32 x) = (dblN (thin (canon .f32 k) (canon .f32 s) (thinX (canon .f32 x))) 10, true)) := Lib.hid (by unfold dblRes tooStrong strong; rw [h1, h2]; rfl)
      rw [h2] at hc2
      clear h1 h2
      go_wp2
      clear hc1 hc2
      go_loopw [10, 11, 12, 13, 33] (fun r t _ _ i wr => ∃ (n rr tt : Nat), n ≤ 10 ∧ i = .int .i64 n ∧ r = .float .f32 rr ∧ t = .float .f32 tt ∧ Hid ((canon .f32 rr, canon .f32 tt) = dblN (thin (canon .f32 k) (canon .f32 s) (thinX (canon .f32 x))) n) ∧ ∃ n, wr = w.drewN n) (fun _ _ _ _ i _ => 10 - (intOf i).toNat)
      case atStart => exact ⟨0, _, _, by omega, rfl, rfl, rfl, Lib.hid (by rw [T1.out, T2.out]; rfl), _, rfl⟩
      case round =>
        clear T1 T2
        obtain ⟨n, rr, tt, hn, rfl, rfl, rfl, HR, n0, rfl⟩ := hrel
        by_cases hlt : n < 10
        · go_wp2_with fail
          refine (mul_any _ _ _).mono ?_
          rintro e w1 ⟨q1, rfl, hq1, m1, rfl⟩
          have Q1 := Lib.hid hq1
          clear hq1
          go_wp2_with fail
          refine (mul_any _ _ _).mono ?_
          rintro e w1 ⟨q2, rfl, hq2, m2, rfl⟩
          have Q2 := Lib.hid hq2
          clear hq2
          go_wp2_with fail
          refine (mul_any _ _ _).mono ?_
          rintro e w1 ⟨q3, rfl, hq3, m3, rfl⟩
          have Q3 := Lib.hid hq3
          clear hq3
          go_wp2
          go_roundw
          case rel => exact ⟨n + 1, _, _, by omega, by go_num, rfl, rfl, Lib.hid (by rw [c_add, c_div, c_div, Q3.out, Q2.out, c_sub, Q1.out]; show dbl (canon .f32 rr, canon .f32 tt) = _; rw [HR.out]; rfl), _, rfl⟩
          case measure => simp [intOf]; omega
        · obtain rfl : n = 10 := by omega
          go_wp2
          exact bodyPost_ret (results_tmp3 rfl _ _) rfl (RetD.as Hm.out ⟨_, _, rfl, congrArg (·.1) HR.out, congrArg (·.2) HR.out, _, rfl⟩)
end Go.Proofs.Ytghmonkoleegjaa
