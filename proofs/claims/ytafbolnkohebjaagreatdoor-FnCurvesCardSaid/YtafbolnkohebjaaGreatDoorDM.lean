/- One cell of a row of float32: reading, writing, as steps of a walk. No program is named here. Contracts: films of layers. Contracts: films of layers, the walks over all wavelengths. Contracts: a film over a backing; a film over another one. Contracts: films of layers, the reference. Contracts: a film over a backing, the reference and the whole. Contracts: paint over a backing. -/
import Derived.Test.YtafbolnkohebjaaGreatDoorKit
import Derived.WalkKit
import Derived.Test.YtafbolnkohebjaaGreatDoorCR
import Derived.Test.YtafbolnkohebjaaGreatDoorCZ
import Derived.Deep.Cut
namespace Go.Proofs.YtafbolnkohebjaaGreatDoor
open Go.RowKit
section
variable {P : Program} {w : World} {g n : Nat} {t : TypeId} {b : Nat → Nat}
theorem wpList_store_f {ops : Array Oper} {rest : List Oper} {o : Oper} {act : Act} {Q : Exit → Act → World → Prop} (hgd : o.guard = none) (ty : TypeId) (x y : Operand) (ho : o.op = .store ty x y)
    (hB : Blk w g t (fA n b)) {off v : Nat} (hx : act.eval x = .pointer (some ⟨g, off, none⟩)) (hy : act.eval y = .float .f32 v) (hoff : off < n) (hi : (P.info? ty).map (·.size) = some 1)
    (h : wpList P ops Q rest (act.put o.dst undef) (w.setCell ⟨g, off, none⟩ (.float .f32 v))) : wpList P ops Q (o :: rest) act w :=
  wpList_plain hgd fun K hK => by
    have h1 := (hB.cell off).trans (get_fA_lt b hoff)
    have h2 := hB.frozen off
    have hk := hK _ _ h
    have hs : ∀ w : World, (sizeOf ty).run P w = .ok 1 w := by
      intro w
      cases hq : P.info? ty with
      | none => simp [hq] at hi
      | some inf =>
        have hz : inf.size = 1 := by simpa [hq] using hi
        simp [sizeOf, typeInfo, hq, hz]
    unfold Oper.wp execOp
    simp only [ho, hx, hy]
    go_simp
    exact hk
end
end Go.Proofs.YtafbolnkohebjaaGreatDoor

namespace Go.Proofs.YtafbolnkohebjaaGreatDoor
open Go.RowKit
set_option maxRecDepth 100000

/-- A thin film of one wavelength; whether it is too strong; two of them are one. -/
def thinR (s x : Option Nat) : Option Nat := fmul s x
def thinT (k s x : Option Nat) : Option Nat := fsub (fsub (canon .f32 1065353216) (fmul k x)) (fmul s x)
def thinX (thick : Option Nat) : Option Nat := fdiv thick (canon .f32 1149239296)
def strong (r t : Option Nat) : Bool := flt t (canon .f32 0) || fgt r (canon .f32 1065353216)
def dblD (r : Option Nat) : Option Nat := fsub (canon .f32 1065353216) (fmul r r)
def dbl (p : Option Nat × Option Nat) : Option Nat × Option Nat := (fadd p.1 (fdiv (fmul (fmul p.2 p.2) p.1) (dblD p.1)), fdiv (fmul p.2 p.2) (dblD p.1))
def dblN (p : Option Nat × Option Nat) : Nat → Option Nat × Option Nat
  | 0 => p
  | n + 1 => dbl (dblN p n)
def thin (k s x : Option Nat) : Option Nat × Option Nat := (thinR s x, thinT k s x)
def tooStrong (k s x : Option Nat) : Bool := strong (thinR s x) (thinT k s x)
/-- The film of a layer: 16 times R, B and T. -/
def filmAt (f : Nat → Option Nat) (i : Nat) : Option Nat :=
  if i < 16 then (dblN (thin (f i) (f (16 + i)) (thinX (f 32))) 10).1
  else if i < 32 then (dblN (thin (f (i - 16)) (f i) (thinX (f 32))) 10).1
  else (dblN (thin (f (i - 32)) (f (i - 16)) (thinX (f 32))) 10).2
def finFilm (p : Nat → Option Nat) : Bool := allTo 16 (fun i => fin (p i)) && allTo 16 (fun i => fin (p (16 + i))) && allTo 16 (fun i => fin (p (32 + i)))
def finFilmRes (p : Nat → Option Nat) : (Nat → Option Nat) × Int := if finFilm p then (p, 0) else (fun _ => canon .f32 0, 4)
def filmMade (f : Nat → Option Nat) : (Nat → Option Nat) × Int := if allTo 16 (fun i => !tooStrong (f i) (f (16 + i)) (thinX (f 32))) then finFilmRes (filmAt f) else (fun _ => canon .f32 0, 3)
def filmOfRes (a : Nat → Nat) : (Nat → Option Nat) × Int := if layerOk a then filmMade (fun i => canon .f32 (a i)) else (fun _ => canon .f32 0, 1)
theorem finFilm_congr {w : World} {p q : Nat → Option Nat} {e : Ending} {w' : World} (h : ∀ i, i < 48 → p i = q i) (hr : RetCC 48 w (finFilmRes p).1 (finFilmRes p).2 e w') : RetCC 48 w (finFilmRes q).1 (finFilmRes q).2 e w' := by
  have ha : finFilm p = finFilm q := by
    unfold finFilm
    rw [allTo_congr (q := fun i => fin (q i)) fun i hi => by rw [h i (by omega)], allTo_congr (p := fun i => fin (p (16 + i))) (q := fun i => fin (q (16 + i))) fun i hi => by rw [h _ (by omega)],
      allTo_congr (p := fun i => fin (p (32 + i))) (q := fun i => fin (q (32 + i))) fun i hi => by rw [h _ (by omega)]]
  unfold finFilmRes at hr ⊢
  rw [ha] at hr
  cases hq : finFilm q with
  | false => rw [hq] at hr; exact hr
  | true =>
    rw [hq] at hr
    obtain ⟨r, h1, h2, h3⟩ := hr
    exact ⟨r, h1, fun i hi => (h2 i hi).trans (h i hi), h3⟩

/-- Two numbers and whether they may be. -/
def RetD (w : World) (p : Option Nat × Option Nat) (ok : Bool) (e : Ending) (w' : World) : Prop := ∃ r t, e = .returned (.tuple #[.float .f32 r, .float .f32 t, .bool ok]) ∧ canon .f32 r = p.1 ∧ canon .f32 t = p.2 ∧ Drawn w w'
theorem RetD.as {w : World} {p : Option Nat × Option Nat} {c : Bool} {q : (Option Nat × Option Nat) × Bool} {e : Ending} {w' : World} (h : q = (p, c)) (hr : RetD w p c e w') : RetD w q.1 q.2 e w' := by subst h; exact hr
theorem results_tmp3 {P : Program} {fn : Func} {a b c : Tmp} (h : fn.results = #[.tmp a, .tmp b, .tmp c]) (tmps : Array Value) (w : World) :
    (results fn tmps).run P w = .ok (.tuple #[tmps.getD a undef, tmps.getD b undef, tmps.getD c undef]) w := by
  simp [results, h]
def dblRes (k s x : Option Nat) : (Option Nat × Option Nat) × Bool := if tooStrong k s (thinX x) then ((canon .f32 0, canon .f32 0), false) else (dblN (thin k s (thinX x)) 10, true)

end Go.Proofs.YtafbolnkohebjaaGreatDoor

namespace Go.Proofs.YtafbolnkohebjaaGreatDoor
open Go.RowKit
set_option maxRecDepth 100000

theorem at0 (a : Nat → Nat) (i : Nat) : rowAt a 0 i = a i := by simp [rowAt]

/-- What a walk over the wavelengths has filled in. -/
def Filled (c : Nat → Option Nat) (cur : Nat → Nat) (k : Nat) : Prop := ∀ j, j < k → canon .f32 (cur j) = filmAt c j ∧ canon .f32 (cur (16 + j)) = filmAt c (16 + j) ∧ canon .f32 (cur (32 + j)) = filmAt c (32 + j)
theorem Filled.next {c : Nat → Option Nat} {cur : Nat → Nat} {k r t : Nat} (h : Filled c cur k) (hk : k < 16) (hr : canon .f32 r = (dblN (thin (c k) (c (16 + k)) (thinX (c 32))) 10).1) (ht : canon .f32 t = (dblN (thin (c k) (c (16 + k)) (thinX (c 32))) 10).2) :
    Filled c (upd (upd (upd cur k r) (16 + k) r) (32 + k) t) (k + 1) := by
  intro j hj
  have e1 : filmAt c k = (dblN (thin (c k) (c (16 + k)) (thinX (c 32))) 10).1 := by unfold filmAt; rw [if_pos hk]
  have e2 : filmAt c (16 + k) = (dblN (thin (c k) (c (16 + k)) (thinX (c 32))) 10).1 := by unfold filmAt; rw [if_neg (by omega), if_pos (by omega), show 16 + k - 16 = k by omega]
  have e3 : filmAt c (32 + k) = (dblN (thin (c k) (c (16 + k)) (thinX (c 32))) 10).2 := by unfold filmAt; rw [if_neg (by omega), if_neg (by omega), show 32 + k - 32 = k by omega, show 32 + k - 16 = 16 + k by omega]
  by_cases e : j = k
  · subst e
    refine ⟨?_, ?_, ?_⟩
    · rw [upd_other _ _ (by omega), upd_other _ _ (by omega), upd_same, hr, e1]
    · rw [upd_other _ _ (by omega), upd_same, hr, e2]
    · rw [upd_same, ht, e3]
  · obtain ⟨h1, h2, h3⟩ := h j (by omega)
    refine ⟨?_, ?_, ?_⟩
    · rw [upd_other _ _ (by omega), upd_other _ _ (by omega), upd_other _ _ (by omega), h1]
    · rw [upd_other _ _ (by omega), upd_other _ _ (by omega), upd_other _ _ (by omega), h2]
    · rw [upd_other _ _ (by omega), upd_other _ _ (by omega), upd_other _ _ (by omega), h3]
theorem Filled.all {c : Nat → Option Nat} {cur : Nat → Nat} (h : Filled c cur 16) : ∀ i, i < 48 → canon .f32 (cur i) = filmAt c i := by
  intro i hi
  by_cases h1 : i < 16
  · exact (h i h1).1
  · by_cases h2 : i < 32
    · have := (h (i - 16) (by omega)).2.1
      rwa [show 16 + (i - 16) = i by omega] at this
    · have := (h (i - 32) (by omega)).2.2
      rwa [show 32 + (i - 32) = i by omega] at this
/-- What the call of 'doubled' gives. -/
def GD (_f : FuncId) (args : Array Value) (u : Value) : Prop := ∃ k s x r t, args = #[.float .f32 k, .float .f32 s, .float .f32 x] ∧ u = .tuple #[.float .f32 r, .float .f32 t, .bool (dblRes (canon .f32 k) (canon .f32 s) (canon .f32 x)).2] ∧
  canon .f32 r = (dblRes (canon .f32 k) (canon .f32 s) (canon .f32 x)).1.1 ∧ canon .f32 t = (dblRes (canon .f32 k) (canon .f32 s) (canon .f32 x)).1.2
theorem GD.inv {f : FuncId} {k s x : Nat} {u : Value} (h : GD f #[.float .f32 k, .float .f32 s, .float .f32 x] u) : ∃ r t, u = .tuple #[.float .f32 r, .float .f32 t, .bool (dblRes (canon .f32 k) (canon .f32 s) (canon .f32 x)).2] ∧
    Hid (canon .f32 r = (dblRes (canon .f32 k) (canon .f32 s) (canon .f32 x)).1.1 ∧ canon .f32 t = (dblRes (canon .f32 k) (canon .f32 s) (canon .f32 x)).1.2) := by
  obtain ⟨k', s', x', r, t, ha, hu, h1, h2⟩ := h
  simp only [Array.mk.injEq, List.cons.injEq, Value.float.injEq, true_and, and_true] at ha
  obtain ⟨rfl, rfl, rfl⟩ := ha
  exact ⟨r, t, hu, Lib.hid ⟨h1, h2⟩⟩

end Go.Proofs.YtafbolnkohebjaaGreatDoor

namespace Go.Proofs.YtafbolnkohebjaaGreatDoor
open Go.RowKit
set_option maxRecDepth 100000

def most (x : Option Nat) : Option Nat := if fgt x (canon .f32 1065353216) then canon .f32 1065353216 else x
/-- What is divided by; a sum of what is reflected at once and later. -/
def gapOf (b q : Option Nat) : Option Nat := fsub (canon .f32 1065353216) (fmul b q)
def gapOk (b q : Option Nat) : Bool := fgt (gapOf b q) (canon .f32 0)
def upon (r t q d : Option Nat) : Option Nat := most (fadd r (fdiv (fmul (fmul t t) q) d))
def overAt (f q : Nat → Option Nat) (i : Nat) : Option Nat := upon (f i) (f (32 + i)) (q i) (gapOf (f (16 + i)) (q i))
def overRes (f q : Nat → Option Nat) : (Nat → Option Nat) × Int := if allTo 16 (fun i => share (q i)) then if allTo 16 (fun i => gapOk (f (16 + i)) (q i)) then finRes (overAt f q) else (fun _ => canon .f32 0, 4) else (fun _ => canon .f32 0, 2)
def addAt (f g : Nat → Option Nat) (i : Nat) : Option Nat :=
  if i < 16 then upon (f i) (f (32 + i)) (g i) (gapOf (f (16 + i)) (g i))
  else if i < 32 then upon (g i) (g (16 + i)) (f i) (gapOf (f i) (g (i - 16)))
  else most (fdiv (fmul (f i) (g i)) (gapOf (f (i - 16)) (g (i - 32))))
def addRes (f g : Nat → Option Nat) : (Nat → Option Nat) × Int := if allTo 16 (fun i => gapOk (f (16 + i)) (g i)) then finFilmRes (addAt f g) else (fun _ => canon .f32 0, 4)

theorem most_yes {x : Nat} (h : (FloatKind.f32.format.order x 1065353216 == some .gt) = true) : most (canon .f32 x) = canon .f32 1065353216 := by
  rw [o_gt] at h
  simp only [most, h, if_true]
theorem most_no {x : Nat} (h : (FloatKind.f32.format.order x 1065353216 == some .gt) = false) : most (canon .f32 x) = canon .f32 x := by
  rw [o_gt] at h
  simp only [most, h, Bool.false_eq_true, if_false]
end Go.Proofs.YtafbolnkohebjaaGreatDoor

namespace Go.Proofs.YtafbolnkohebjaaGreatDoor
open Go.RowKit
set_option maxRecDepth 100000

end Go.Proofs.YtafbolnkohebjaaGreatDoor

namespace Go.Proofs.YtafbolnkohebjaaGreatDoor
open Go.RowKit
set_option maxRecDepth 100000

def overBackingRes (f q : Nat → Nat) : (Nat → Option Nat) × Int := if filmOk f then overRes (fun i => canon .f32 (f i)) (fun i => canon .f32 (q i)) else (fun _ => canon .f32 0, 1)

end Go.Proofs.YtafbolnkohebjaaGreatDoor

namespace Go.Proofs.YtafbolnkohebjaaGreatDoor
open Go.RowKit
set_option maxRecDepth 100000

def paintMade (F : (Nat → Option Nat) × Int) (q : Nat → Option Nat) : (Nat → Option Nat) × Int := if F.2 = 0 then overRes F.1 q else (fun _ => canon .f32 0, F.2)
theorem over_congr {w : World} {f f' q : Nat → Option Nat} {e : Ending} {w' : World} (h : ∀ i, i < 48 → f i = f' i) (hr : RetCC 16 w (overRes f q).1 (overRes f q).2 e w') : RetCC 16 w (overRes f' q).1 (overRes f' q).2 e w' := by
  have ha : (allTo 16 fun i => gapOk (f (16 + i)) (q i)) = allTo 16 fun i => gapOk (f' (16 + i)) (q i) := allTo_congr fun i hi => by rw [h _ (by omega)]
  unfold overRes at hr ⊢
  rw [ha] at hr
  split at hr
  · rename_i h1
    rw [if_pos h1]
    split at hr
    · rename_i h2
      rw [if_pos h2]
      exact finRes_congr (fun i hi => by unfold overAt; rw [h i (by omega), h (16 + i) (by omega), h (32 + i) (by omega)]) hr
    · rename_i h2
      rw [if_neg h2]
      exact hr
  · rename_i h1
    rw [if_neg h1]
    exact hr
theorem ne_facts {c : Int} (h : ¬ c = 0) : (c == 0) = false ∧ (c != 0) = true := by simp [h]

end Go.Proofs.YtafbolnkohebjaaGreatDoor
