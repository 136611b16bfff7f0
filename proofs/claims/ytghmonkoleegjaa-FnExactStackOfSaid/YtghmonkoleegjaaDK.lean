/- Contracts: a film over a backing; a film over another one. -/
import Derived.Test.YtghmonkoleegjaaDG
namespace Go.Proofs.Ytghmonkoleegjaa
open Go.RowKit
set_option maxRecDepth 100000

def most (x : Option Nat) : Option Nat := if fgt x (canon .f32 1065353216) then canon .f32 1065353216 else x
/-- What is divided by; a sum of what is reflected at once and later. -/
def gapOf (b q : Option Nat) : Option Nat := fsub (canon .f32 1065353216) (fmul b q)
def gapOk (b q : Option Nat) : Bool := fgt (gapOf b q) (canon .f32 0)
def upon (r t q d : Option Nat) : Option Nat := most (fadd r (fdiv (fmul (fmul t t) q) d))
def overAt (f q : Nat → Option Nat) (i : Nat) : Option Nat := upon (f i) (f (32 + i)) (q i) (gapOf (f (16 + i)) (q i))
def overRes (f q : Nat → Option Nat) : (Nat → Option Nat) × Int := if allTo 16 (fun i => share (q i)) then if allTo 16 (fun i => gapOk (f (16 + i)) (q i)) then finRes (overAt f q) else (fun _ => canon .f32 0, 4) else (fun _ => canon .f32 0, 2)
def addAt (f g : Nat → Option Nat) (i : Nat) : Option Nat :=
  if i < 16 then upon (f i) (f (32 + i)) (g i) (gapOf (f (16 + i)) (g i))
  else if i < 32 then upon (g i) (g (16 + i)) (f i) (gapOf (f i) (g (i - 16)))
  else most (fdiv (fmul (f i) (g i)) (gapOf (f (i - 16)) (g (i - 32))))
def addRes (f g : Nat → Option Nat) : (Nat → Option Nat) × Int := if allTo 16 (fun i => gapOk (f (16 + i)) (g i)) then finFilmRes (addAt f g) else (fun _ => canon .f32 0, 4)

theorem most_yes {x : Nat} (h : (FloatKind.f32.format.order x 1065353216 == some .gt) = true) : most (canon .f32 x) = canon .f32 1065353216 := by
  rw [o_gt] at h
  simp only [most, h, if_true]
theorem most_no {x : Nat} (h : (FloatKind.f32.format.order x 1065353216 == some .gt) = false) : most (canon .f32 x) = canon .f32 x := by
  rw [o_gt] at h
  simp only [most, h, Bool.false_eq_true, if_false]
theorem atMostOne_any (x : Nat) (w : World) : Calls Try.prog 69 #[.float .f32 x] w (RetFq w (most (canon .f32 x))) := by
  cases h : (FloatKind.f32.format.order x 1065353216 == some .gt) with
  | true =>
    have Hm := Lib.hid (most_yes h)
    go_enter Try.func69, Try.ntmps69
    go_wp2
    go_ret
    exact ⟨_, rfl, Hm.out.symm, 0, rfl⟩
  | false =>
    have Hm := Lib.hid (most_no h)
    go_enter Try.func69, Try.ntmps69
    go_wp2
    go_ret
    exact ⟨_, rfl, Hm.out.symm, 0, rfl⟩
theorem l02Most_any (x : Nat) (w : World) : Calls Try.prog 61 #[.float .f32 x] w (RetFq w (most (canon .f32 x))) := by
  cases h : (FloatKind.f32.format.order x 1065353216 == some .gt) with
  | true =>
    have Hm := Lib.hid (most_yes h)
    go_enter Try.func61, Try.ntmps61
    go_wp2
    go_ret
    exact ⟨_, rfl, Hm.out.symm, 0, rfl⟩
  | false =>
    have Hm := Lib.hid (most_no h)
    go_enter Try.func61, Try.ntmps61
    go_wp2
    go_ret
    exact ⟨_, rfl, Hm.out.symm, 0, rfl⟩
end Go.Proofs.Ytghmonkoleegjaa
