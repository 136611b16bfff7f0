/- Contracts: whether a layer, a film may be one. -/
import Derived.Test.YtmikeegecifbfaaCL
import Derived.Test.YtmikeegecifbfaaCE
import Derived.Test.YtmikeegecifbfaaSub
namespace Go.Proofs.Ytmikeegecifbfaa
open Go.RowKit
set_option maxRecDepth 100000

def layerOk (a : Nat → Nat) : Bool := allTo 16 (fun i => amount (canon .f32 (rowAt a 0 i))) && allTo 16 (fun i => amount (canon .f32 (rowAt a 16 i))) && amount (canon .f32 (a 32))
/-- Not more than 1.001 in all. -/
def least (x y : Option Nat) : Bool := fle (fadd x y) (canon .f32 1065361605)
def filmOk (a : Nat → Nat) : Bool :=
  allTo 16 (fun i => share (canon .f32 (rowAt a 0 i))) && allTo 16 (fun i => share (canon .f32 (rowAt a 16 i))) && allTo 16 (fun i => share (canon .f32 (rowAt a 32 i)))
    && allTo 16 (fun i => least (canon .f32 (rowAt a 0 i)) (canon .f32 (rowAt a 32 i))) && allTo 16 (fun i => least (canon .f32 (rowAt a 16 i)) (canon .f32 (rowAt a 32 i)))

theorem datum_order_some {a b : Ieee.Datum} (ha : a.isNaN = false) (hb : b.isNaN = false) : (a.order b).isSome = true := by
  cases a <;> cases b <;> simp_all [Ieee.Datum.isNaN, Ieee.Datum.order]
theorem share_number {x : Option Nat} (h : share x = true) : ∃ b s m e, x = some b ∧ FloatKind.f32.decode b = .number s m e := by
  cases x with
  | none => cases h
  | some b =>
    cases hd : FloatKind.f32.decode b with
    | number s m e => exact ⟨b, s, m, e, rfl, hd⟩
    | infinity s =>
      exfalso
      have h0 : FloatKind.f32.decode 0 = .number false 0 (-149) := by decide
      have h1 : FloatKind.f32.decode 1065353216 = .number false 8388608 (-23) := by decide
      have k0 : cord .f32 (some b) (canon .f32 0) = (FloatKind.f32.decode b).order (FloatKind.f32.decode 0) := rfl
      have k1 : cord .f32 (some b) (canon .f32 1065353216) = (FloatKind.f32.decode b).order (FloatKind.f32.decode 1065353216) := rfl
      rw [hd, h0] at k0
      rw [hd, h1] at k1
      unfold share fge fle at h
      rw [k0, k1] at h
      cases s <;> simp [Ieee.Datum.order] at h
    | nan s t =>
      exfalso
      have k0 : cord .f32 (some b) (canon .f32 0) = (FloatKind.f32.decode b).order (FloatKind.f32.decode 0) := rfl
      rw [hd] at k0
      unfold share fge at h
      rw [k0] at h
      simp [Ieee.Datum.order] at h
theorem share_sum {x y : Option Nat} (hx : share x = true) (hy : share y = true) : ∃ r, fadd x y = some r ∧ (FloatKind.f32.decode r).isNaN = false := by
  obtain ⟨a, s, m, e, rfl, ha⟩ := share_number hx
  obtain ⟨b, s', m', e', rfl, hb⟩ := share_number hy
  have h1 : fadd (some a) (some b) = Option.map FloatKind.f32.format.write ((FloatKind.f32.decode a).sum (FloatKind.f32.decode b)) := rfl
  cases hs : (FloatKind.f32.decode a).sum (FloatKind.f32.decode b) with
  | none => rw [ha, hb] at hs; simp [Ieee.Datum.sum] at hs
  | some d =>
    rw [hs] at h1
    exact ⟨_, h1, write_notNaN _ (binade_le .f32) d (sum_notNaN hs).1⟩
theorem share_gt {x y : Option Nat} (hx : share x = true) (hy : share y = true) : fgt (fadd x y) (canon .f32 1065361605) = !least x y := by
  obtain ⟨r, hr, hn⟩ := share_sum hx hy
  unfold least
  rw [hr]
  have h := datum_order_some hn (show (FloatKind.f32.decode 1065361605).isNaN = false by decide)
  have k : cord .f32 (some r) (canon .f32 1065361605) = (FloatKind.f32.decode r).order (FloatKind.f32.decode 1065361605) := rfl
  unfold fgt fle
  rw [k]
  obtain ⟨o, ho⟩ := Option.isSome_iff_exists.1 h
  rw [ho]
  cases o <;> rfl

end Go.Proofs.Ytmikeegecifbfaa
