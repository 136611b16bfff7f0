/- The texts of numbers: digits to the base 16, as the reference writes them. -/
import Derived.Test.YtnfnlgmnnjgemaaGreatDoorCA
import Derived.IntWalk
import Derived.Laws.MakeOwn
import Derived.BigQuiet
import Derived.Deep.QuietTactic
import Derived.Lib.SlBytesRow
namespace Go.Proofs.YtnfnlgmnnjgemaaGreatDoor
open Go.RowKit
set_option maxRecDepth 100000

/-- The byte of a digit to the base 16. -/
def hexB (d : Nat) : Nat := if d < 10 then 48 + d else 87 + d
/-- Digit j of eight, from the left. -/
def hexD (x j : Nat) : Nat := hexB (x / 16 ^ (7 - j) % 16)
/-- The eight digits. -/
def hexT (x : Nat) : ByteArray := ⟨((List.range 8).map fun j => UInt8.ofNat (hexD x j)).toArray⟩
theorem hexB_lt (d : Nat) (h : d < 16) : hexB d < 256 := by unfold hexB; split <;> omega
theorem hexD_lt (x j : Nat) : hexD x j < 256 := hexB_lt _ (Nat.mod_lt _ (by decide))
theorem hexT_size (x : Nat) : (hexT x).size = 8 := by simp [hexT, ByteArray.size]
theorem hexT_get (x i : Nat) (h : i < (hexT x).size) : ((hexT x)[i]'h).toNat = hexD x i := by
  have h8 := h
  rw [hexT_size] at h8
  have e : (hexT x)[i]'h = UInt8.ofNat (hexD x i) := by
    show (hexT x).data[i] = _
    simp [hexT]
  rw [e, UInt8.toNat_ofNat']
  exact Nat.mod_eq_of_lt (hexD_lt x i)
/-- The bits of a number, one pattern for each NaN. -/
def bitsOf : Option Nat → Nat
  | none => 2143289344
  | some y => y

/-- Eight bytes are made. -/
theorem run_make8 {P : Program} (w : World) {t e : TypeId} (ht : P.underlying t = some (.slice e)) (hi : (P.info? e).map (fun i => (i.zero, i.size, i.bytes)) = some (some (.int .u8 0), 1, 1)) :
    (Instr.makeSlice t (.int .i64 8) (.int .i64 8)).run P w = .ok (.slice (some ⟨w.heap.size, 0, none⟩) 8 8) (w.alloc (.cells (Array.replicate 8 (.int .u8 0)) e)) := by
  cases hq : P.info? e with
  | none => simp [hq] at hi
  | some i =>
    simp only [hq, Option.map_some, Option.some.injEq, Prod.mk.injEq] at hi
    obtain ⟨h1, h2, h3⟩ := hi
    have e1 : madeCells (Value.int .u8 0).cells ((8 : Int).toNat * i.size) = Array.replicate 8 (.int .u8 0) := by rw [h2]; kernel_rfl
    rw [run_make (P := P) w t e i _ ht hq h1 .i64 .i64 8 8 (by omega) (Int.le_refl _) (by rw [h3]; decide) (by omega), e1]
    rfl
theorem hex_get (d : Nat) (h : d < 16) (h' : d < (⟨#[48, 49, 50, 51, 52, 53, 54, 55, 56, 57, 97, 98, 99, 100, 101, 102]⟩ : ByteArray).size) : ((⟨#[48, 49, 50, 51, 52, 53, 54, 55, 56, 57, 97, 98, 99, 100, 101, 102]⟩ : ByteArray)[d]'h').toNat = hexB d := by
  have : ∀ d : Fin 16, ((⟨#[48, 49, 50, 51, 52, 53, 54, 55, 56, 57, 97, 98, 99, 100, 101, 102]⟩ : ByteArray)[d.val]'d.isLt).toNat = hexB d.val := by decide
  exact this ⟨d, h⟩
end Go.Proofs.YtnfnlgmnnjgemaaGreatDoor
