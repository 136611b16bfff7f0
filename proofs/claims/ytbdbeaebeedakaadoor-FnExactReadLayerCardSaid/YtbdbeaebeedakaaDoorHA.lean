/- The texts of numbers: digits to the base 16, as the reference writes them. -/
import Derived.Test.YtbdbeaebeedakaaDoorCB
import Derived.IntWalk
import Derived.Laws.MakeOwn
import Derived.BigQuiet
import Derived.Deep.QuietTactic
import Derived.Lib.SlBytesRow
namespace Go.Proofs.YtbdbeaebeedakaaDoor
open Go.RowKit
set_option maxRecDepth 100000

/-- The byte of a digit to the base 16. -/
def hexB (d : Nat) : Nat := if d < 10 then 48 + d else 87 + d
/-- Digit j of eight, from the left. -/
def hexD (x j : Nat) : Nat := hexB (x / 16 ^ (7 - j) % 16)
/-- The eight digits. -/
def hexT (x : Nat) : ByteArray := ⟨((List.range 8).map fun j => UInt8.ofNat (hexD x j)).toArray⟩
theorem hexB_lt (d : Nat) (h : d < 16) : hexB d < 256 := by unfold hexB; split <;> omega
theorem hexD_lt (x j : Nat) : hexD x j < 256 := hexB_lt _ (Nat.mod_lt _ (by decide))
theorem hexT_size (x : Nat) : (hexT x).size = 8 := by simp [hexT, ByteArray.size]
theorem hexT_get (x i : Nat) (h : i < (hexT x).size) : ((hexT x)[i]'h).toNat = hexD x i := by
  have h8 := h
  rw [hexT_size] at h8
  have e : (hexT x)[i]'h = UInt8.ofNat (hexD x i) := by
    show (hexT x).data[i] = _
    simp [hexT]
  rw [e, UInt8.toNat_ofNat']
  exact Nat.mod_eq_of_lt (hexD_lt x i)
/-- The bits of a number, one pattern for each NaN. -/
def bitsOf : Option Nat → Nat
  | none => 2143289344
  | some y => y

theorem l01Bits_any (a : Nat) (w : World) : Calls Tryd.prog 41 #[.float .f32 a] w fun e w' => e = .returned (.int .u32 (bitsOf (canon .f32 a))) ∧ w' = w := by
  have hbits := bits32
  cases ha : canon .f32 a with
  | none =>
    have oa : FloatKind.f32.format.order a a = none := by rw [order_self, ha]; rfl
    clear ha
    go_enter Tryd.func41, Tryd.ntmps41
    go_wp2
    go_ret
    exact ⟨rfl, rfl⟩
  | some x =>
    have oa : FloatKind.f32.format.order a a = some .eq := by rw [order_self, ha]; rfl
    obtain ⟨rfl, _⟩ := canon_eq_some ha
    clear ha
    go_enter Tryd.func41, Tryd.ntmps41
    go_wp2
    go_ret
    exact ⟨rfl, rfl⟩
/-- Eight bytes are made. -/
theorem run_make8 {P : Program} (w : World) {t e : TypeId} (ht : P.underlying t = some (.slice e)) (hi : (P.info? e).map (fun i => (i.zero, i.size, i.bytes)) = some (some (.int .u8 0), 1, 1)) :
    (Instr.makeSlice t (.int .i64 8) (.int .i64 8)).run P w = .ok (.slice (some ⟨w.heap.size, 0, none⟩) 8 8) (w.alloc (.cells (Array.replicate 8 (.int .u8 0)) e)) := by
  cases hq : P.info? e with
  | none => simp [hq] at hi
  | some i =>
    simp only [hq, Option.map_some, Option.some.injEq, Prod.mk.injEq] at hi
    obtain ⟨h1, h2, h3⟩ := hi
    have e1 : madeCells (Value.int .u8 0).cells ((8 : Int).toNat * i.size) = Array.replicate 8 (.int .u8 0) := by rw [h2]; kernel_rfl
    rw [run_make (P := P) w t e i _ ht hq h1 .i64 .i64 8 8 (by omega) (Int.le_refl _) (by rw [h3]; decide) (by omega), e1]
    rfl
theorem hex_get (d : Nat) (h : d < 16) (h' : d < (⟨#[48, 49, 50, 51, 52, 53, 54, 55, 56, 57, 97, 98, 99, 100, 101, 102]⟩ : ByteArray).size) : ((⟨#[48, 49, 50, 51, 52, 53, 54, 55, 56, 57, 97, 98, 99, 100, 101, 102]⟩ : ByteArray)[d]'h').toNat = hexB d := by
  have : ∀ d : Fin 16, ((⟨#[48, 49, 50, 51, 52, 53, 54, 55, 56, 57, 97, 98, 99, 100, 101, 102]⟩ : ByteArray)[d.val]'d.isLt).toNat = hexB d.val := by decide
  exact this ⟨d, h⟩
theorem l01Hex_all (a x : Nat) (w : World) (hb : bitsOf (canon .f32 a) = x) (hx : x < 4294967296) : Calls Tryd.prog 26 #[.float .f32 a] w fun e w' => e = .returned (.string (hexT x)) ∧ Below w.heap.size w w' := by
  have hmk := fun w => run_make8 (P := Tryd.prog) w (t := 70) Tryd.underlying70 (by kernel_rfl)
  go_enter Tryd.func26, Tryd.ntmps26
  go_wp2_with fail
  refine (l01Bits_any _ _).mono ?_
  rintro e w' ⟨rfl, rfl⟩
  rw [hb]
  clear hb
  go_wp2
  go_loopw [5, 3] (fun i b wr => ∃ (k y : Nat) (cs : Array Value), k ≤ 8 ∧ i = .int .i64 ((k : Int) - 1) ∧ b = .int .u32 y ∧ y = x / 16 ^ (8 - k) ∧ Below w'.heap.size w' wr ∧ Blk wr w'.heap.size 5 cs ∧ cs.size = 8 ∧ ∀ j, j < 8 → k ≤ j → cs[j]? = some (.int .u8 (hexD x j))) (fun i _ _ => ((intOf i) + 1).toNat)
  case atStart => exact ⟨8, x, _, by omega, rfl, rfl, by simp, (Below.refl _ _).alloc (Nat.le_refl _) _, Blk.new _ _ _, by simp, fun j h1 h2 => by omega⟩
  case round =>
    obtain ⟨k, y, cs, hm, rfl, rfl, hy, hb, hB, hz, hc⟩ := hrel
    have Hc := Lib.hid hc
    clear hc
    have hyx : y ≤ x := hy ▸ Nat.div_le_self _ _
    have Hy := Lib.hid hy
    clear hy
    cases k with
    | succ k =>
      rw [show (((k + 1 : Nat) : Int) - 1) = k by omega]
      obtain ⟨d, hdd⟩ : ∃ d, d = y % 16 := ⟨_, rfl⟩
      obtain ⟨q, hqq⟩ : ∃ q, q = y / 16 := ⟨_, rfl⟩
      have t1 : (y : Int).tmod 16 = d := by rw [hdd]; rfl
      have t2 : (y : Int).tdiv 16 = q := by rw [hqq]; rfl
      have hd16 : d < 16 := by omega
      have t3 : (q : Int) % 4294967296 = q := by omega
      have hx2 := hex_get d hd16
      have c1 : wr.cell? ⟨w'.heap.size, k, none⟩ = some (cs[k]'(by omega)) := by rw [hB.cell k]; exact Array.getElem?_eq_getElem (by omega)
      have f1 := hB.frozen k
      generalize (cs[k]'(by omega)) = old at c1
      have Hd := Lib.hid hdd
      have Hq := Lib.hid hqq
      clear hdd hqq
      go_wp2
      go_roundw
      case rel =>
        refine ⟨k, q, cs.setIfInBounds k (.int .u8 (hexB d)), by omega, rfl, rfl, ?_, hb.setCell (Nat.le_refl _) _, hB.set_ k _, by simp [hz], ?_⟩
        · rw [Hq.out, Hy.out, Nat.div_div_eq_div_mul, ← Nat.pow_succ, show (8 - (k + 1)).succ = 8 - k by omega]
        · intro j h1 h2
          by_cases e : j = k
          · subst e
            rw [Array.getElem?_setIfInBounds_self_of_lt (by omega), Hd.out, Hy.out, show 8 - (j + 1) = 7 - j by omega]
            rfl
          · rw [Array.getElem?_setIfInBounds_ne (by omega)]
            exact Hc.out j h1 (by omega)
      case measure => simp [intOf]
    | zero =>
      have hcv : (convert 70 9 (.slice (some ⟨w'.heap.size, 0, none⟩) 8 8)).run Tryd.prog wr = .ok (.string (hexT x)) wr := by
        have h := Lib.run_convert_whole (P := Tryd.prog) wr 70 5 9 Tryd.underlying70 Tryd.underlying5 Tryd.underlying9 w'.heap.size 0 (hexT x) (fun i hi => by
          rw [hexT_size] at hi
          rw [Nat.zero_add, hB.cell, Hc.out i hi (Nat.zero_le _), hexT_get]) 8
        rwa [hexT_size] at h
      go_wp2
      go_ret
      exact ⟨rfl, hb⟩
end Go.Proofs.YtbdbeaebeedakaaDoor
