/- The library's digits to the base 16. -/
import Derived.Test.YtnfnlgmnnjgemaaGreatDoorHA
namespace Go.Proofs.YtnfnlgmnnjgemaaGreatDoor
open Go.RowKit
set_option maxRecDepth 100000

theorem and15 (x : Nat) : bits .and .u64 (x : Int) 15 = ((x % 16 : Nat) : Int) := by
  have h : (BitVec.ofInt 64 (x : Int) &&& BitVec.ofInt 64 15).toNat = x % 16 := by
    rw [BitVec.toNat_and, BitVec.toNat_ofInt, show (BitVec.ofInt 64 15).toNat = 2 ^ 4 - 1 by decide, Nat.and_two_pow_sub_one_eq_mod]
    omega
  show IntKind.u64.wrap ((BitVec.ofInt 64 (x : Int) &&& BitVec.ofInt 64 15).toNat : Int) = _
  rw [h]
  simp [IntKind.wrap, IntKind.signed, IntKind.bits]
  omega
/-- The library's table of sixty-four bytes, at the place that is read of it. -/
def Tab (w : World) : Prop := w.cell? ⟨8, 15, none⟩ = some (.int .u8 4)
theorem Tab.lt {w : World} (h : Tab w) : 8 < w.heap.size := Nat.lt_of_not_le fun hge => by
  unfold Tab at h
  have h3 : w.heap[8]? = none := Array.getElem?_eq_none hge
  simp [World.cell?, h3] at h
theorem Tab.below {B : Nat} {w w' : World} (h : Tab w) (hb : Below B w w') (hB : 8 < B) : Tab w' := by
  unfold Tab
  rw [hb.cell (p := ⟨8, 15, none⟩) hB]
  exact h
theorem zeros16 (w : World) (ht : Tab w) : Calls Tryz.prog 148 #[.int .u64 16] w fun e w' => e = .returned (.int .i64 4) ∧ w' = w := by
  have c1 : w.cell? ⟨8, 15, none⟩ = some (.int .u8 4) := ht
  have hv : IntKind.u64.wrap (bits BinOp.and IntKind.u64 16 (IntKind.u64.wrap (-16)) * 285870213051353865) / 288230376151711744 = 15 := by decide +kernel
  go_enter Tryz.func148, Tryz.ntmps148
  go_wp2
  go_ret
  exact ⟨rfl, rfl⟩
theorem power16 (w : World) : Calls Tryz.prog 147 #[.int .i64 16] w fun e w' => e = .returned (.bool true) ∧ w' = w := by
  have hv : bits BinOp.and IntKind.i64 16 15 = 0 := by decide +kernel
  go_enter Tryz.func147, Tryz.ntmps147
  go_wp2
  go_ret
  exact ⟨rfl, rfl⟩
theorem hex_get36 (d : Nat) (h : d < 16) (h' : d < (⟨#[48, 49, 50, 51, 52, 53, 54, 55, 56, 57, 97, 98, 99, 100, 101, 102, 103, 104, 105, 106, 107, 108, 109, 110, 111, 112, 113, 114, 115, 116, 117, 118, 119, 120, 121, 122]⟩ : ByteArray).size) : ((⟨#[48, 49, 50, 51, 52, 53, 54, 55, 56, 57, 97, 98, 99, 100, 101, 102, 103, 104, 105, 106, 107, 108, 109, 110, 111, 112, 113, 114, 115, 116, 117, 118, 119, 120, 121, 122]⟩ : ByteArray)[d]'h').toNat = hexB d := by
  have : ∀ d : Fin 16, ∀ h' : d.val < (⟨#[48, 49, 50, 51, 52, 53, 54, 55, 56, 57, 97, 98, 99, 100, 101, 102, 103, 104, 105, 106, 107, 108, 109, 110, 111, 112, 113, 114, 115, 116, 117, 118, 119, 120, 121, 122]⟩ : ByteArray).size, ((⟨#[48, 49, 50, 51, 52, 53, 54, 55, 56, 57, 97, 98, 99, 100, 101, 102, 103, 104, 105, 106, 107, 108, 109, 110, 111, 112, 113, 114, 115, 116, 117, 118, 119, 120, 121, 122]⟩ : ByteArray)[d.val]'h').toNat = hexB d.val := by decide
  exact this ⟨d, h⟩ h'
theorem hexT_ext_size (x p : Nat) (hp : p ≤ 8) : ((hexT x).extract p 8).size = 8 - p := by rw [ByteArray.size_extract, hexT_size]; omega
theorem hexT_ext_get (x p i : Nat) (h : i < ((hexT x).extract p 8).size) : (((hexT x).extract p 8)[i]'h).toNat = hexD x (p + i) := by
  rw [ByteArray.getElem_extract, hexT_get]
theorem slice_tail {P : Program} (w : World) {t : TypeId} {n : Nat} {e : TypeId} (hn : P.arrayLen t = n) (he : P.elem t = e) (ht : P.underlying t = some (.array n e)) (hz : (P.info? e).map (·.size) = some 1) (g k : Nat) (hk : k < n) :
    (Instr.sliceAt t (.pointer (some ⟨g, 0, none⟩)) (some (.int .i64 k)) none none).run P w = .ok (.slice (some ⟨g, k, none⟩) (n - k) (n - k)) w := by
  subst hn he
  rw [run_sliceAt_array_l w t ⟨g, 0, none⟩ ht .i64 k (by omega) (by omega)]
  have hs : (sizeOf (P.elem t)).run P w = .ok 1 w := by
    cases hq : P.info? (P.elem t) with
    | none => simp [hq] at hz
    | some inf =>
      have hs : inf.size = 1 := by simpa [hq] using hz
      simp [sizeOf, typeInfo, hq, hs]
  rw [hs]
  simp [slicedAt, Result.andThen, Addr.add, show P.arrayLen t ≠ k by omega]
  exact fun h => h.symm
theorem formatBits16 (u : Nat) (hu : u < 4294967296) (w : World) (ht : Tab w) : Calls Tryz.prog 127 #[.slice none 0 0, .int .u64 u, .int .i64 16, .bool false, .bool false] w fun e w' => (∃ p : Nat, p ≤ 7 ∧ (∀ j, j < p → hexD u j = 48) ∧ e = .returned (.tuple #[.slice none 0 0, .string ((hexT u).extract p 8)])) ∧ Below w.heap.size w w' := by
  go_enter Tryz.func127, Tryz.ntmps127
  go_wp2_with fail
  refine (power16 _).mono ?_
  rintro e w1 ⟨rfl, rfl⟩
  go_wp2_with fail
  refine (zeros16 _ (ht.below ((Below.refl _ _).alloc (Nat.le_refl _) _) ht.lt)).mono ?_
  rintro e w1 ⟨rfl, rfl⟩
  go_wp2
  go_loopw [13, 1] (fun i b wr => ∃ (k y : Nat) (cs : Array Value), 58 ≤ k ∧ k ≤ 65 ∧ i = .int .i64 k ∧ b = .int .u64 y ∧ y = u / 16 ^ (65 - k) ∧ Below w.heap.size w wr ∧ Blk wr w.heap.size 164 cs ∧ cs.size = 65 ∧ ∀ j, k ≤ j → j < 65 → cs[j]? = some (.int .u8 (hexD u (j - 57)))) (fun i _ _ => (intOf i).toNat)
  case atStart => exact ⟨65, u, _, by omega, by omega, rfl, rfl, by simp, (Below.refl _ _).alloc (Nat.le_refl _) _, Blk.new _ _ _, by kernel_rfl, fun j h1 h2 => by omega⟩
  case round =>
    obtain ⟨k, y, cs, hk0, hk, rfl, rfl, hy, hb, hB, hz, hc⟩ := hrel
    have Hc := Lib.hid hc
    clear hc ht
    have hyu : y ≤ u := hy ▸ Nat.div_le_self _ _
    have Hy := Lib.hid hy
    clear hy
    obtain ⟨k, rfl⟩ : ∃ k', k = k' + 1 := ⟨k - 1, by omega⟩
    have t0 : (((k + 1 : Nat) : Int) - 1) = k := by omega
    have c1 : wr.cell? ⟨w.heap.size, k, none⟩ = some (cs[k]'(by omega)) := by rw [hB.cell k]; exact Array.getElem?_eq_getElem (by omega)
    have f1 := hB.frozen k
    generalize (cs[k]'(by omega)) = old at c1
    by_cases hlt : 16 ≤ y
    · obtain ⟨d, hdd⟩ : ∃ d, d = y % 16 := ⟨_, rfl⟩
      obtain ⟨q, hqq⟩ : ∃ q, q = y / 16 := ⟨_, rfl⟩
      have t1 : bits BinOp.and IntKind.u64 (y : Int) 15 = d := by rw [hdd]; exact and15 y
      have t2 : (y : Int) / 16 = q := by rw [hqq]; rfl
      have hd16 : d < 16 := by omega
      have hx2 := hex_get36 d hd16
      have Hd := Lib.hid hdd
      have Hq := Lib.hid hqq
      clear hdd hqq
      go_wp2
      go_roundw
      case rel =>
        have h58 : 58 ≤ k := by
          rcases Nat.lt_or_ge 57 k with h | h
          · exact h
          · exfalso
            have e : k = 57 := by omega
            have h1 := Hy.out
            subst e
            rw [show 65 - (57 + 1) = 7 by omega] at h1
            omega
        refine ⟨k, q, cs.setIfInBounds k (.int .u8 (hexB d)), h58, by omega, rfl, rfl, ?_, hb.setCell (Nat.le_refl _) _, hB.set_ k _, by simp [hz], ?_⟩
        · rw [Hq.out, Hy.out, Nat.div_div_eq_div_mul, ← Nat.pow_succ, show (65 - (k + 1)).succ = 65 - k by omega]
        · intro j h1 h2
          by_cases e : j = k
          · subst e
            rw [Array.getElem?_setIfInBounds_self_of_lt (by omega), Hd.out, Hy.out, show 65 - (j + 1) = 7 - (j - 57) by omega]
            rfl
          · rw [Array.getElem?_setIfInBounds_ne (by omega)]
            exact Hc.out j (by omega) h2
      case measure => simp [intOf]
    · have hx2 := hex_get36 y (by omega)
      have hB2 := hB.set_ k (.int .u8 (hexB y))
      have hb2 : Below w.heap.size w (wr.setCell ⟨w.heap.size, k, none⟩ (.int .u8 (hexB y))) := hb.setCell (p := ⟨w.heap.size, k, none⟩) (Nat.le_refl _) _
      have hlast : hexB y = hexD u (k - 57) := by
        unfold hexD
        rw [show 7 - (k - 57) = 65 - (k + 1) by omega, ← Hy.out, Nat.mod_eq_of_lt (by omega)]
      have hall : ∀ j, k ≤ j → j < 65 → (cs.setIfInBounds k (.int .u8 (hexB y)))[j]? = some (.int .u8 (hexD u (j - 57))) := by
        intro j h1 h2
        by_cases e : j = k
        · subst e
          rw [Array.getElem?_setIfInBounds_self_of_lt (by omega), hlast]
        · rw [Array.getElem?_setIfInBounds_ne (by omega)]
          exact Hc.out j (by omega) h2
      have hlead : ∀ j, j < k - 57 → hexD u j = 48 := by
        intro j hj
        unfold hexD
        have e : u / 16 ^ (7 - j) = 0 := by
          have h1 : u < 16 ^ (65 - (k + 1)) * 16 := by
            have h2 := Hy.out
            have h3 : u / 16 ^ (65 - (k + 1)) < 16 := by omega
            have h4 := Nat.lt_mul_div_succ u (show 0 < 16 ^ (65 - (k + 1)) from Nat.pos_of_ne_zero (by simp))
            exact Nat.lt_of_lt_of_le h4 (Nat.mul_le_mul_left _ (by omega))
          apply Nat.div_eq_of_lt
          refine Nat.lt_of_lt_of_le h1 ?_
          rw [← Nat.pow_succ]
          exact Nat.pow_le_pow_right (by omega) (by omega)
        rw [e]
        rfl
      have hcv : (convert 22 9 (.slice (some ⟨w.heap.size, k, none⟩) (65 - k) (65 - k))).run Tryz.prog (wr.setCell ⟨w.heap.size, k, none⟩ (.int .u8 (hexB y))) = .ok (.string ((hexT u).extract (k - 57) 8)) (wr.setCell ⟨w.heap.size, k, none⟩ (.int .u8 (hexB y))) := by
        have h := Lib.run_convert_whole (P := Tryz.prog) (wr.setCell ⟨w.heap.size, k, none⟩ (.int .u8 (hexB y))) 22 5 9 Tryz.underlying22 Tryz.underlying5 Tryz.underlying9 w.heap.size k ((hexT u).extract (k - 57) 8) (fun i hi => by
          have hi2 := hi
          rw [hexT_ext_size _ _ (by omega)] at hi2
          rw [hB2.cell, hall (k + i) (by omega) (by omega), hexT_ext_get, show k + i - 57 = k - 57 + i by omega]) (65 - k)
        rw [hexT_ext_size _ _ (by omega), show 8 - (k - 57) = 65 - k by omega] at h
        exact h
      have hsl : ∀ w', (Instr.sliceAt 164 (.pointer (some ⟨w.heap.size, 0, none⟩)) (some (.int .i64 k)) none none).run Tryz.prog w' = .ok (.slice (some ⟨w.heap.size, k, none⟩) (65 - k) (65 - k)) w' := fun w' => slice_tail w' (by kernel_rfl) (by kernel_rfl) Tryz.underlying164 (by kernel_rfl) w.heap.size k (by omega)
      have Hall := Lib.hid hall
      have Hlead := Lib.hid hlead
      clear hall hlead hlast
      go_wp2
      go_ret2
      exact ⟨⟨k - 57, by omega, Hlead.out, rfl⟩, hb2⟩
theorem formatUint_in (u : Nat) (hu : u < 4294967296) (w : World) (ht : Tab w) : Calls Tryz.prog 102 #[.int .u64 u, .int .i64 16] w fun e w' => (∃ p : Nat, p ≤ 7 ∧ (∀ j, j < p → hexD u j = 48) ∧ e = .returned (.string ((hexT u).extract p 8))) ∧ Below w.heap.size w w' := by
  go_enter Tryz.func102, Tryz.ntmps102
  go_wp2_with fail
  refine (formatBits16 u hu w ht).mono ?_
  rintro e w1 ⟨⟨p, hp, h0, rfl⟩, hb⟩
  go_wp2
  go_ret
  exact ⟨⟨p, hp, h0, rfl⟩, hb⟩
theorem formatUint (u : Nat) (hu : u < 4294967296) (w : World) (ht : Tab w) : Calls Tryz.prog 72 #[.int .u64 u, .int .i64 16] w fun e w' => (∃ p : Nat, p ≤ 7 ∧ (∀ j, j < p → hexD u j = 48) ∧ e = .returned (.string ((hexT u).extract p 8))) ∧ Below w.heap.size w w' := by
  go_enter Tryz.func72, Tryz.ntmps72
  go_wp2_with fail
  refine (formatUint_in u hu w ht).mono ?_
  rintro e w1 ⟨⟨p, hp, h0, rfl⟩, hb⟩
  go_wp2
  go_ret
  exact ⟨⟨p, hp, h0, rfl⟩, hb⟩
end Go.Proofs.YtnfnlgmnnjgemaaGreatDoor
