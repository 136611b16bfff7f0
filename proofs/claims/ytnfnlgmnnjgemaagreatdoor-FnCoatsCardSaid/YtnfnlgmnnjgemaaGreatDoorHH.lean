/- The library's reading of digits to the base 16, at any text. -/
import Derived.Test.YtnfnlgmnnjgemaaGreatDoorHB
import Derived.Lib.ConvBytes
import Derived.Lib.AtoiErrMem
import Derived.Laws.Strings3
import Derived.Laws.Closers25
import Derived.Laws.Closers25b
import Derived.BigCall
import Derived.BigGuard
import Derived.Lib.Strings
namespace Go.Proofs.YtnfnlgmnnjgemaaGreatDoor
open Go.RowKit
set_option maxRecDepth 100000

theorem lower_is {c : Nat} (h : c < 256) : ∃ l : Nat, l < 256 ∧ bits .or .u8 (c : Int) 32 = l ∧ (97 ≤ c → c ≤ 102 → l = c) := by
  have key : ∀ c : Fin 256, bits .or .u8 (c.val : Int) 32 = ((c.val ||| 32 : Nat) : Int) ∧ (c.val ||| 32) < 256 ∧ (97 ≤ c.val → c.val ≤ 102 → c.val ||| 32 = c.val) := by decide +kernel
  obtain ⟨h1, h2, h3⟩ := key ⟨c, h⟩
  exact ⟨c ||| 32, h2, h1, h3⟩
/-- What a byte says as a digit. -/
def digOf (c l : Nat) : Nat := if c ≤ 57 then c - 48 else l - 87
theorem hexB_dig (d : Nat) (h : d < 16) : (48 ≤ hexB d ∧ hexB d ≤ 57 ∧ hexB d - 48 = d) ∨ (97 ≤ hexB d ∧ hexB d ≤ 102 ∧ hexB d - 87 = d) := by
  unfold hexB
  split <;> omega
theorem lower_any (c : Nat) (w : World) : Calls Tryz.prog 116 #[.int .u8 c] w fun e w' => e = .returned (.int .u8 (bits .or .u8 c 32)) ∧ w' = w := by
  go_enter Tryz.func116, Tryz.ntmps116
  go_wp2
  go_ret
  exact ⟨rfl, rfl⟩
/-- What reading gives: a number, or one of two errors, and these not at eight digits. -/
def Read16 (t : ByteArray) (T : TypeId) (e : Ending) : Prop :=
  (∃ n : Nat, n < 4294967296 ∧ e = .returned (.tuple #[.int .u64 n, .nilIface]) ∧ ∀ x, x < 4294967296 → t = hexT x → n = x) ∨
  (∃ n k : Nat, n < 4294967296 ∧ (k = 1 ∨ k = 2) ∧ e = .returned (.tuple #[.int .u64 n, .iface T (.int .i64 k)]) ∧ ∀ x, x < 4294967296 → t ≠ hexT x)
set_option maxHeartbeats 32000000 in
theorem parse16_in (t : ByteArray) (hmax : t.size ≤ 1048576) (w : World) : Calls Tryz.prog 97 #[.string t, .int .i64 16, .int .i64 32] w fun e w' => Read16 t 135 e ∧ Below w.heap.size w w' := by
  by_cases hne : t.size = 0
  · have ht : t = ⟨#[]⟩ := by
      apply ByteArray.ext
      exact Array.eq_empty_of_size_eq_zero hne
    subst ht
    go_enter Tryz.func97, Tryz.ntmps97
    go_wp2
    go_ret2
    refine ⟨.inr ⟨0, 2, by omega, .inr rfl, rfl, fun x hx h => ?_⟩, Below.refl _ _⟩
    have := congrArg ByteArray.size h
    rw [hexT_size] at this
    cases this
  · have hemp : t.toList.isEmpty = false := by
      rw [← decide_eq_emptyBytes]
      exact decide_eq_false (fun h => hne (by rw [h]; rfl))
    have hcv := Lib.run_convert_string_bytes (P := Tryz.prog) w 9 22 5 t (u := .string) Tryz.underlying9 Tryz.underlying22 Tryz.underlying5
    have hB : ∀ j, j < t.size → (Lib.bytesWorld w 5 t).cell? ⟨w.heap.size, j, none⟩ = some (.int .u8 (t.data.toList.getD j 0).toNat) := fun j hj => Lib.bytesWorld_cell w 5 t j hj
    have hBel := Lib.bytesWorld_below w 5 t
    obtain ⟨W1, hW1⟩ : ∃ W1, W1 = Lib.bytesWorld w 5 t := ⟨_, rfl⟩
    rw [← hW1] at hcv hB hBel
    clear hW1
    have hmv : IntKind.u64.wrap (IntKind.u64.wrap 4294967296 - 1) = 4294967295 := by
      rw [IntKind.wrap_u64, IntKind.wrap_u64]
      decide
    go_enter Tryz.func97, Tryz.ntmps97
    go_wp2
    go_loop [12, 13, 101] (fun vu vn vi => ∃ (k acc : Nat) (a : Int), vu = .bool false ∧ vn = .int .u64 a ∧ vi = .int .i64 k ∧ k ≤ t.size ∧ Hid (a = (acc : Int) ∧ acc < 4294967296 ∧ ∀ x, x < 4294967296 → t = hexT x → acc = x / 16 ^ (8 - k)))
      (fun _ _ vi => t.size - (intOf vi).toNat)
    case atStart => exact ⟨0, 0, 0, rfl, rfl, rfl, by omega, rfl, by omega, fun x hx _ => (Nat.div_eq_of_lt hx).symm⟩
    case round =>
      obtain ⟨k, acc, a, rfl, rfl, rfl, hk, hh⟩ := hrel
      obtain ⟨ha, hacc, hdec⟩ := hh.out
      clear hh
      have a0 : 0 ≤ a := by omega
      have a1 : a < 4294967296 := by omega
      have icut : a < 1152921504606846976 := by omega
      by_cases hkn : k < t.size
      · have hc := hB k hkn
        have hcx : ∀ x, t = hexT x → k < 8 ∧ (t.data.toList.getD k 0).toNat = hexD x k := by
          intro x hx
          subst hx
          have h8 := hkn
          rw [hexT_size] at h8
          refine ⟨h8, ?_⟩
          rw [← hexT_get x k hkn]
          congr 1
          rw [List.getD_eq_getElem?_getD, Array.getElem?_toList, Array.getElem?_eq_getElem (show k < (hexT x).data.size from hkn)]
          rfl
        have hc256 : (t.data.toList.getD k 0).toNat < 256 := UInt8.toNat_lt _
        generalize (t.data.toList.getD k 0).toNat = c at hc hc256 hcx
        have hstep : ∀ d, (∀ x, t = hexT x → d = x / 16 ^ (7 - k) % 16) → ∀ x, x < 4294967296 → t = hexT x → acc * 16 + d = x / 16 ^ (8 - (k + 1)) ∧ acc * 16 + d < 4294967296 := by
          intro d hd x hx ht
          have h1 := hdec x hx ht
          have h2 := hd x ht
          have h8 := (hcx x ht).1
          have e1 : x / 16 ^ (8 - k) = x / 16 ^ (7 - k) / 16 := by rw [Nat.div_div_eq_div_mul, ← Nat.pow_succ, show (7 - k).succ = 8 - k by omega]
          have e2 : x / 16 ^ (7 - k) ≤ x := Nat.div_le_self _ _
          rw [e1] at h1
          rw [show 8 - (k + 1) = 7 - k by omega]
          omega
        have Hcx := Lib.hid hcx
        have Hstep := Lib.hid hstep
        clear hB hcx hstep hdec
        by_cases hdig : 48 ≤ c ∧ c ≤ 57
        · obtain ⟨hd0, hd1⟩ := hdig
          have Hd : Hid (∀ x, t = hexT x → c - 48 = x / 16 ^ (7 - k) % 16) := Lib.hid fun x hx => by
            have h1 := (Hcx.out x hx).2
            have h2 := hexB_dig (x / 16 ^ (7 - k) % 16) (Nat.mod_lt _ (by decide))
            unfold hexD at h1
            omega
          by_cases hov : 4294967295 < acc * 16 + (c - 48)
          · have iov : 4294967295 < a * 16 + ((c : Int) - 48) := by omega
            have E : Hid (∀ x, x < 4294967296 → t ≠ hexT x) := Lib.hid fun x hx h => by have := Hstep.out _ Hd.out x hx h; omega
            clear hov hacc ha
            go_wp2
            go_ret2
            exact ⟨.inr ⟨4294967295, 1, by omega, .inl rfl, rfl, E.out⟩, hBel⟩
          · have iov : a * 16 + ((c : Int) - 48) ≤ 4294967295 := by omega
            have HN : Hid (a * 16 + ((c : Int) - 48) = ((acc * 16 + (c - 48) : Nat) : Int) ∧ acc * 16 + (c - 48) < 4294967296 ∧ ∀ x, x < 4294967296 → t = hexT x → acc * 16 + (c - 48) = x / 16 ^ (8 - (k + 1))) := Lib.hid ⟨by omega, by omega, fun x hx h => (Hstep.out _ Hd.out x hx h).1⟩
            clear hov hacc ha
            go_wp2
            refine ⟨⟨k + 1, acc * 16 + (c - 48), a * 16 + ((c : Int) - 48), rfl, (by first | rfl | (congr 1; omega)), (by first | rfl | (congr 1; omega)), by omega, HN⟩, by simp [intOf]; omega⟩
        · obtain ⟨l, hl256, hl1, hl2⟩ := lower_is hc256
          have hcl : ∀ x, t = hexT x → 97 ≤ c ∧ c ≤ 102 ∧ l = c ∧ c - 87 = x / 16 ^ (7 - k) % 16 := by
            intro x hx
            have h1 := (Hcx.out x hx).2
            have h2 := hexB_dig (x / 16 ^ (7 - k) % 16) (Nat.mod_lt _ (by decide))
            unfold hexD at h1
            have h3 : 97 ≤ c ∧ c ≤ 102 ∧ c - 87 = x / 16 ^ (7 - k) % 16 := by omega
            exact ⟨h3.1, h3.2.1, hl2 h3.1 h3.2.1, h3.2.2⟩
          have Hcl := Lib.hid hcl
          clear hl2 hcl
          by_cases h95 : c = 95
          · have E : Hid (∀ x, x < 4294967296 → t ≠ hexT x) := Lib.hid fun x hx h => by have := Hcl.out x h; omega
            subst h95
            have h127 : bits BinOp.or IntKind.u8 95 32 = 127 := by decide +kernel
            have h127' : (l : Int) = 127 := hl1.symm.trans h127
            clear hacc ha hl1
            go_wp2_with (go_at_call 116; refine (lower_any 95 _).mono ?_; rintro e w' ⟨rfl, rfl⟩)
            all_goals go_ret2
            all_goals exact ⟨.inr ⟨0, 2, by omega, .inr rfl, rfl, E.out⟩, hBel⟩
          by_cases hlet : 97 ≤ l ∧ l ≤ 122
          · obtain ⟨hg0, hg1⟩ := hlet
            by_cases hbig : 103 ≤ l
            · have E : Hid (∀ x, x < 4294967296 → t ≠ hexT x) := Lib.hid fun x hx h => by have := Hcl.out x h; omega
              clear hacc ha
              go_wp2_with (go_at_call 116; refine (lower_any _ _).mono ?_; rintro e w' ⟨rfl, rfl⟩)
              all_goals go_ret2
              all_goals exact ⟨.inr ⟨0, 2, by omega, .inr rfl, rfl, E.out⟩, hBel⟩
            · have Hd : Hid (∀ x, t = hexT x → l - 87 = x / 16 ^ (7 - k) % 16) := Lib.hid fun x hx => by
                have h1 := Hcl.out x hx
                rw [h1.2.2.1]
                exact h1.2.2.2
              by_cases hov : 4294967295 < acc * 16 + (l - 87)
              · have iov : 4294967295 < a * 16 + ((l : Int) - 87) := by omega
                have E : Hid (∀ x, x < 4294967296 → t ≠ hexT x) := Lib.hid fun x hx h => by have := Hstep.out _ Hd.out x hx h; omega
                clear hov hacc ha
                go_wp2_with (go_at_call 116; refine (lower_any _ _).mono ?_; rintro e w' ⟨rfl, rfl⟩)
                all_goals go_ret2
                all_goals exact ⟨.inr ⟨4294967295, 1, by omega, .inl rfl, rfl, E.out⟩, hBel⟩
              · have iov : a * 16 + ((l : Int) - 87) ≤ 4294967295 := by omega
                have HN : Hid (a * 16 + ((l : Int) - 87) = ((acc * 16 + (l - 87) : Nat) : Int) ∧ acc * 16 + (l - 87) < 4294967296 ∧ ∀ x, x < 4294967296 → t = hexT x → acc * 16 + (l - 87) = x / 16 ^ (8 - (k + 1))) := Lib.hid ⟨by omega, by omega, fun x hx h => (Hstep.out _ Hd.out x hx h).1⟩
                clear hov hacc ha
                go_wp2_with (go_at_call 116; refine (lower_any _ _).mono ?_; rintro e w' ⟨rfl, rfl⟩)
                all_goals refine ⟨⟨k + 1, acc * 16 + (l - 87), a * 16 + ((l : Int) - 87), rfl, (by first | rfl | (congr 1; omega)), (by first | rfl | (congr 1; omega)), by omega, HN⟩, by simp [intOf]; omega⟩
          · have E : Hid (∀ x, x < 4294967296 → t ≠ hexT x) := Lib.hid fun x hx h => by have := Hcl.out x h; omega
            clear hacc ha
            go_wp2_with (go_at_call 116; refine (lower_any _ _).mono ?_; rintro e w' ⟨rfl, rfl⟩)
            all_goals go_ret2
            all_goals exact ⟨.inr ⟨0, 2, by omega, .inr rfl, rfl, E.out⟩, hBel⟩
      · obtain rfl : k = t.size := by omega
        have E : Hid (∀ x, x < 4294967296 → t = hexT x → acc = x) := Lib.hid fun x hx h => by
          have h1 := hdec x hx h
          have h2 := congrArg ByteArray.size h
          rw [hexT_size] at h2
          rw [h2] at h1
          simpa using h1
        have Ha := Lib.hid hacc
        subst ha
        clear hacc hdec a0 a1
        go_wp2
        go_ret2
        exact ⟨.inl ⟨acc, Ha.out, rfl, E.out⟩, hBel⟩
end Go.Proofs.YtnfnlgmnnjgemaaGreatDoor
