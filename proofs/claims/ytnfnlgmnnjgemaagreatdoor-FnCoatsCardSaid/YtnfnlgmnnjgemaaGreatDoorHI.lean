/- The reading of one number, as the program does it. -/
import Derived.Test.YtnfnlgmnnjgemaaGreatDoorHH
import Derived.Test.YtnfnlgmnnjgemaaGreatDoorHC
import Derived.Test.YtnfnlgmnnjgemaaGreatDoorShm
import Derived.Test.YtnfnlgmnnjgemaaGreatDoorOpenB
namespace Go.Proofs.YtnfnlgmnnjgemaaGreatDoor
open Go.RowKit
set_option maxRecDepth 100000

/-- The library's two errors lie in their variables. -/
def Errs (w : World) : Prop := (∃ a b, w.cell? ⟨2, 0, none⟩ = some (.iface a b)) ∧ ∃ a b, w.cell? ⟨3, 0, none⟩ = some (.iface a b)
theorem Errs.below {B : Nat} {w w' : World} (h : Errs w) (hb : Below B w w') (hB : 8 < B) : Errs w' := by
  obtain ⟨⟨a, b, h1⟩, c, d, h2⟩ := h
  refine ⟨⟨a, b, ?_⟩, c, d, ?_⟩
  · rw [hb.cell (p := ⟨2, 0, none⟩) (show 2 < B by omega)]; exact h1
  · rw [hb.cell (p := ⟨3, 0, none⟩) (show 3 < B by omega)]; exact h2
/-- What reading gives: a number, or an error, and this not at eight digits. -/
def Read32 (t : ByteArray) (e : Ending) : Prop :=
  (∃ n : Nat, n < 4294967296 ∧ e = .returned (.tuple #[.int .u64 n, .nilIface]) ∧ ∀ x, x < 4294967296 → t = hexT x → n = x) ∨
  (∃ (n : Nat) (T : TypeId) (v : Value), n < 4294967296 ∧ e = .returned (.tuple #[.int .u64 n, .iface T v]) ∧ ∀ x, x < 4294967296 → t ≠ hexT x)
theorem toError_any (k : Int) (hk : k = 1 ∨ k = 2) (t : ByteArray) (ht : t.size ≤ 1048576) (w : World) (he : Errs w) : Calls Tryz.prog 98 #[.string { data := #[80, 97, 114, 115, 101, 85, 105, 110, 116] }, .string t, .int .i64 16, .int .i64 32, .iface 135 (.int .i64 k)] w fun e w' => (∃ T v, e = .returned (.iface T v)) ∧ Below w.heap.size w w' := by
  obtain ⟨⟨a, b, h1⟩, c, d, h2⟩ := he
  rcases hk with rfl | rfl
  · exact (Any.strconv_toError_range Tryz.laysC245 _ t 16 32 _ w (by omega) h2 (.inr ⟨_, _, rfl⟩)).mono fun e w' ⟨N, h, _, _, hb⟩ => ⟨⟨_, _, h⟩, hb⟩
  · exact (Any.strconv_toError_syntax Tryz.laysC245 _ t 16 32 _ w (by omega) h1 (.inr ⟨_, _, rfl⟩)).mono fun e w' ⟨N, h, _, _, hb⟩ => ⟨⟨_, _, h⟩, hb⟩
theorem parse16 (t : ByteArray) (hmax : t.size ≤ 1048576) (w : World) (he : Errs w) (hw : 8 < w.heap.size) : Calls Tryz.prog 69 #[.string t, .int .i64 16, .int .i64 32] w fun e w' => Read32 t e ∧ Below w.heap.size w w' := by
  go_enter Tryz.func69, Tryz.ntmps69
  go_wp2_with fail
  refine (parse16_in t hmax w).mono ?_
  rintro e w1 ⟨h, hb⟩
  rcases h with ⟨n, hn, rfl, hx⟩ | ⟨n, k, hn, hk, rfl, hx⟩
  · go_wp2
    go_ret2
    exact ⟨.inl ⟨n, hn, rfl, hx⟩, hb⟩
  · go_wp2_with fail
    refine (toError_any k (by omega) t hmax w1 (he.below hb hw)).mono ?_
    rintro e w2 ⟨⟨T, v, rfl⟩, hb1⟩
    have hb := bCall hb hb1 hb.size
    go_wp2
    go_ret2
    exact ⟨.inr ⟨n, T, v, hn, rfl, hx⟩, hb⟩
/-- What is read at last: the number whose text it is, or none. -/
def ReadN (t : ByteArray) (e : Ending) : Prop :=
  (∃ x : Nat, x < 4294967296 ∧ t = hexT x ∧ bitsOf (canon .f32 x) = x ∧ e = .returned (.tuple #[.float .f32 x, .int .i64 0])) ∨
  ((∀ x, x < 4294967296 → bitsOf (canon .f32 x) = x → t ≠ hexT x) ∧ e = .returned (.tuple #[.float .f32 0, .int .i64 5]))
theorem bits_idem (n : Nat) : bitsOf (canon .f32 (bitsOf (canon .f32 n))) = bitsOf (canon .f32 n) := by
  cases h : canon .f32 n with
  | none => decide
  | some y =>
    obtain ⟨rfl, _⟩ := canon_eq_some h
    show bitsOf (canon .f32 n) = n
    rw [h]
    rfl
theorem from32 (b : Nat) (w : World) : (callFunc 70 #[.int .u32 b]).run Tryz.prog w = .ok (.value (.float .f32 b)) w := by kernel_rfl
theorem iReadNumber_any (t : ByteArray) (hmax : t.size ≤ 1048576) (w : World) (ht : Tab w) (he : Errs w) : Calls Tryz.prog 35 #[.string t] w fun e w' => ReadN t e ∧ Below w.heap.size w w' := by
  have hlt0 := ht.lt
  go_enter Tryz.func35, Tryz.ntmps35
  go_wp2_with fail
  refine (parse16 t hmax w he hlt0).mono ?_
  rintro e w1 ⟨h, hb⟩
  have hfrom := from32
  rcases h with ⟨n, hn, rfl, hx⟩ | ⟨n, T, v, hn, rfl, hx⟩
  · have hmod : (n : Int) % 4294967296 = n := by omega
    have Hx := Lib.hid hx
    clear hx
    have hsz := hb.size
    have hlt1 : 8 < w1.heap.size := Nat.lt_of_lt_of_le hlt0 hsz
    obtain ⟨x, hbx⟩ : ∃ x, bitsOf (canon .f32 n) = x := ⟨_, rfl⟩
    have hxl : x < 4294967296 := hbx ▸ bits_lt hn
    go_wp2_with fail
    refine (iNumberText_all n x w1 (ht.below hb hlt0) hbx hxl).mono ?_
    rintro e w2 ⟨rfl, hb1⟩
    have hb := bCall hb hb1 hsz
    clear hb1
    have Hb := Lib.hid hbx
    clear hbx
    by_cases heq : hexT x = t
    · have hq : ((hexT x).toList == t.toList) = true := by rw [heq]; exact beq_self_eq_true _
      have Heq := Lib.hid heq
      clear heq
      go_wp2
      go_ret2
      have hnx : n = x := Hx.out x hxl Heq.out.symm
      refine ⟨.inl ⟨n, hn, ?_, ?_, rfl⟩, hb⟩
      · rw [hnx]; exact Heq.out.symm
      · rw [Hb.out]; exact hnx.symm
    · have hq : ((hexT x).toList == t.toList) = false := by
        rw [beq_eq_false_iff_ne]
        intro h
        apply heq
        rw [ByteArray.toList_eq, ByteArray.toList_eq] at h
        exact ByteArray.ext (Array.toList_inj.1 h)
      have Heq := Lib.hid heq
      clear heq
      go_wp2
      go_ret2
      refine ⟨.inr ⟨fun y hy h1 h2 => ?_, rfl⟩, hb⟩
      have hny : n = y := Hx.out y hy h2
      have hxy : x = y := by rw [← Hb.out, hny]; exact h1
      exact Heq.out (by rw [hxy]; exact h2.symm)
  · have Hx := Lib.hid hx
    have hmod : (n : Int) % 4294967296 = n := by omega
    clear hx
    go_wp2
    go_ret2
    exact ⟨.inr ⟨fun x hx _ => Hx.out x hx, rfl⟩, hb⟩
theorem hexB_inj {a b : Nat} (ha : a < 16) (hb : b < 16) (h : hexB a = hexB b) : a = b := by
  unfold hexB at h
  split at h <;> split at h <;> omega
theorem hexT_inj {x y : Nat} (hx : x < 4294967296) (hy : y < 4294967296) (h : hexT x = hexT y) : x = y := by
  have key : ∀ j, j < 8 → x / 16 ^ (7 - j) % 16 = y / 16 ^ (7 - j) % 16 := by
    intro j hj
    have h1 := hexT_get x j (by rw [hexT_size]; exact hj)
    have h2 := hexT_get y j (by rw [hexT_size]; exact hj)
    have h3 : hexD x j = hexD y j := by rw [← h1, ← h2]; congr 1; simp only [h]
    exact hexB_inj (Nat.mod_lt _ (by decide)) (Nat.mod_lt _ (by decide)) h3
  have k0 := key 0 (by omega)
  have k1 := key 1 (by omega)
  have k2 := key 2 (by omega)
  have k3 := key 3 (by omega)
  have k4 := key 4 (by omega)
  have k5 := key 5 (by omega)
  have k6 := key 6 (by omega)
  have k7 := key 7 (by omega)
  simp only [Nat.sub_zero, Nat.reduceSub, Nat.reducePow, Nat.pow_zero, Nat.div_one] at k0 k1 k2 k3 k4 k5 k6 k7
  omega
/-- The first digits that were read. -/
def Digs (t : ByteArray) (k y : Nat) : Prop := y < 16 ^ k ∧ ∀ j (h : j < t.size), j < k → (t[j]'h).toNat = hexB (y / 16 ^ (k - 1 - j) % 16)
theorem Digs.step {t : ByteArray} {k y d : Nat} (hd : d < 16) (h : Digs t k y) (hc : ∀ h : k < t.size, (t[k]'h).toNat = hexB d) : Digs t (k + 1) (y * 16 + d) := by
  refine ⟨by rw [Nat.pow_succ]; have := h.1; omega, fun j hj hjk => ?_⟩
  by_cases e : j = k
  · subst e
    rw [hc hj, show j + 1 - 1 - j = 0 by omega, Nat.pow_zero, Nat.div_one]
    congr 1
    omega
  · rw [h.2 j hj (by omega)]
    have e1 : k + 1 - 1 - j = (k - 1 - j) + 1 := by omega
    rw [e1, Nat.pow_succ, Nat.mul_comm (16 ^ (k - 1 - j)) 16, ← Nat.div_div_eq_div_mul, show (y * 16 + d) / 16 = y by omega]
theorem Digs.whole {t : ByteArray} {y : Nat} (h8 : t.size = 8) (h : Digs t 8 y) : t = hexT y := by
  apply ByteArray.ext
  apply Array.ext
  · show t.size = (hexT y).size
    rw [h8, hexT_size]
  · intro i h1 h2
    have h3 := h.2 i h1 (by rw [← h8]; exact h1)
    have h4 := hexT_get y i h2
    unfold hexD at h4
    rw [show 8 - 1 - i = 7 - i by omega, ← h4] at h3
    exact UInt8.toNat_inj.1 h3
/-- What the reference reads: whether eight digits stand there. -/
def ReadL (t : ByteArray) (e : Ending) : Prop :=
  (∃ x : Nat, x < 4294967296 ∧ t = hexT x ∧ bitsOf (canon .f32 x) = x ∧ e = .returned (.tuple #[.float .f32 x, .bool true])) ∨
  ((∀ x, x < 4294967296 → bitsOf (canon .f32 x) = x → t ≠ hexT x) ∧ ∃ a, e = .returned (.tuple #[.float .f32 a, .bool false]))
/-- Two readings give the same. -/
theorem ReadN.same {t : ByteArray} {e1 e2 : Ending} (h1 : ReadN t e1) (h2 : ReadN t e2) : ∃ (x : Nat) (k : Int), e1 = .returned (.tuple #[.float .f32 x, .int .i64 k]) ∧ e2 = e1 := by
  rcases h1 with ⟨x, hx, ht, hb, rfl⟩ | ⟨hx, rfl⟩ <;> rcases h2 with ⟨y, hy, ht2, hb2, rfl⟩ | ⟨hy, rfl⟩
  · have := hexT_inj hx hy (ht.symm.trans ht2)
    subst this
    exact ⟨x, 0, rfl, rfl⟩
  · exact absurd ht (hy x hx hb)
  · exact absurd ht2 (hx y hy hb2)
  · exact ⟨0, 5, rfl, rfl⟩
end Go.Proofs.YtnfnlgmnnjgemaaGreatDoor
