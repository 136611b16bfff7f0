/- What the great laws draw from their bytes: contracts of a2Long, a2At, a2Near. Contracts: what is drawn from bytes: numbers below a bound, numbers of sixty-fourths, curves of these. -/
import Derived.Test.YtafbolnkohebjaaGreatDoorKit
import Derived.Test.YtafbolnkohebjaaGreatDoorChecked
import Derived.WalkKit
import Derived.WalkSpells
import Derived.Outline
import Derived.BigQuiet
import Derived.Deep.QuietTactic
import Derived.ChangeSlices
import Derived.WideShapes
import Derived.ProofKit
import Derived.Test.YtafbolnkohebjaaGreatDoorCP
import Derived.IntWalk
namespace Go.Proofs.YtafbolnkohebjaaGreatDoor
open Go.RowKit
set_option maxRecDepth 100000

/-- A slice of bytes as it may be read. -/
structure Byt (w : World) (a : Option Addr) (len : Nat) (f : Nat → Nat) : Prop where
  small : len ≤ maxLen
  cell : ∀ i, i < len → ∃ x, a = some x ∧ x.block < w.heap.size ∧ w.cell? (x.add i) = some (.int .u8 (f i)) ∧ f i < 256
theorem Byt.below {w w' : World} {a : Option Addr} {len : Nat} {f : Nat → Nat} (h : Byt w a len f) (hb : Below w.heap.size w w') : Byt w' a len f :=
  ⟨h.small, fun i hi => by
    obtain ⟨x, h1, h2, h3, h4⟩ := h.cell i hi
    exact ⟨x, h1, Nat.lt_of_lt_of_le h2 hb.size, by rw [hb.cell (p := x.add i) (by unfold Addr.add; split <;> exact h2)]; exact h3, h4⟩⟩
theorem Byt.to {B : Nat} {w w' : World} {a : Option Addr} {len : Nat} {f : Nat → Nat} (h : Byt w a len f) (hb : Below B w w') (hB : w.heap.size ≤ B) : Byt w' a len f := h.below (hb.mono hB)

/-- A slice of bytes among the arguments, opened. -/
theorem open_byt {H : Type} {enc : TypeId × Value → H} {P : Program} {W : World} {held : Bool} {t e : TypeId} {a : Option Addr} {len cap : Nat} {d : DataW H} {ps : List MemPlace} (ht : P.underlying t = some (.slice e)) (he : P.underlying e = some (.int .u8)) (hc : P.cellsOf e = 1)
    (h : DataW.Trod enc P W 0 (fun _ => true) held t (.slice a len cap) d ps) : ∃ f, Byt W a len f := by
  obtain ⟨fuel, hf⟩ := h
  rcases Go.ChangeShapes.open_ints ht he hc hf with ⟨hcs, _⟩ | ⟨x, l, c, zs, hcs, _, hl, hm, hz, _, hcell, hwz⟩
  · simp [Value.cells] at hcs
    obtain ⟨rfl, rfl, rfl⟩ := hcs
    exact ⟨fun _ => 0, Nat.zero_le _, fun i hi => absurd hi (by omega)⟩
  · simp [Value.cells] at hcs
    obtain ⟨rfl, rfl, rfl⟩ := hcs
    have hz' : zs.length = cap := by simpa using hz
    have hb : ∀ i, i < len → 0 ≤ zs.getD i 0 ∧ zs.getD i 0 ≤ 255 := by
      intro i hi
      have hg : zs.getD i 0 ∈ zs := by simp [List.getD, List.getElem?_eq_getElem (show i < zs.length by omega)]
      have h1 := hwz _ hg
      generalize zs.getD i 0 = z at h1
      simpa [Lit.wf, IntKind.min, IntKind.max, IntKind.signed, IntKind.bits] using h1
    refine ⟨fun i => (zs.getD i 0).toNat, Nat.le_trans hl hm, fun i hi => ⟨x, rfl, ?_, ?_, ?_⟩⟩
    · exact Nat.lt_of_not_le fun hge => by
        have h1 := hcell i (by omega)
        have h2 : (x.add i).block = x.block := by unfold Addr.add; split <;> rfl
        have h3 : (W.heap[(x.add i).block]?) = none := by rw [h2]; exact Array.getElem?_eq_none hge
        simp [World.cell?, h3] at h1
    · rw [hcell i (by omega), Int.toNat_of_nonneg (hb i hi).1]
    · have := hb i hi
      show (zs.getD i 0).toNat < 256
      omega

/-- A number below 'n'. -/
def RetN (w : World) (n : Nat) (e : Ending) (w' : World) : Prop := ∃ v : Nat, v < n ∧ e = .returned (.int .i64 v) ∧ w' = w

theorem a2Long_short (a b : Option Addr) (n m c d : Nat) (hn : n ≤ 3000) (hm : m ≤ 3000) (w : World) : Calls Tryz.prog 4 #[.slice a n c, .slice b m d] w fun e w' => e = .returned (.bool false) ∧ w' = w := by
  go_enter Tryz.func4, Tryz.ntmps4
  go_wp2
  all_goals first | omega | (go_ret; simp; done) | (go_ret; simp; omega)
theorem a2Long_long (a b : Option Addr) (n m c d : Nat) (h : 3000 < n ∨ 3000 < m) (w : World) : Calls Tryz.prog 4 #[.slice a n c, .slice b m d] w fun e w' => e = .returned (.bool true) ∧ w' = w := by
  go_enter Tryz.func4, Tryz.ntmps4
  go_wp2
  all_goals (go_ret; first | (simp; done) | (simp; omega))
def near (x y b : Option Nat) : Bool := fle (fsub x y) b && fle (fsub y x) b
end Go.Proofs.YtafbolnkohebjaaGreatDoor

namespace Go.Proofs.YtafbolnkohebjaaGreatDoor
open Go.RowKit
set_option maxRecDepth 100000

theorem u64_wrap (z : Int) : ∃ s : Nat, s < 18446744073709551616 ∧ IntKind.u64.wrap z = (s : Int) := by
  refine ⟨(z % 18446744073709551616).toNat, by omega, ?_⟩
  simp [IntKind.wrap, IntKind.signed, IntKind.bits]
  omega
theorem and255 (x : Nat) : bits .and .u64 (x : Int) 255 = ((x % 256 : Nat) : Int) := by
  have h : (BitVec.ofInt 64 (x : Int) &&& BitVec.ofInt 64 255).toNat = x % 256 := by
    rw [BitVec.toNat_and, BitVec.toNat_ofInt, show (BitVec.ofInt 64 255).toNat = 2 ^ 8 - 1 by decide, Nat.and_two_pow_sub_one_eq_mod]
    omega
  show IntKind.u64.wrap ((BitVec.ofInt 64 (x : Int) &&& BitVec.ofInt 64 255).toNat : Int) = _
  rw [h]
  simp [IntKind.wrap, IntKind.signed, IntKind.bits]
  omega
/-- A source of choices, as it lies in memory. -/
structure Src (w : World) (g : Nat) (a : Option Addr) (n c : Nat) (f : Nat → Nat) (m : Nat) : Prop where
  byt : Byt w a n f
  far : 0 < n → ∀ x, a = some x → x.block ≠ g
  blk : ∃ i s : Nat, i ≤ m ∧ s < 18446744073709551616 ∧ Blk w g 72 #[.slice a n c, .int .i64 i, .int .u64 s]
/-- A source was read: its own block is written, nothing else. -/
def Upto (w w' : World) (g : Nat) : Prop := ∃ cs q, w' = (w.setRow g cs).drewN q
theorem Upto.blk {w w' : World} {g g' : Nat} {t : TypeId} {cs : Array Value} (h : Upto w w' g) (hB : Blk w g' t cs) (hne : g' ≠ g) : Blk w' g' t cs := by
  obtain ⟨ds, q, rfl⟩ := h
  exact Blk.drewN (hB.farRow hne) q
theorem Upto.below {B : Nat} {W w w' : World} {g : Nat} (h : Upto w w' g) (hb : Below B W w) (hg : B ≤ g) : Below B W w' := by
  obtain ⟨ds, q, rfl⟩ := h
  exact bDrew (bRow hb hg ds) q
theorem Upto.size {w w' : World} {g : Nat} (h : Upto w w' g) : w'.heap.size = w.heap.size := by
  obtain ⟨ds, q, rfl⟩ := h
  simp
theorem Upto.trans {w w1 w2 : World} {g : Nat} (h : Upto w w1 g) (h2 : Upto w1 w2 g) : Upto w w2 g := by
  obtain ⟨ds, q, rfl⟩ := h
  obtain ⟨es, r, rfl⟩ := h2
  exact ⟨es, q + r, by rw [show ((w.setRow g ds).drewN q).setRow g es = ((w.setRow g ds).setRow g es).drewN q from rfl, setRow_twice, World.drewN_drewN]⟩
theorem Upto.draw {w w1 : World} {g : Nat} (h : Upto w w1 g) (n : Nat) : Upto w (w1.drewN n) g := by
  obtain ⟨ds, q, rfl⟩ := h
  exact ⟨ds, q + n, World.drewN_drewN ..⟩
def RetSrc (w : World) (g : Nat) (a : Option Addr) (n c : Nat) (f : Nat → Nat) (m k : Nat) (e : Ending) (w' : World) : Prop := ∃ v : Nat, v < k ∧ e = .returned (.int .i64 v) ∧ Upto w w' g ∧ Src w' g a n c f m

theorem src_step {w : World} {g : Nat} {a : Option Addr} {n c : Nat} {f : Nat → Nat} {m i s S : Nat} (hS : Src w g a n c f m) (hB : Blk w g 72 #[.slice a n c, .int .i64 i, .int .u64 s]) (hi : i ≤ m) (hS' : S < 18446744073709551616) (p q : Nat) :
    Upto w ((((w.drewN p).setCell ⟨g, 1, none⟩ (.int .i64 ((i : Int) + 1))).setCell ⟨g, 2, none⟩ (.int .u64 S)).drewN q) g ∧ Src ((((w.drewN p).setCell ⟨g, 1, none⟩ (.int .i64 ((i : Int) + 1))).setCell ⟨g, 2, none⟩ (.int .u64 S)).drewN q) g a n c f (m + 1) := by
  have hB1 : Blk (w.drewN p) g 72 #[.slice a n c, .int .i64 i, .int .u64 s] := Blk.drewN hB p
  have e1 := setCell_row hB1 1 (.int .i64 ((i : Int) + 1))
  have hB2 := hB1.set_ 1 (.int .i64 ((i : Int) + 1))
  have e2 := setCell_row hB2 2 (.int .u64 S)
  have hB3 := hB2.set_ 2 (.int .u64 S)
  have hU : Upto w ((((w.drewN p).setCell ⟨g, 1, none⟩ (.int .i64 ((i : Int) + 1))).setCell ⟨g, 2, none⟩ (.int .u64 S)).drewN q) g := by
    rw [e2, e1, setRow_twice]
    exact ⟨_, p + q, by rw [← World.drewN_drewN]; rfl⟩
  refine ⟨hU, ⟨hS.byt.small, fun j hj => ?_⟩, hS.far, i + 1, S, by omega, hS', ?_⟩
  · obtain ⟨x, h1, h2, h3, h4⟩ := hS.byt.cell j hj
    have hne := hS.far (by omega) x h1
    refine ⟨x, h1, by rw [hU.size]; exact h2, ?_, h4⟩
    obtain ⟨ds, r, hr⟩ := hU
    rw [hr]
    have e3 : (x.add j).block = x.block := by unfold Addr.add; split <;> rfl
    have h5 := setRow_other w g (x.add j).block ds (by rw [e3]; exact hne)
    have h6 : ((w.setRow g ds).drewN r).cell? (x.add j) = w.cell? (x.add j) := by
      show (w.setRow g ds).cell? (x.add j) = _
      unfold World.cell?
      rw [h5]
    rw [h6]
    exact h3
  · exact Blk.drewN (hB3.to (by simp)) q
theorem setRow_self {w : World} {g : Nat} {t : TypeId} {cs : Array Value} (h : Blk w g t cs) : w.setRow g cs = w := by
  have hh : (w.heap.modify g fun | .cells _ e fr => .cells cs e fr | o => o) = w.heap := by
    apply Array.ext_getElem?
    intro k
    rw [Array.getElem?_modify]
    by_cases hk : g = k
    · subst hk
      have h' : w.heap[g]? = some (.cells cs t (0, 0)) := h
      rw [if_pos rfl, h']
      rfl
    · rw [if_neg hk]
  exact (congrArg (fun h => ({ w with heap := h } : World)) hh).trans rfl
theorem next_any (g : Nat) (a : Option Addr) (n c : Nat) (f : Nat → Nat) (m : Nat) (hm : m ≤ 1000000) (w : World) (hS : Src w g a n c f m) : Calls Tryz.prog 73 #[.pointer (some ⟨g, 0, none⟩)] w (RetSrc w g a n c f (m + 1) 256) := by
  obtain ⟨i, s, hi, hs, hB⟩ := hS.blk
  have c0 : w.cell? ⟨g, 0, none⟩ = some (.slice a n c) := by rw [hB.cell 0]; rfl
  have c1 : w.cell? ⟨g, 1, none⟩ = some (.int .i64 i) := by rw [hB.cell 1]; rfl
  have c2 : w.cell? ⟨g, 2, none⟩ = some (.int .u64 s) := by rw [hB.cell 2]; rfl
  have hn := hS.byt.small
  unfold maxLen at hn
  have f1 := hB.frozen 1
  have f2 := hB.frozen 2
  by_cases h : i < n
  · obtain ⟨x, hx, hxb, hxc, hf⟩ := hS.byt.cell i h
    have hne := hS.far (by omega) x hx
    subst hx
    go_enter Tryz.func73, Tryz.ntmps73
    go_wp2_with fail
    go_quiet (fail)
    go_wp2_with fail
    go_quiet (fail)
    go_wp2_with fail
    obtain ⟨S, hS1, hS2⟩ := u64_wrap (IntKind.u64.wrap (IntKind.u64.wrap ((s : Int) * 6364136223846793005) + (f i : Int)) + 1442695040888963407)
    rw [hS2]
    clear hS2
    go_quiet (fail)
    go_wp2
    go_ret
    obtain ⟨hU, hN⟩ := src_step hS hB hi hS1 _ _
    exact ⟨f i, hf, rfl, hU, hN⟩
  · go_enter Tryz.func73, Tryz.ntmps73
    go_wp2_with fail
    go_quiet (fail)
    go_wp2_with fail
    obtain ⟨S, hS1, hS2⟩ := u64_wrap (IntKind.u64.wrap (IntKind.u64.wrap ((s : Int) * 6364136223846793005)) + 1442695040888963407)
    rw [hS2]
    clear hS2
    have hq := and255 (S / 1099511627776)
    have hq2 : (S : Int) / 1099511627776 = ((S / 1099511627776 : Nat) : Int) := by omega
    have hlt : S / 1099511627776 % 256 < 256 := Nat.mod_lt _ (by omega)
    have hle : decide ((i : Int) + 1 ≤ (n : Int)) = false := by simp; omega
    rw [← hq2] at hq
    clear hq2
    go_quiet (fail)
    generalize S / 1099511627776 % 256 = V at *
    go_wp2
    go_ret
    obtain ⟨hU, hN⟩ := src_step hS hB hi hS1 _ _
    exact ⟨V, hlt, rfl, hU, hN⟩
theorem mod_lt_k {x k : Nat} (hk : 1 ≤ k) : x % k < k := Nat.mod_lt _ hk
/-- A number below 'k'. -/
theorem pick_any (g : Nat) (a : Option Addr) (n c : Nat) (f : Nat → Nat) (m : Nat) (hm : m ≤ 900000) (k : Nat) (hk : 1 ≤ k) (hk2 : k ≤ 4294967296) (w : World) (hS : Src w g a n c f m) : Calls Tryz.prog 53 #[.pointer (some ⟨g, 0, none⟩), .int .i64 k] w (RetSrc w g a n c f (m + 2) k) := by
  have hgr : ∀ {w' : World} {q : Nat}, q ≤ m + 2 → Src w' g a n c f q → Src w' g a n c f (m + 2) := fun hq h => ⟨h.byt, h.far, by obtain ⟨i, s, h1, h2, h3⟩ := h.blk; exact ⟨i, s, by omega, h2, h3⟩⟩
  by_cases h1 : k = 1
  · subst h1
    go_enter Tryz.func53, Tryz.ntmps53
    go_wp2
    go_ret
    obtain ⟨i, s, _, _, hB⟩ := hS.blk
    exact ⟨0, by omega, rfl, ⟨_, 0, by rw [World.drewN_zero]; exact (setRow_self hB).symm⟩, hgr (by omega) hS⟩
  · have h2 : decide ((k : Int) ≤ 1) = false := by simp; omega
    by_cases h3 : 200 < k
    · have h4 : decide ((200 : Int) < (k : Int)) = true := by simp; omega
      go_enter Tryz.func53, Tryz.ntmps53
      go_wp2_with fail
      refine (next_any g a n c f m (by omega) _ hS).mono ?_
      rintro e w1 ⟨v1, hv1, rfl, hU1, hS1⟩
      go_wp2_with fail
      refine (next_any g a n c f (m + 1) (by omega) _ hS1).mono ?_
      rintro e w2 ⟨v2, hv2, rfl, hU2, hS2⟩
      have hlt := mod_lt_k (x := v1 * 256 + v2) hk
      go_wp2
      go_ret
      exact ⟨(v1 * 256 + v2) % k, hlt, by simp, hU1.trans hU2, hgr (by omega) hS2⟩
    · have h4 : decide ((200 : Int) < (k : Int)) = false := by simp; omega
      go_enter Tryz.func53, Tryz.ntmps53
      go_wp2_with fail
      refine (next_any g a n c f m (by omega) _ hS).mono ?_
      rintro e w1 ⟨v1, hv1, rfl, hU1, hS1⟩
      have hlt := mod_lt_k (x := v1) hk
      go_wp2
      go_ret
      exact ⟨v1 % k, hlt, by simp, hU1, hgr (by omega) hS1⟩
/-- A source of its own. -/
def RetFrom (w : World) (a : Option Addr) (n c : Nat) (f : Nat → Nat) (e : Ending) (w' : World) : Prop := e = .returned (.pointer (some ⟨w.heap.size, 0, none⟩)) ∧ w'.heap.size = w.heap.size + 1 ∧ Src w' w.heap.size a n c f 0 ∧ Below w.heap.size w w'
theorem l00From_any (a : Option Addr) (n c : Nat) (f : Nat → Nat) (w : World) (hB : Byt w a n f) : Calls Tryz.prog 27 #[.slice a n c] w (RetFrom w a n c f) := by
  go_enter Tryz.func27, Tryz.ntmps27
  go_wp2
  go_ret
  have hb := (Below.refl w.heap.size w).alloc (Nat.le_refl _) (.cells #[.slice a n c, .int .i64 0, .int .u64 0] 72)
  refine ⟨rfl, by simp, ⟨hB.below hb, fun h x hx => ?_, 0, 0, Nat.le_refl _, by omega, Blk.new _ _ _⟩, hb⟩
  obtain ⟨y, h1, h2, _⟩ := hB.cell 0 h
  rw [hx] at h1
  cases h1
  omega
/-- A number of sixty-fourths. -/
def plain (v : Nat) : Option Nat := fdiv (fint v) (canon .f32 1115684864)
def pw (v : Nat) : Nat := match plain v with | some b => b | none => 0
theorem plain_word : ∀ v, v < 65 → plain v = some (pw v) := by decide +kernel
theorem pw_canon {v : Nat} (h : v < 65) : canon .f32 (pw v) = some (pw v) := by
  have key : ∀ v, v < 65 → (FloatKind.f32.decode (pw v)).isNaN = false := by decide +kernel
  exact canon_some (key v h)
def RetPlain (w : World) (g : Nat) (a : Option Addr) (n c : Nat) (f : Nat → Nat) (m : Nat) (e : Ending) (w' : World) : Prop := ∃ v : Nat, v < 65 ∧ e = .returned (.float .f32 (pw v)) ∧ Upto w w' g ∧ Src w' g a n c f m
theorem l01Plain_any (g : Nat) (a : Option Addr) (n c : Nat) (f : Nat → Nat) (m : Nat) (hm : m ≤ 800000) (w : World) (hS : Src w g a n c f m) : Calls Tryz.prog 28 #[.pointer (some ⟨g, 0, none⟩)] w (RetPlain w g a n c f (m + 2)) := by
  go_enter Tryz.func28, Tryz.ntmps28
  go_wp2_with fail
  refine (pick_any g a n c f m (by omega) 65 (by omega) (by omega) _ hS).mono ?_
  rintro e w1 ⟨v, hv, rfl, hU, hS⟩
  have hc : ∀ w, canon .f32 (fval .quo .f32 (floatOfInt .f32 (v : Int)) 1115684864 w) = some (pw v) := fun w => by rw [c_div, ← plain_word v hv]; rfl
  have he : ∀ w, fval .quo .f32 (floatOfInt .f32 (v : Int)) 1115684864 w = pw v := fun w => (canon_eq_some (hc w)).1
  have hd := hU.draw (fcnt .quo .f32 (floatOfInt .f32 (v : Int)) 1115684864)
  have hS2 : Src (w1.drewN (fcnt .quo .f32 (floatOfInt .f32 (v : Int)) 1115684864)) g a n c f (m + 2) := ⟨⟨hS.byt.small, hS.byt.cell⟩, hS.far, hS.blk⟩
  clear hc
  go_wp2
  go_ret
  exact ⟨v, hv, rfl, hd, hS2⟩
def RetPw (w : World) (e : Ending) (w' : World) : Prop := ∃ v : Nat, v < 65 ∧ e = .returned (.float .f32 (pw v)) ∧ Below w.heap.size w w'
theorem A2Plain_any (a : Option Addr) (n c : Nat) (f : Nat → Nat) (w : World) (hB : Byt w a n f) : Calls Tryz.prog 6 #[.slice a n c] w (RetPw w) := by
  go_enter Tryz.func6, Tryz.ntmps6
  go_wp2_with fail
  refine (l00From_any a n c f w hB).mono ?_
  rintro e w1 ⟨rfl, _, hS, hb⟩
  go_wp2_with fail
  refine (l01Plain_any w.heap.size a n c f 0 (by omega) _ hS).mono ?_
  rintro e w2 ⟨v, hv, rfl, hU, _⟩
  go_wp2
  go_ret
  exact ⟨v, hv, rfl, hU.below hb (Nat.le_refl _)⟩
/-- A curve of sixty-fourths. -/
def RetPc (w : World) (e : Ending) (w' : World) : Prop := ∃ V : Nat → Nat, (∀ i, V i < 65) ∧ e = .returned (.agg (fA 16 fun i => pw (V i))) ∧ Below w.heap.size w w'
theorem A2Curve_any (a : Option Addr) (n c : Nat) (f : Nat → Nat) (w : World) (hB : Byt w a n f) : Calls Tryz.prog 5 #[.slice a n c] w (RetPc w) := by
  have hZ : Blk (w.alloc (.cells (fA 16 fun _ => 0) 26)) w.heap.size 26 (fA 16 fun _ => 0) := Blk.new _ _ _
  have hb0 : Below w.heap.size w (w.alloc (.cells (fA 16 fun _ => 0) 26)) := (by repeat (first | assumption | exact Below.refl _ _ | refine bDrew ?_ _ | refine Below.alloc ?_ (by first | omega | (simp; done) | (simp; omega)) _ | refine Below.setCell ?_ (by first | omega | (simp; done) | (simp; omega)) _ | refine bRow ?_ (by first | omega | (simp; done) | (simp; omega)) _))
  go_enter Tryz.func5, Tryz.ntmps5
  go_wp2_with fail
  refine (l00From_any a n c f _ (hB.below hb0)).mono ?_
  rintro e w1 ⟨rfl, hs, hS, hb⟩
  have hsz : w1.heap.size = w.heap.size + 2 := by rw [hs]; simp
  have hg : (w.alloc (.cells (fA 16 fun _ => 0) 26)).heap.size = w.heap.size + 1 := by simp
  rw [hg] at hS ⊢
  have hZ := (hZ.below hb hZ.lt).alloc (.cells (fA 16 fun _ => 0) 26)
  have hb := (bCall hb0 hb (by simp)).alloc (B := w.heap.size) (by rw [hsz]; omega) (.cells (fA 16 fun _ => 0) 26)
  have hO : Blk (w1.alloc (.cells (fA 16 fun _ => 0) 26)) w1.heap.size 26 (fA 16 fun _ => 0) := Blk.new _ _ _
  rw [hsz] at hO
  go_wp2_with (first | (refine wpList_build_as rfl 26 _ rfl (fA 16 fun _ => 0) (by kernel_rfl) ?_) | (refine wpList_store_new rfl 26 _ _ rfl _ rfl rfl (by kernel_rfl) rfl (all_fA _ _) ?_))
  have hfar := hS.far
  have hS0 : ∃ i s : Nat, i ≤ 2 * 0 ∧ s < 18446744073709551616 ∧ Blk (w1.alloc (.cells (fA 16 fun _ => 0) 26)) (w.heap.size + 1) 72 #[.slice a n c, .int .i64 i, .int .u64 s] := by
    obtain ⟨i, s, h1, h2, h3⟩ := hS.blk
    exact ⟨i, s, by omega, h2, h3.alloc _⟩
  go_loopw [5] (fun i wr => ∃ (k : Nat) (cur : Nat → Nat), k ≤ 16 ∧ i = .int .i64 k ∧ Below w.heap.size w wr ∧ Blk wr w.heap.size 26 (fA 16 fun _ => 0) ∧ Blk wr (w.heap.size + 2) 26 (fA 16 cur) ∧ (∃ i s : Nat, i ≤ 2 * k ∧ s < 18446744073709551616 ∧ Blk wr (w.heap.size + 1) 72 #[.slice a n c, .int .i64 i, .int .u64 s]) ∧ Hid (∀ j, j < k → ∃ v, v < 65 ∧ cur j = pw v)) (fun i _ => 16 - (intOf i).toNat)
  case atStart => exact ⟨0, fun _ => 0, by omega, rfl, hb, hZ, hO, hS0, Lib.hid fun j h => absurd h (by omega)⟩
  case round =>
    clear hb hZ hO hS hS0 hb0
    obtain ⟨k, cur, hk, rfl, hb, hZ, hO, hS, HV⟩ := hrel
    by_cases hlt : k < 16
    · go_wp2_with fail
      refine (l01Plain_any (w.heap.size + 1) a n c f (2 * k) (by omega) _ ⟨hB.to hb (Nat.le_refl _), hfar, hS⟩).mono ?_
      rintro e w2 ⟨v, hv, rfl, hU, hS2⟩
      have hZ := hU.blk hZ (by omega)
      have hO := hU.blk hO (by omega)
      have hb := hU.below hb (by omega)
      have c1 := (hO.cell k).trans (get_fA_lt cur hlt)
      have f1 := hO.frozen k
      clear hU
      go_wp2
      go_roundw
      case rel =>
        refine ⟨k + 1, _, by omega, by go_num, hb.setCell (by dsimp only; omega) _, hZ.far (by dsimp only; omega) _, hO.setF k _, ?_, Lib.hid ?_⟩
        · obtain ⟨i, s, h1, h2, h3⟩ := hS2.blk
          exact ⟨i, s, by omega, h2, h3.far (by dsimp only; omega) _⟩
        · exact upd_to (Q := fun j u => ∃ v, v < 65 ∧ u = pw v) HV.out ⟨v, hv, rfl⟩
      case measure => simp [intOf]; omega
    · obtain rfl : k = 16 := by omega
      have HC : Hid (fA 16 cur = fA 16 fun i => pw (if h : i < 16 then (HV.out i h).choose else 0)) := Lib.hid (fA_congr fun i hi => by rw [dif_pos hi]; exact (HV.out i hi).choose_spec.2)
      go_wp2_with (first | (refine wpList_load_row rfl 26 _ rfl _ rfl _ _ (0, 0) _ hO Tryz.underlying26 rfl (by kernel_rfl) ?_) | (refine wpList_store_row rfl 26 _ _ rfl _ _ rfl rfl _ _ hZ (by kernel_rfl) (by simp only [size_fA]) (all_fA _ _) ?_))
      refine bodyPost_ret (results_cell_row rfl _ _ w.heap.size _ _ _ _ rfl hZ.setRow Tryz.underlying26 rfl (by kernel_rfl)) rfl ⟨fun i => if h : i < 16 then (HV.out i h).choose else 0, fun i => ?_, by rw [HC.out], bRow hb (Nat.le_refl _) _⟩
      dsimp only
      by_cases h : i < 16
      · rw [dif_pos h]; exact (HV.out i h).choose_spec.1
      · rw [dif_neg h]; omega
end Go.Proofs.YtafbolnkohebjaaGreatDoor
