/- What the great laws draw from their bytes: contracts of a2Long, a2At, a2Near. Contracts: what is drawn from bytes: numbers below a bound, numbers of sixty-fourths, curves of these. -/
import Derived.Test.YtfpjiclkhjdihaaKit
import Derived.Test.YtfpjiclkhjdihaaChecked
import Derived.WalkKit
import Derived.WalkSpells
import Derived.Outline
import Derived.BigQuiet
import Derived.Deep.QuietTactic
import Derived.ChangeSlices
import Derived.WideShapes
import Derived.ProofKit
import Derived.Test.YtfpjiclkhjdihaaCP
import Derived.IntWalk
namespace Go.Proofs.Ytfpjiclkhjdihaa
open Go.RowKit
set_option maxRecDepth 100000

/-- A slice of bytes as it may be read. -/
structure Byt (w : World) (a : Option Addr) (len : Nat) (f : Nat → Nat) : Prop where
  small : len ≤ maxLen
  cell : ∀ i, i < len → ∃ x, a = some x ∧ x.block < w.heap.size ∧ w.cell? (x.add i) = some (.int .u8 (f i)) ∧ f i < 256
theorem Byt.below {w w' : World} {a : Option Addr} {len : Nat} {f : Nat → Nat} (h : Byt w a len f) (hb : Below w.heap.size w w') : Byt w' a len f :=
  ⟨h.small, fun i hi => by
    obtain ⟨x, h1, h2, h3, h4⟩ := h.cell i hi
    exact ⟨x, h1, Nat.lt_of_lt_of_le h2 hb.size, by rw [hb.cell (p := x.add i) (by unfold Addr.add; split <;> exact h2)]; exact h3, h4⟩⟩
theorem Byt.to {B : Nat} {w w' : World} {a : Option Addr} {len : Nat} {f : Nat → Nat} (h : Byt w a len f) (hb : Below B w w') (hB : w.heap.size ≤ B) : Byt w' a len f := h.below (hb.mono hB)

/-- A slice of bytes among the arguments, opened. -/
theorem open_byt {H : Type} {enc : TypeId × Value → H} {P : Program} {W : World} {held : Bool} {t e : TypeId} {a : Option Addr} {len cap : Nat} {d : DataW H} {ps : List MemPlace} (ht : P.underlying t = some (.slice e)) (he : P.underlying e = some (.int .u8)) (hc : P.cellsOf e = 1)
    (h : DataW.Trod enc P W 0 (fun _ => true) held t (.slice a len cap) d ps) : ∃ f, Byt W a len f := by
  obtain ⟨fuel, hf⟩ := h
  rcases Go.ChangeShapes.open_ints ht he hc hf with ⟨hcs, _⟩ | ⟨x, l, c, zs, hcs, _, hl, hm, hz, _, hcell, hwz⟩
  · simp [Value.cells] at hcs
    obtain ⟨rfl, rfl, rfl⟩ := hcs
    exact ⟨fun _ => 0, Nat.zero_le _, fun i hi => absurd hi (by omega)⟩
  · simp [Value.cells] at hcs
    obtain ⟨rfl, rfl, rfl⟩ := hcs
    have hz' : zs.length = cap := by simpa using hz
    have hb : ∀ i, i < len → 0 ≤ zs.getD i 0 ∧ zs.getD i 0 ≤ 255 := by
      intro i hi
      have hg : zs.getD i 0 ∈ zs := by simp [List.getD, List.getElem?_eq_getElem (show i < zs.length by omega)]
      have h1 := hwz _ hg
      generalize zs.getD i 0 = z at h1
      simpa [Lit.wf, IntKind.min, IntKind.max, IntKind.signed, IntKind.bits] using h1
    refine ⟨fun i => (zs.getD i 0).toNat, Nat.le_trans hl hm, fun i hi => ⟨x, rfl, ?_, ?_, ?_⟩⟩
    · exact Nat.lt_of_not_le fun hge => by
        have h1 := hcell i (by omega)
        have h2 : (x.add i).block = x.block := by unfold Addr.add; split <;> rfl
        have h3 : (W.heap[(x.add i).block]?) = none := by rw [h2]; exact Array.getElem?_eq_none hge
        simp [World.cell?, h3] at h1
    · rw [hcell i (by omega), Int.toNat_of_nonneg (hb i hi).1]
    · have := hb i hi
      show (zs.getD i 0).toNat < 256
      omega

/-- A number below 'n'. -/
def RetN (w : World) (n : Nat) (e : Ending) (w' : World) : Prop := ∃ v : Nat, v < n ∧ e = .returned (.int .i64 v) ∧ w' = w

theorem a2At_any (a : Option Addr) (len cap : Nat) (f : Nat → Nat) (w : World) (hB : Byt w a len f) (A n : Nat) (_ : A ≤ 1000) (h1 : 1 ≤ n) (_ : n ≤ 1000000) :
    Calls Try.prog 18 #[.slice a len cap, .int .i64 A, .int .i64 n] w (RetN w n) := by
  have hs := hB.small
  unfold maxLen at hs
  by_cases h : A < len
  · obtain ⟨x, rfl, hx, hc, hf⟩ := hB.cell A h
    have hm := Nat.mod_lt (f A) h1
    clear hB
    generalize f A = u at *
    go_enter Try.func18, Try.ntmps18
    go_wp2
    go_ret
    exact ⟨u % n, hm, by simp, rfl⟩
  · clear hB
    go_enter Try.func18, Try.ntmps18
    go_wp2
    go_ret
    exact ⟨0, by omega, rfl, rfl⟩
theorem a2Long_short (a b : Option Addr) (n m c d : Nat) (hn : n ≤ 3000) (hm : m ≤ 3000) (w : World) : Calls Try.prog 5 #[.slice a n c, .slice b m d] w fun e w' => e = .returned (.bool false) ∧ w' = w := by
  go_enter Try.func5, Try.ntmps5
  go_wp2
  all_goals first | omega | (go_ret; simp; done) | (go_ret; simp; omega)
theorem a2Long_long (a b : Option Addr) (n m c d : Nat) (h : 3000 < n ∨ 3000 < m) (w : World) : Calls Try.prog 5 #[.slice a n c, .slice b m d] w fun e w' => e = .returned (.bool true) ∧ w' = w := by
  go_enter Try.func5, Try.ntmps5
  go_wp2
  all_goals (go_ret; first | (simp; done) | (simp; omega))
def near (x y b : Option Nat) : Bool := fle (fsub x y) b && fle (fsub y x) b
/-- Two numbers are near. -/
theorem a2Near_yes (x y b : Nat) (h : near (canon .f32 x) (canon .f32 y) (canon .f32 b) = true) (w : World) : Calls Try.prog 13 #[.float .f32 x, .float .f32 y, .float .f32 b] w (RetBq w true) := by
  unfold near at h
  rw [Bool.and_eq_true] at h
  have h1 : ∀ w, (FloatKind.f32.format.order (fval .sub .f32 x y w) b == some .lt || FloatKind.f32.format.order (fval .sub .f32 x y w) b == some .eq) = true := fun w => by rw [o_le, c_sub]; exact h.1
  have h2 : ∀ w, (FloatKind.f32.format.order (fval .sub .f32 y x w) b == some .lt || FloatKind.f32.format.order (fval .sub .f32 y x w) b == some .eq) = true := fun w => by rw [o_le, c_sub]; exact h.2
  clear h
  go_enter Try.func13, Try.ntmps13
  go_wp2
  go_ret
  exact ⟨rfl, _, rfl⟩
end Go.Proofs.Ytfpjiclkhjdihaa

namespace Go.Proofs.Ytfpjiclkhjdihaa
open Go.RowKit
set_option maxRecDepth 100000

theorem u64_wrap (z : Int) : ∃ s : Nat, s < 18446744073709551616 ∧ IntKind.u64.wrap z = (s : Int) := by
  refine ⟨(z % 18446744073709551616).toNat, by omega, ?_⟩
  simp [IntKind.wrap, IntKind.signed, IntKind.bits]
  omega
theorem and255 (x : Nat) : bits .and .u64 (x : Int) 255 = ((x % 256 : Nat) : Int) := by
  have h : (BitVec.ofInt 64 (x : Int) &&& BitVec.ofInt 64 255).toNat = x % 256 := by
    rw [BitVec.toNat_and, BitVec.toNat_ofInt, show (BitVec.ofInt 64 255).toNat = 2 ^ 8 - 1 by decide, Nat.and_two_pow_sub_one_eq_mod]
    omega
  show IntKind.u64.wrap ((BitVec.ofInt 64 (x : Int) &&& BitVec.ofInt 64 255).toNat : Int) = _
  rw [h]
  simp [IntKind.wrap, IntKind.signed, IntKind.bits]
  omega
/-- A source of choices, as it lies in memory. -/
structure Src (w : World) (g : Nat) (a : Option Addr) (n c : Nat) (f : Nat → Nat) (m : Nat) : Prop where
  byt : Byt w a n f
  far : 0 < n → ∀ x, a = some x → x.block ≠ g
  blk : ∃ i s : Nat, i ≤ m ∧ s < 18446744073709551616 ∧ Blk w g 83 #[.slice a n c, .int .i64 i, .int .u64 s]
/-- A source was read: its own block is written, nothing else. -/
def Upto (w w' : World) (g : Nat) : Prop := ∃ cs q, w' = (w.setRow g cs).drewN q
theorem Upto.blk {w w' : World} {g g' : Nat} {t : TypeId} {cs : Array Value} (h : Upto w w' g) (hB : Blk w g' t cs) (hne : g' ≠ g) : Blk w' g' t cs := by
  obtain ⟨ds, q, rfl⟩ := h
  exact Blk.drewN (hB.farRow hne) q
theorem Upto.below {B : Nat} {W w w' : World} {g : Nat} (h : Upto w w' g) (hb : Below B W w) (hg : B ≤ g) : Below B W w' := by
  obtain ⟨ds, q, rfl⟩ := h
  exact bDrew (bRow hb hg ds) q
theorem Upto.size {w w' : World} {g : Nat} (h : Upto w w' g) : w'.heap.size = w.heap.size := by
  obtain ⟨ds, q, rfl⟩ := h
  simp
theorem Upto.trans {w w1 w2 : World} {g : Nat} (h : Upto w w1 g) (h2 : Upto w1 w2 g) : Upto w w2 g := by
  obtain ⟨ds, q, rfl⟩ := h
  obtain ⟨es, r, rfl⟩ := h2
  exact ⟨es, q + r, by rw [show ((w.setRow g ds).drewN q).setRow g es = ((w.setRow g ds).setRow g es).drewN q from rfl, setRow_twice, World.drewN_drewN]⟩
theorem Upto.draw {w w1 : World} {g : Nat} (h : Upto w w1 g) (n : Nat) : Upto w (w1.drewN n) g := by
  obtain ⟨ds, q, rfl⟩ := h
  exact ⟨ds, q + n, World.drewN_drewN ..⟩
def RetSrc (w : World) (g : Nat) (a : Option Addr) (n c : Nat) (f : Nat → Nat) (m k : Nat) (e : Ending) (w' : World) : Prop := ∃ v : Nat, v < k ∧ e = .returned (.int .i64 v) ∧ Upto w w' g ∧ Src w' g a n c f m

theorem src_step {w : World} {g : Nat} {a : Option Addr} {n c : Nat} {f : Nat → Nat} {m i s S : Nat} (hS : Src w g a n c f m) (hB : Blk w g 83 #[.slice a n c, .int .i64 i, .int .u64 s]) (hi : i ≤ m) (hS' : S < 18446744073709551616) (p q : Nat) :
    Upto w ((((w.drewN p).setCell ⟨g, 1, none⟩ (.int .i64 ((i : Int) + 1))).setCell ⟨g, 2, none⟩ (.int .u64 S)).drewN q) g ∧ Src ((((w.drewN p).setCell ⟨g, 1, none⟩ (.int .i64 ((i : Int) + 1))).setCell ⟨g, 2, none⟩ (.int .u64 S)).drewN q) g a n c f (m + 1) := by
  have hB1 : Blk (w.drewN p) g 83 #[.slice a n c, .int .i64 i, .int .u64 s] := Blk.drewN hB p
  have e1 := setCell_row hB1 1 (.int .i64 ((i : Int) + 1))
  have hB2 := hB1.set_ 1 (.int .i64 ((i : Int) + 1))
  have e2 := setCell_row hB2 2 (.int .u64 S)
  have hB3 := hB2.set_ 2 (.int .u64 S)
  have hU : Upto w ((((w.drewN p).setCell ⟨g, 1, none⟩ (.int .i64 ((i : Int) + 1))).setCell ⟨g, 2, none⟩ (.int .u64 S)).drewN q) g := by
    rw [e2, e1, setRow_twice]
    exact ⟨_, p + q, by rw [← World.drewN_drewN]; rfl⟩
  refine ⟨hU, ⟨hS.byt.small, fun j hj => ?_⟩, hS.far, i + 1, S, by omega, hS', ?_⟩
  · obtain ⟨x, h1, h2, h3, h4⟩ := hS.byt.cell j hj
    have hne := hS.far (by omega) x h1
    refine ⟨x, h1, by rw [hU.size]; exact h2, ?_, h4⟩
    obtain ⟨ds, r, hr⟩ := hU
    rw [hr]
    have e3 : (x.add j).block = x.block := by unfold Addr.add; split <;> rfl
    have h5 := setRow_other w g (x.add j).block ds (by rw [e3]; exact hne)
    have h6 : ((w.setRow g ds).drewN r).cell? (x.add j) = w.cell? (x.add j) := by
      show (w.setRow g ds).cell? (x.add j) = _
      unfold World.cell?
      rw [h5]
    rw [h6]
    exact h3
  · exact Blk.drewN (hB3.to (by simp)) q
theorem setRow_self {w : World} {g : Nat} {t : TypeId} {cs : Array Value} (h : Blk w g t cs) : w.setRow g cs = w := by
  have hh : (w.heap.modify g fun | .cells _ e fr => .cells cs e fr | o => o) = w.heap := by
    apply Array.ext_getElem?
    intro k
    rw [Array.getElem?_modify]
    by_cases hk : g = k
    · subst hk
      have h' : w.heap[g]? = some (.cells cs t (0, 0)) := h
      rw [if_pos rfl, h']
      rfl
    · rw [if_neg hk]
  exact (congrArg (fun h => ({ w with heap := h } : World)) hh).trans rfl
theorem next_any (g : Nat) (a : Option Addr) (n c : Nat) (f : Nat → Nat) (m : Nat) (hm : m ≤ 1000000) (w : World) (hS : Src w g a n c f m) : Calls Try.prog 84 #[.pointer (some ⟨g, 0, none⟩)] w (RetSrc w g a n c f (m + 1) 256) := by
  obtain ⟨i, s, hi, hs, hB⟩ := hS.blk
  have c0 : w.cell? ⟨g, 0, none⟩ = some (.slice a n c) := by rw [hB.cell 0]; rfl
  have c1 : w.cell? ⟨g, 1, none⟩ = some (.int .i64 i) := by rw [hB.cell 1]; rfl
  have c2 : w.cell? ⟨g, 2, none⟩ = some (.int .u64 s) := by rw [hB.cell 2]; rfl
  have hn := hS.byt.small
  unfold maxLen at hn
  have f1 := hB.frozen 1
  have f2 := hB.frozen 2
  by_cases h : i < n
  · obtain ⟨x, hx, hxb, hxc, hf⟩ := hS.byt.cell i h
    have hne := hS.far (by omega) x hx
    subst hx
    go_enter Try.func84, Try.ntmps84
    go_wp2_with fail
    go_quiet (fail)
    go_wp2_with fail
    go_quiet (fail)
    go_wp2_with fail
    obtain ⟨S, hS1, hS2⟩ := u64_wrap (IntKind.u64.wrap (IntKind.u64.wrap ((s : Int) * 6364136223846793005) + (f i : Int)) + 1442695040888963407)
    rw [hS2]
    clear hS2
    go_quiet (fail)
    go_wp2
    go_ret
    obtain ⟨hU, hN⟩ := src_step hS hB hi hS1 _ _
    exact ⟨f i, hf, rfl, hU, hN⟩
  · go_enter Try.func84, Try.ntmps84
    go_wp2_with fail
    go_quiet (fail)
    go_wp2_with fail
    obtain ⟨S, hS1, hS2⟩ := u64_wrap (IntKind.u64.wrap (IntKind.u64.wrap ((s : Int) * 6364136223846793005)) + 1442695040888963407)
    rw [hS2]
    clear hS2
    have hq := and255 (S / 1099511627776)
    have hq2 : (S : Int) / 1099511627776 = ((S / 1099511627776 : Nat) : Int) := by omega
    have hlt : S / 1099511627776 % 256 < 256 := Nat.mod_lt _ (by omega)
    have hle : decide ((i : Int) + 1 ≤ (n : Int)) = false := by simp; omega
    rw [← hq2] at hq
    clear hq2
    go_quiet (fail)
    generalize S / 1099511627776 % 256 = V at *
    go_wp2
    go_ret
    obtain ⟨hU, hN⟩ := src_step hS hB hi hS1 _ _
    exact ⟨V, hlt, rfl, hU, hN⟩
theorem mod_lt_k {x k : Nat} (hk : 1 ≤ k) : x % k < k := Nat.mod_lt _ hk
/-- A number below 'k'. -/
theorem pick_any (g : Nat) (a : Option Addr) (n c : Nat) (f : Nat → Nat) (m : Nat) (hm : m ≤ 900000) (k : Nat) (hk : 1 ≤ k) (hk2 : k ≤ 4294967296) (w : World) (hS : Src w g a n c f m) : Calls Try.prog 57 #[.pointer (some ⟨g, 0, none⟩), .int .i64 k] w (RetSrc w g a n c f (m + 2) k) := by
  have hgr : ∀ {w' : World} {q : Nat}, q ≤ m + 2 → Src w' g a n c f q → Src w' g a n c f (m + 2) := fun hq h => ⟨h.byt, h.far, by obtain ⟨i, s, h1, h2, h3⟩ := h.blk; exact ⟨i, s, by omega, h2, h3⟩⟩
  by_cases h1 : k = 1
  · subst h1
    go_enter Try.func57, Try.ntmps57
    go_wp2
    go_ret
    obtain ⟨i, s, _, _, hB⟩ := hS.blk
    exact ⟨0, by omega, rfl, ⟨_, 0, by rw [World.drewN_zero]; exact (setRow_self hB).symm⟩, hgr (by omega) hS⟩
  · have h2 : decide ((k : Int) ≤ 1) = false := by simp; omega
    by_cases h3 : 200 < k
    · have h4 : decide ((200 : Int) < (k : Int)) = true := by simp; omega
      go_enter Try.func57, Try.ntmps57
      go_wp2_with fail
      refine (next_any g a n c f m (by omega) _ hS).mono ?_
      rintro e w1 ⟨v1, hv1, rfl, hU1, hS1⟩
      go_wp2_with fail
      refine (next_any g a n c f (m + 1) (by omega) _ hS1).mono ?_
      rintro e w2 ⟨v2, hv2, rfl, hU2, hS2⟩
      have hlt := mod_lt_k (x := v1 * 256 + v2) hk
      go_wp2
      go_ret
      exact ⟨(v1 * 256 + v2) % k, hlt, by simp, hU1.trans hU2, hgr (by omega) hS2⟩
    · have h4 : decide ((200 : Int) < (k : Int)) = false := by simp; omega
      go_enter Try.func57, Try.ntmps57
      go_wp2_with fail
      refine (next_any g a n c f m (by omega) _ hS).mono ?_
      rintro e w1 ⟨v1, hv1, rfl, hU1, hS1⟩
      have hlt := mod_lt_k (x := v1) hk
      go_wp2
      go_ret
      exact ⟨v1 % k, hlt, by simp, hU1, hgr (by omega) hS1⟩
/-- A source of its own. -/
def RetFrom (w : World) (a : Option Addr) (n c : Nat) (f : Nat → Nat) (e : Ending) (w' : World) : Prop := e = .returned (.pointer (some ⟨w.heap.size, 0, none⟩)) ∧ w'.heap.size = w.heap.size + 1 ∧ Src w' w.heap.size a n c f 0 ∧ Below w.heap.size w w'
theorem l00From_any (a : Option Addr) (n c : Nat) (f : Nat → Nat) (w : World) (hB : Byt w a n f) : Calls Try.prog 28 #[.slice a n c] w (RetFrom w a n c f) := by
  go_enter Try.func28, Try.ntmps28
  go_wp2
  go_ret
  have hb := (Below.refl w.heap.size w).alloc (Nat.le_refl _) (.cells #[.slice a n c, .int .i64 0, .int .u64 0] 83)
  refine ⟨rfl, by simp, ⟨hB.below hb, fun h x hx => ?_, 0, 0, Nat.le_refl _, by omega, Blk.new _ _ _⟩, hb⟩
  obtain ⟨y, h1, h2, _⟩ := hB.cell 0 h
  rw [hx] at h1
  cases h1
  omega
/-- A number of sixty-fourths. -/
def plain (v : Nat) : Option Nat := fdiv (fint v) (canon .f32 1115684864)
def pw (v : Nat) : Nat := match plain v with | some b => b | none => 0
theorem plain_word : ∀ v, v < 65 → plain v = some (pw v) := by decide +kernel
theorem pw_canon {v : Nat} (h : v < 65) : canon .f32 (pw v) = some (pw v) := by
  have key : ∀ v, v < 65 → (FloatKind.f32.decode (pw v)).isNaN = false := by decide +kernel
  exact canon_some (key v h)
def RetPlain (w : World) (g : Nat) (a : Option Addr) (n c : Nat) (f : Nat → Nat) (m : Nat) (e : Ending) (w' : World) : Prop := ∃ v : Nat, v < 65 ∧ e = .returned (.float .f32 (pw v)) ∧ Upto w w' g ∧ Src w' g a n c f m
theorem l01Plain_any (g : Nat) (a : Option Addr) (n c : Nat) (f : Nat → Nat) (m : Nat) (hm : m ≤ 800000) (w : World) (hS : Src w g a n c f m) : Calls Try.prog 59 #[.pointer (some ⟨g, 0, none⟩)] w (RetPlain w g a n c f (m + 2)) := by
  go_enter Try.func59, Try.ntmps59
  go_wp2_with fail
  refine (pick_any g a n c f m (by omega) 65 (by omega) (by omega) _ hS).mono ?_
  rintro e w1 ⟨v, hv, rfl, hU, hS⟩
  have hc : ∀ w, canon .f32 (fval .quo .f32 (floatOfInt .f32 (v : Int)) 1115684864 w) = some (pw v) := fun w => by rw [c_div, ← plain_word v hv]; rfl
  have he : ∀ w, fval .quo .f32 (floatOfInt .f32 (v : Int)) 1115684864 w = pw v := fun w => (canon_eq_some (hc w)).1
  have hd := hU.draw (fcnt .quo .f32 (floatOfInt .f32 (v : Int)) 1115684864)
  have hS2 : Src (w1.drewN (fcnt .quo .f32 (floatOfInt .f32 (v : Int)) 1115684864)) g a n c f (m + 2) := ⟨⟨hS.byt.small, hS.byt.cell⟩, hS.far, hS.blk⟩
  clear hc
  go_wp2
  go_ret
  exact ⟨v, hv, rfl, hd, hS2⟩
end Go.Proofs.Ytfpjiclkhjdihaa
