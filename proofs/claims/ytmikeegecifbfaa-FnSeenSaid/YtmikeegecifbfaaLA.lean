/- What the great laws draw from their bytes: contracts of a2Long, a2At, a2Near. -/
import Derived.Test.YtmikeegecifbfaaKit
import Derived.Test.YtmikeegecifbfaaChecked
import Derived.WalkKit
import Derived.WalkSpells
import Derived.Outline
import Derived.BigQuiet
import Derived.Deep.QuietTactic
import Derived.ChangeSlices
import Derived.WideShapes
import Derived.ProofKit
namespace Go.Proofs.Ytmikeegecifbfaa
open Go.RowKit
set_option maxRecDepth 100000

/-- A slice of bytes as it may be read. -/
structure Byt (w : World) (a : Option Addr) (len : Nat) (f : Nat → Nat) : Prop where
  small : len ≤ maxLen
  cell : ∀ i, i < len → ∃ x, a = some x ∧ x.block < w.heap.size ∧ w.cell? (x.add i) = some (.int .u8 (f i)) ∧ f i < 256
theorem Byt.below {w w' : World} {a : Option Addr} {len : Nat} {f : Nat → Nat} (h : Byt w a len f) (hb : Below w.heap.size w w') : Byt w' a len f :=
  ⟨h.small, fun i hi => by
    obtain ⟨x, h1, h2, h3, h4⟩ := h.cell i hi
    exact ⟨x, h1, Nat.lt_of_lt_of_le h2 hb.size, by rw [hb.cell (p := x.add i) (by unfold Addr.add; split <;> exact h2)]; exact h3, h4⟩⟩
theorem Byt.to {B : Nat} {w w' : World} {a : Option Addr} {len : Nat} {f : Nat → Nat} (h : Byt w a len f) (hb : Below B w w') (hB : w.heap.size ≤ B) : Byt w' a len f := h.below (hb.mono hB)

/-- A slice of bytes among the arguments, opened. -/
theorem open_byt {H : Type} {enc : TypeId × Value → H} {P : Program} {W : World} {held : Bool} {t e : TypeId} {a : Option Addr} {len cap : Nat} {d : DataW H} {ps : List MemPlace} (ht : P.underlying t = some (.slice e)) (he : P.underlying e = some (.int .u8)) (hc : P.cellsOf e = 1)
    (h : DataW.Trod enc P W 0 (fun _ => true) held t (.slice a len cap) d ps) : ∃ f, Byt W a len f := by
  obtain ⟨fuel, hf⟩ := h
  rcases Go.ChangeShapes.open_ints ht he hc hf with ⟨hcs, _⟩ | ⟨x, l, c, zs, hcs, _, hl, hm, hz, _, hcell, hwz⟩
  · simp [Value.cells] at hcs
    obtain ⟨rfl, rfl, rfl⟩ := hcs
    exact ⟨fun _ => 0, Nat.zero_le _, fun i hi => absurd hi (by omega)⟩
  · simp [Value.cells] at hcs
    obtain ⟨rfl, rfl, rfl⟩ := hcs
    have hz' : zs.length = cap := by simpa using hz
    have hb : ∀ i, i < len → 0 ≤ zs.getD i 0 ∧ zs.getD i 0 ≤ 255 := by
      intro i hi
      have hg : zs.getD i 0 ∈ zs := by simp [List.getD, List.getElem?_eq_getElem (show i < zs.length by omega)]
      have h1 := hwz _ hg
      generalize zs.getD i 0 = z at h1
      simpa [Lit.wf, IntKind.min, IntKind.max, IntKind.signed, IntKind.bits] using h1
    refine ⟨fun i => (zs.getD i 0).toNat, Nat.le_trans hl hm, fun i hi => ⟨x, rfl, ?_, ?_, ?_⟩⟩
    · exact Nat.lt_of_not_le fun hge => by
        have h1 := hcell i (by omega)
        have h2 : (x.add i).block = x.block := by unfold Addr.add; split <;> rfl
        have h3 : (W.heap[(x.add i).block]?) = none := by rw [h2]; exact Array.getElem?_eq_none hge
        simp [World.cell?, h3] at h1
    · rw [hcell i (by omega), Int.toNat_of_nonneg (hb i hi).1]
    · have := hb i hi
      show (zs.getD i 0).toNat < 256
      omega

/-- A number below 'n'. -/
def RetN (w : World) (n : Nat) (e : Ending) (w' : World) : Prop := ∃ v : Nat, v < n ∧ e = .returned (.int .i64 v) ∧ w' = w

theorem a2At_any (a : Option Addr) (len cap : Nat) (f : Nat → Nat) (w : World) (hB : Byt w a len f) (A n : Nat) (_ : A ≤ 1000) (h1 : 1 ≤ n) (_ : n ≤ 1000000) :
    Calls Try.prog 16 #[.slice a len cap, .int .i64 A, .int .i64 n] w (RetN w n) := by
  have hs := hB.small
  unfold maxLen at hs
  by_cases h : A < len
  · obtain ⟨x, rfl, hx, hc, hf⟩ := hB.cell A h
    have hm := Nat.mod_lt (f A) h1
    clear hB
    generalize f A = u at *
    go_enter Try.func16, Try.ntmps16
    go_wp2
    go_ret
    exact ⟨u % n, hm, by simp, rfl⟩
  · clear hB
    go_enter Try.func16, Try.ntmps16
    go_wp2
    go_ret
    exact ⟨0, by omega, rfl, rfl⟩
theorem a2Long_short (a b : Option Addr) (n m c d : Nat) (hn : n ≤ 3000) (hm : m ≤ 3000) (w : World) : Calls Try.prog 5 #[.slice a n c, .slice b m d] w fun e w' => e = .returned (.bool false) ∧ w' = w := by
  go_enter Try.func5, Try.ntmps5
  go_wp2
  all_goals first | omega | (go_ret; simp; done) | (go_ret; simp; omega)
theorem a2Long_long (a b : Option Addr) (n m c d : Nat) (h : 3000 < n ∨ 3000 < m) (w : World) : Calls Try.prog 5 #[.slice a n c, .slice b m d] w fun e w' => e = .returned (.bool true) ∧ w' = w := by
  go_enter Try.func5, Try.ntmps5
  go_wp2
  all_goals (go_ret; first | (simp; done) | (simp; omega))
/-- Two numbers are near. -/
def near (x y b : Option Nat) : Bool := fle (fsub x y) b && fle (fsub y x) b
theorem a2Near_yes (x y b : Nat) (h : near (canon .f32 x) (canon .f32 y) (canon .f32 b) = true) (w : World) : Calls Try.prog 15 #[.float .f32 x, .float .f32 y, .float .f32 b] w (RetBq w true) := by
  unfold near at h
  rw [Bool.and_eq_true] at h
  have h1 : ∀ w, (FloatKind.f32.format.order (fval .sub .f32 x y w) b == some .lt || FloatKind.f32.format.order (fval .sub .f32 x y w) b == some .eq) = true := fun w => by rw [o_le, c_sub]; exact h.1
  have h2 : ∀ w, (FloatKind.f32.format.order (fval .sub .f32 y x w) b == some .lt || FloatKind.f32.format.order (fval .sub .f32 y x w) b == some .eq) = true := fun w => by rw [o_le, c_sub]; exact h.2
  clear h
  go_enter Try.func15, Try.ntmps15
  go_wp2
  go_ret
  exact ⟨rfl, _, rfl⟩
end Go.Proofs.Ytmikeegecifbfaa
