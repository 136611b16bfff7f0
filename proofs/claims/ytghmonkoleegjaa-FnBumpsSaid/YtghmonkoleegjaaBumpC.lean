/- Contracts of bumps, lights and observers at the numbers that the law of bumps draws: the words themselves. -/
import Derived.Test.YtghmonkoleegjaaBmp
import Derived.Test.YtghmonkoleegjaaCI
import Derived.Test.YtghmonkoleegjaaCH
import Derived.Test.YtghmonkoleegjaaEqa
namespace Go.Proofs.Ytghmonkoleegjaa
open Go.RowKit
set_option maxRecDepth 100000

theorem fA_of {n : Nat} {r W : Nat → Nat} (h : ∀ i, i < n → canon .f32 (r i) = some (W i)) : fA n r = fA n W :=
  fA_congr fun i hi => (canon_eq_some (h i hi)).1
def RetRow (n : Nat) (W : Nat → Nat) (w : World) (e : Ending) (w' : World) : Prop := e = .returned (.agg (fA n W)) ∧ Below w.heap.size w w'
def RetRow0 (n : Nat) (W : Nat → Nat) (w : World) (e : Ending) (w' : World) : Prop := e = .returned (.tuple #[.agg (fA n W), .int .i64 0]) ∧ Below w.heap.size w w'
theorem RetC.row {n : Nat} {w : World} {p : Nat → Option Nat} {W : Nat → Nat} {e : Ending} {w' : World} (h : RetC n w p e w') (hp : ∀ i, i < n → p i = some (W i)) : RetRow n W w e w' := by
  obtain ⟨r, h1, h2, h3⟩ := h
  rw [fA_of (fun i hi => (h2 i hi).trans (hp i hi))] at h1
  exact ⟨h1, h3⟩
theorem RetCC.row {n : Nat} {w : World} {p : Nat → Option Nat} {c : Int} {W : Nat → Nat} {e : Ending} {w' : World} (h : RetCC n w p c e w') (hc : c = 0) (hp : ∀ i, i < n → p i = some (W i)) : RetRow0 n W w e w' := by
  obtain ⟨r, h1, h2, h3⟩ := h
  rw [fA_of (fun i hi => (h2 i hi).trans (hp i hi)), hc] at h1
  exact ⟨h1, h3⟩
def bumpRow (p m : Nat) (i : Nat) : Nat := bumpW m (farOf i p)
theorem iBump_row {p m q : Nat} (hp : p < 16) (hm : m < 16) (hq : canon .f32 q = quarter m) (w : World) : Calls Try.prog 21 #[.float .f32 (floatOfInt .f32 (p : Nat)), .float .f32 q] w (RetRow0 16 (bumpRow p m) w) :=
  (iBump_any (floatOfInt .f32 (p : Nat)) q w).mono fun _ _ h => by
    rw [hq] at h
    rw [show canon .f32 (floatOfInt .f32 (p : Nat)) = fint (p : Nat) from rfl, bump_ok hp hm] at h
    exact h.row rfl fun i hi => bump_word hi hp hm
theorem sBump_row {p m q : Nat} (hp : p < 16) (hm : m < 16) (hq : canon .f32 q = quarter m) (w : World) : Calls Try.prog 22 #[.float .f32 (floatOfInt .f32 (p : Nat)), .float .f32 q] w (RetRow0 16 (bumpRow p m) w) :=
  (sBump_any (floatOfInt .f32 (p : Nat)) q w).mono fun _ _ h => by
    rw [hq] at h
    rw [show canon .f32 (floatOfInt .f32 (p : Nat)) = fint (p : Nat) from rfl, bump_ok hp hm] at h
    exact h.row rfl fun i hi => bump_word hi hp hm
theorem iObservers_row (w : World) : Calls Try.prog 24 #[] w (RetRow 48 obsW w) := (iObservers_any w).mono fun _ _ h => h.row fun i hi => (obs_word i hi).1
theorem sObservers_row (w : World) : Calls Try.prog 25 #[] w (RetRow 48 obsW w) := (sObservers_any w).mono fun _ _ h => h.row fun i hi => (obs_word i hi).1
theorem light_res {x : Option Nat} (h : warmOk x = true) : lightRes x = (fun i => lightAt x i, 0) := by unfold lightRes; rw [if_pos h]
theorem warm_row {m q : Nat} (hm : m < 16) (hq : canon .f32 q = sixteenth m) (w : World) : Calls Try.prog 26 #[.float .f32 q] w (RetRow0 16 (lightW m) w) :=
  (iLightOf_any q w).mono fun _ _ h => by
    rw [hq, light_res (light_ok m hm).1] at h
    exact h.row rfl fun i hi => (light_tab m hm i hi).1
def coldW (m i : Nat) : Nat := lightW m (15 - i)
theorem cold_row {m q : Nat} (hm : m < 16) (hq : canon .f32 q = sixteenth m) (w : World) : Calls Try.prog 26 #[.float .f32 (Op.negFloat .f32 q)] w (RetRow0 16 (coldW m) w) :=
  (iLightOf_any (Op.negFloat .f32 q) w).mono fun _ _ h => by
    rw [canon_neg, hq, light_res (light_ok m hm).2] at h
    refine h.row rfl fun i hi => ?_
    have := (light_tab m hm (15 - i) (by omega)).2
    rw [show 15 - (15 - i) = i by omega] at this
    exact this
theorem sSame_self (a : Nat → Nat) (w : World) : Calls Try.prog 23 #[.agg (fA 16 a), .agg (fA 16 a)] w (RetB w true) := by
  have h := sSameCurve_any a a w
  rw [show (allTo 16 fun i => canon .f32 (a i) == canon .f32 (a i)) = true from allTo_true fun _ _ => beq_self_eq_true _] at h
  exact h
theorem canon_small {b : Nat} (h : b < 2139095040) : canon .f32 b = some b := canon_some (by rw [nanW32]; simp; omega)
theorem order_same {b : Nat} (h : b < 2139095040) : FloatKind.f32.format.order b b = some .eq := order_refl (by rw [canon_small h]; rfl)
theorem fsum_same {p q : Nat → Option Nat} : ∀ {n : Nat}, (∀ i, i < n → p i = q i) → fsumTo p n = fsumTo q n
  | 0, _ => rfl
  | 1, h => h 0 (by omega)
  | n + 2, h => by
    show fadd (fsumTo p (n + 1)) (p (n + 1)) = fadd (fsumTo q (n + 1)) (q (n + 1))
    rw [fsum_same fun i hi => h i (by omega), h (n + 1) (by omega)]
theorem sum_near {m : Nat} (hm : m < 16) {a : Nat → Nat} (ha : ∀ i, i < 16 → a i = lightW m i) : near (fsumTo (fun i => canon .f32 (a i)) 16) (canon .f32 1098907648) (canon .f32 981668463) = true := by
  rw [fsum_same (q := lightAt (sixteenth m)) fun i hi => by rw [ha i hi, canon_small (light_small m hm i hi)]; exact (light_tab m hm i hi).1.symm]
  exact light_sum m hm
theorem above_zero {b : Nat} (h : 0 < b ∧ b < 2139095040) : (FloatKind.f32.format.order b 0 == some .lt || FloatKind.f32.format.order b 0 == some .eq) = false := by
  rw [order_words h.2 (by omega), if_neg (by omega), if_neg (by omega)]; rfl
theorem not_le {a b : Nat} (h : b < a) (ha : a < 2139095040) : (FloatKind.f32.format.order a b == some .lt || FloatKind.f32.format.order a b == some .eq) = false := by
  rw [order_words ha (by omega), if_neg (by omega), if_neg (by omega)]; rfl
end Go.Proofs.Ytghmonkoleegjaa
