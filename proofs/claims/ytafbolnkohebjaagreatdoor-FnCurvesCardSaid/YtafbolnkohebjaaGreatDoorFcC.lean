/- What the calls of one region of the law of curves give. -/
import Derived.Test.YtafbolnkohebjaaGreatDoorFcB
import Derived.Test.YtafbolnkohebjaaGreatDoorHeld
namespace Go.Proofs.YtafbolnkohebjaaGreatDoor
open Go.RowKit
set_option maxRecDepth 100000

/-- Sums, products, flat curves, sums of curves, mixed curves. -/
def GC (f : FuncId) (args : Array Value) (u : Value) : Prop :=
  (f = 7 → ∃ x y r : Nat → Nat, args = #[.agg (fA 16 x), .agg (fA 16 y)] ∧ u = .agg (fA 16 r) ∧ ∀ i, i < 16 → canon .f32 (r i) = fadd (canon .f32 (x i)) (canon .f32 (y i))) ∧
  (f = 10 → ∃ x y r : Nat → Nat, args = #[.agg (fA 16 x), .agg (fA 16 y)] ∧ u = .agg (fA 16 r) ∧ ∀ i, i < 16 → canon .f32 (r i) = fmul (canon .f32 (x i)) (canon .f32 (y i))) ∧
  (f = 8 → ∃ (x : Nat → Nat) (r : Nat), args = #[.agg (fA 16 x)] ∧ u = .float .f32 r ∧ canon .f32 r = fsumTo (fun i => canon .f32 (x i)) 16) ∧
  (f = 9 → ∃ (x y : Nat → Nat) (r : Nat), args = #[.agg (fA 16 x), .agg (fA 16 y)] ∧ u = .float .f32 r ∧ canon .f32 r = fsumTo (fun i => fmul (canon .f32 (x i)) (canon .f32 (y i))) 16) ∧
  (f = 11 → ∃ (a : Nat) (r : Nat → Nat), args = #[.float .f32 a] ∧ u = .agg (fA 16 r) ∧ ∀ i, i < 16 → canon .f32 (r i) = canon .f32 a) ∧
  (f = 12 → ∃ (x y : Nat → Nat) (a : Nat) (r : Nat → Nat), args = #[.agg (fA 16 x), .agg (fA 16 y), .float .f32 a] ∧ u = .agg (fA 16 r) ∧ ∀ i, i < 16 → canon .f32 (r i) = mixOf (canon .f32 a) (canon .f32 (x i)) (canon .f32 (y i)))
section
variable {x y r : Nat → Nat} {a z : Nat} {u : Value}
theorem GC.add (h : ∀ i, i < 16 → canon .f32 (r i) = fadd (canon .f32 (x i)) (canon .f32 (y i))) : GC 7 #[.agg (fA 16 x), .agg (fA 16 y)] (.agg (fA 16 r)) :=
  ⟨fun _ => ⟨x, y, r, rfl, rfl, h⟩, fun e => absurd e (by decide), fun e => absurd e (by decide), fun e => absurd e (by decide), fun e => absurd e (by decide), fun e => absurd e (by decide)⟩
theorem GC.mul (h : ∀ i, i < 16 → canon .f32 (r i) = fmul (canon .f32 (x i)) (canon .f32 (y i))) : GC 10 #[.agg (fA 16 x), .agg (fA 16 y)] (.agg (fA 16 r)) :=
  ⟨fun e => absurd e (by decide), fun _ => ⟨x, y, r, rfl, rfl, h⟩, fun e => absurd e (by decide), fun e => absurd e (by decide), fun e => absurd e (by decide), fun e => absurd e (by decide)⟩
theorem GC.sum (h : canon .f32 z = fsumTo (fun i => canon .f32 (x i)) 16) : GC 8 #[.agg (fA 16 x)] (.float .f32 z) :=
  ⟨fun e => absurd e (by decide), fun e => absurd e (by decide), fun _ => ⟨x, z, rfl, rfl, h⟩, fun e => absurd e (by decide), fun e => absurd e (by decide), fun e => absurd e (by decide)⟩
theorem GC.dot (h : canon .f32 z = fsumTo (fun i => fmul (canon .f32 (x i)) (canon .f32 (y i))) 16) : GC 9 #[.agg (fA 16 x), .agg (fA 16 y)] (.float .f32 z) :=
  ⟨fun e => absurd e (by decide), fun e => absurd e (by decide), fun e => absurd e (by decide), fun _ => ⟨x, y, z, rfl, rfl, h⟩, fun e => absurd e (by decide), fun e => absurd e (by decide)⟩
theorem GC.flat (h : ∀ i, i < 16 → canon .f32 (r i) = canon .f32 a) : GC 11 #[.float .f32 a] (.agg (fA 16 r)) :=
  ⟨fun e => absurd e (by decide), fun e => absurd e (by decide), fun e => absurd e (by decide), fun e => absurd e (by decide), fun _ => ⟨a, r, rfl, rfl, h⟩, fun e => absurd e (by decide)⟩
theorem GC.mix (h : ∀ i, i < 16 → canon .f32 (r i) = mixOf (canon .f32 a) (canon .f32 (x i)) (canon .f32 (y i))) : GC 12 #[.agg (fA 16 x), .agg (fA 16 y), .float .f32 a] (.agg (fA 16 r)) :=
  ⟨fun e => absurd e (by decide), fun e => absurd e (by decide), fun e => absurd e (by decide), fun e => absurd e (by decide), fun e => absurd e (by decide), fun _ => ⟨x, y, a, r, rfl, rfl, h⟩⟩
theorem args2 {p q p' q' : Nat → Nat} (h : (#[.agg (fA 16 p), .agg (fA 16 q)] : Array Value) = #[.agg (fA 16 p'), .agg (fA 16 q')]) : (∀ i, i < 16 → p i = p' i) ∧ ∀ i, i < 16 → q i = q' i := by
  simp only [Array.mk.injEq, List.cons.injEq, Value.agg.injEq, and_true] at h
  exact ⟨fun _ => fA_inj h.1, fun _ => fA_inj h.2⟩
theorem args1 {p p' : Nat → Nat} (h : (#[.agg (fA 16 p)] : Array Value) = #[.agg (fA 16 p')]) : ∀ i, i < 16 → p i = p' i := by
  simp only [Array.mk.injEq, List.cons.injEq, Value.agg.injEq, and_true] at h
  exact fun _ => fA_inj h
theorem GC.ofAdd (h : GC 7 #[.agg (fA 16 x), .agg (fA 16 y)] u) : ∃ r, u = .agg (fA 16 r) ∧ Hid (∀ i, i < 16 → canon .f32 (r i) = fadd (canon .f32 (x i)) (canon .f32 (y i))) := by
  obtain ⟨p, q, r, e, hu, hr⟩ := h.1 rfl
  obtain ⟨e1, e2⟩ := args2 e
  exact ⟨r, hu, fun i hi => by rw [hr i hi, e1 i hi, e2 i hi]⟩
theorem GC.ofMul (h : GC 10 #[.agg (fA 16 x), .agg (fA 16 y)] u) : ∃ r, u = .agg (fA 16 r) ∧ Hid (∀ i, i < 16 → canon .f32 (r i) = fmul (canon .f32 (x i)) (canon .f32 (y i))) := by
  obtain ⟨p, q, r, e, hu, hr⟩ := h.2.1 rfl
  obtain ⟨e1, e2⟩ := args2 e
  exact ⟨r, hu, fun i hi => by rw [hr i hi, e1 i hi, e2 i hi]⟩
theorem GC.ofSum (h : GC 8 #[.agg (fA 16 x)] u) : ∃ r, u = .float .f32 r ∧ Hid (canon .f32 r = fsumTo (fun i => canon .f32 (x i)) 16) := by
  obtain ⟨p, r, e, hu, hr⟩ := h.2.2.1 rfl
  have e1 := args1 e
  exact ⟨r, hu, by show canon .f32 r = _; rw [hr]; exact fsumTo_congr fun i hi => by rw [e1 i hi]⟩
theorem GC.ofDot (h : GC 9 #[.agg (fA 16 x), .agg (fA 16 y)] u) : ∃ r, u = .float .f32 r ∧ Hid (canon .f32 r = fsumTo (fun i => fmul (canon .f32 (x i)) (canon .f32 (y i))) 16) := by
  obtain ⟨p, q, r, e, hu, hr⟩ := h.2.2.2.1 rfl
  obtain ⟨e1, e2⟩ := args2 e
  exact ⟨r, hu, by show canon .f32 r = _; rw [hr]; exact fsumTo_congr fun i hi => by rw [e1 i hi, e2 i hi]⟩
theorem GC.ofFlat (h : GC 11 #[.float .f32 a] u) : ∃ r, u = .agg (fA 16 r) ∧ Hid (∀ i, i < 16 → canon .f32 (r i) = canon .f32 a) := by
  obtain ⟨p, r, e, hu, hr⟩ := h.2.2.2.2.1 rfl
  simp only [Array.mk.injEq, List.cons.injEq, Value.float.injEq, true_and, and_true] at e
  subst e
  exact ⟨r, hu, hr⟩
theorem GC.ofMix (h : GC 12 #[.agg (fA 16 x), .agg (fA 16 y), .float .f32 a] u) : ∃ r, u = .agg (fA 16 r) ∧ Hid (∀ i, i < 16 → canon .f32 (r i) = mixOf (canon .f32 a) (canon .f32 (x i)) (canon .f32 (y i))) := by
  obtain ⟨p, q, b, r, e, hu, hr⟩ := h.2.2.2.2.2 rfl
  simp only [Array.mk.injEq, List.cons.injEq, Value.agg.injEq, Value.float.injEq, true_and, and_true] at e
  obtain ⟨e1, e2, rfl⟩ := e
  exact ⟨r, hu, fun i hi => by rw [hr i hi, fA_inj e1 hi, fA_inj e2 hi]⟩
end
/-! ### Plain facts for the law, on the words that are drawn -/
section
variable {V U : Nat → Nat} {C D : Nat → Nat}
/-- The words of a drawn curve. -/
def Drw (C V : Nat → Nat) : Prop := (∀ i, C i = pw (V i)) ∧ ∀ i, V i < 65
theorem Drw.prt (h : Drw C V) (i : Nat) : Prt 6 (canon .f32 (C i)) (V i) := by rw [h.1 i]; exact pw_prt (h.2 i)
theorem add_prt (hC : Drw C V) (hD : Drw D U) (i : Nat) : Prt 6 (fadd (canon .f32 (C i)) (canon .f32 (D i))) (V i + U i) := (hC.prt i).add (hD.prt i) (by have := hC.2 i; have := hD.2 i; omega) (by omega)
theorem add_swap (hC : Drw C V) (hD : Drw D U) {S S2 : Nat → Nat} (h1 : ∀ i, i < 16 → canon .f32 (S i) = fadd (canon .f32 (C i)) (canon .f32 (D i))) (h2 : ∀ i, i < 16 → canon .f32 (S2 i) = fadd (canon .f32 (D i)) (canon .f32 (C i))) : ∀ i, i < 16 → FloatKind.f32.format.order (S2 i) (S i) = some .eq := fun i hi => by
  have a := add_prt hC hD i
  have b := add_prt hD hC i
  rw [Nat.add_comm] at b
  rw [← h1 i hi] at a
  rw [← h2 i hi] at b
  exact prt_eq b a
theorem sum_prt {p : Nat → Option Nat} {N : Nat → Nat} {B : Nat} (h : ∀ i, i < 16 → Prt 6 (p i) (N i) ∧ N i ≤ B) (hB : B ≤ 1000) : Prt 6 (fsumTo p 16) (sumN N 16) := fsum_prt (by omega) h (by omega)
theorem drw_sum (hC : Drw C V) : Prt 6 (fsumTo (fun i => canon .f32 (C i)) 16) (sumN V 16) := sum_prt (B := 64) (fun i _ => ⟨hC.prt i, by have := hC.2 i; omega⟩) (by omega)
theorem sumN_drw (hC : Drw C V) : sumN V 16 ≤ 1024 := sumN_le (B := 64) (n := 16) fun i _ => by have := hC.2 i; omega
/-- The sum of a sum. -/
theorem sum_sum (hC : Drw C V) (hD : Drw D U) {S : Nat → Nat} (h1 : ∀ i, i < 16 → canon .f32 (S i) = fadd (canon .f32 (C i)) (canon .f32 (D i))) {x y z w : Nat} (hx : canon .f32 x = fsumTo (fun i => canon .f32 (S i)) 16)
    (hy : canon .f32 y = fsumTo (fun i => canon .f32 (C i)) 16) (hz : canon .f32 z = fsumTo (fun i => canon .f32 (D i)) 16) (hw : canon .f32 w = fadd (canon .f32 y) (canon .f32 z)) : FloatKind.f32.format.order x w = some .eq := by
  have a : Prt 6 (canon .f32 x) (sumN V 16 + sumN U 16) := by
    rw [hx, ← sumN_add]
    exact sum_prt (B := 128) (fun i hi => ⟨by rw [h1 i hi]; exact add_prt hC hD i, by have := hC.2 i; have := hD.2 i; omega⟩) (by omega)
  have b : Prt 6 (canon .f32 w) (sumN V 16 + sumN U 16) := by
    rw [hw, hy, hz]
    exact (drw_sum hC).add (drw_sum hD) (by have := sumN_drw hC; have := sumN_drw hD; omega) (by omega)
  exact prt_eq a b
theorem sum_some (hC : Drw C V) (hD : Drw D U) {y z : Nat} (hy : canon .f32 y = fsumTo (fun i => canon .f32 (C i)) 16) (hz : canon .f32 z = fsumTo (fun i => canon .f32 (D i)) 16) : (fadd (canon .f32 y) (canon .f32 z)).isSome = true := by
  rw [hy, hz]
  exact Is.some ((drw_sum hC).add (drw_sum hD) (by have := sumN_drw hC; have := sumN_drw hD; omega) (by omega))
theorem prod_prt (hC : Drw C V) (hD : Drw D U) (i : Nat) : Prt 12 (fmul (canon .f32 (C i)) (canon .f32 (D i))) (V i * U i) ∧ V i * U i ≤ 4096 := by
  have h : V i * U i ≤ 64 * 64 := Nat.mul_le_mul (by have := hC.2 i; omega) (by have := hD.2 i; omega)
  exact ⟨(hC.prt i).mul (hD.prt i) (by omega) (by omega), by omega⟩
theorem dot_mul (hC : Drw C V) (hD : Drw D U) {M : Nat → Nat} (hM : ∀ i, i < 16 → canon .f32 (M i) = fmul (canon .f32 (C i)) (canon .f32 (D i))) {x y : Nat} (hx : canon .f32 x = fsumTo (fun i => fmul (canon .f32 (C i)) (canon .f32 (D i))) 16)
    (hy : canon .f32 y = fsumTo (fun i => canon .f32 (M i)) 16) : FloatKind.f32.format.order x y = some .eq := by
  have a : Prt 12 (canon .f32 x) (sumN (fun i => V i * U i) 16) := by rw [hx]; exact fsum_prt (B := 4096) (by omega) (fun i _ => prod_prt hC hD i) (by omega)
  have e : fsumTo (fun i => canon .f32 (M i)) 16 = fsumTo (fun i => fmul (canon .f32 (C i)) (canon .f32 (D i))) 16 := fsumTo_congr hM
  rw [hx, ← e, ← hy] at a
  have b : Prt 12 (canon .f32 x) (sumN (fun i => V i * U i) 16) := by rw [hx, ← e, ← hy]; exact a
  exact prt_eq b a
theorem dot_one (hC : Drw C V) {O : Nat → Nat} (hO : ∀ i, i < 16 → canon .f32 (O i) = canon .f32 1065353216) {x y : Nat} (hx : canon .f32 x = fsumTo (fun i => fmul (canon .f32 (C i)) (canon .f32 (O i))) 16)
    (hy : canon .f32 y = fsumTo (fun i => canon .f32 (C i)) 16) : FloatKind.f32.format.order x y = some .eq := by
  have e : (fun i => V i * 2 ^ 6) = fun i => V i * 64 := rfl
  have a : Prt 12 (canon .f32 x) (sumN (fun i => V i * 64) 16) := by
    rw [hx]
    exact fsum_prt (B := 4096) (by omega) (fun i hi => ⟨by rw [hO i hi]; exact (hC.prt i).mul one_prt (by have := hC.2 i; omega) (by omega), by have := hC.2 i; omega⟩) (by omega)
  have b : Prt 12 (canon .f32 y) (sumN (fun i => V i * 64) 16) := by
    rw [hy]
    exact fsum_prt (B := 4096) (by omega) (fun i _ => ⟨(hC.prt i).more 6, by have := hC.2 i; omega⟩) (by omega)
  exact prt_eq a b
/-- A curve mixed with nothing of another one; with nothing of itself. -/
theorem mix_none (hC : Drw C V) (hD : Drw D U) {M : Nat → Nat} (hM : ∀ i, i < 16 → canon .f32 (M i) = mixOf (canon .f32 0) (canon .f32 (C i)) (canon .f32 (D i))) : ∀ i, i < 16 → FloatKind.f32.format.order (M i) (C i) = some .eq := fun i hi => by
  have a := mix_prt (hC.2 i) (hD.2 i) (k := 0) (by omega) (prt_zero 6)
  have b := (hC.prt i).more 6
  rw [← hC.1 i, ← hD.1 i, ← hM i hi] at a
  have e : V i * (64 - 0) + U i * 0 = V i * 2 ^ 6 := by omega
  rw [e] at a
  exact prt_eq a b
theorem mix_all (hC : Drw C V) (hD : Drw D U) {M : Nat → Nat} (hM : ∀ i, i < 16 → canon .f32 (M i) = mixOf (canon .f32 1065353216) (canon .f32 (C i)) (canon .f32 (D i))) : ∀ i, i < 16 → FloatKind.f32.format.order (M i) (D i) = some .eq := fun i hi => by
  have a := mix_prt (hC.2 i) (hD.2 i) (k := 64) (by omega) one_prt
  have b := (hD.prt i).more 6
  rw [← hC.1 i, ← hD.1 i, ← hM i hi] at a
  have e : V i * (64 - 64) + U i * 64 = U i * 2 ^ 6 := by omega
  rw [e] at a
  exact prt_eq a b
/-! ### One round of the law -/
theorem low_lt (hC : Drw C V) {L b j : Nat} (hL : canon .f32 L = canon .f32 (C b)) (h : V b ≤ V j) : (FloatKind.f32.format.order (C j) L == some .lt) = false := by
  rw [o_lt, hL, prt_lt (hC.prt j) (hC.prt b)]
  exact decide_eq_false (by omega)
theorem low_eq (hC : Drw C V) {L b j : Nat} (hL : canon .f32 L = canon .f32 (C b)) (h : V b < V j) : (FloatKind.f32.format.order (C j) L == some .eq) = false := by
  rw [o_eq, hL, prt_feq (hC.prt j) (hC.prt b)]
  exact decide_eq_false (by omega)
theorem high_gt (hC : Drw C V) {L b j : Nat} (hL : canon .f32 L = canon .f32 (C b)) (h : V j ≤ V b) : (FloatKind.f32.format.order (C j) L == some .gt) = false := by
  rw [o_gt, hL, prt_gt (hC.prt j) (hC.prt b)]
  exact decide_eq_false (by omega)
theorem high_eq (hC : Drw C V) {L b j : Nat} (hL : canon .f32 L = canon .f32 (C b)) (h : V j < V b) : (FloatKind.f32.format.order (C j) L == some .eq) = false := by
  rw [o_eq, hL, prt_feq (hC.prt j) (hC.prt b)]
  exact decide_eq_false (by omega)
theorem end_eq (hC : Drw C V) {L b : Nat} (hL : canon .f32 L = canon .f32 (C b)) : FloatKind.f32.format.order (C b) L = some .eq := prt_eq (hC.prt b) (by rw [hL]; exact hC.prt b)
theorem scale_prt (hC : Drw C V) {X q : Nat} (hX : X = pw q) (hq : q < 65) (j : Nat) : Prt 12 (fmul (canon .f32 (C j)) (canon .f32 X)) (V j * q) := by
  have h : V j * q ≤ 64 * 64 := Nat.mul_le_mul (by have := hC.2 j; omega) (by omega)
  rw [hX]
  exact (hC.prt j).mul (pw_prt hq) (by omega) (by omega)
theorem scale_eq (hC : Drw C V) {X q : Nat} (hX : X = pw q) (hq : q < 65) {j z x : Nat} (hz : canon .f32 z = fmul (canon .f32 (C j)) (canon .f32 X)) (hx : canon .f32 x = fmul (canon .f32 (C j)) (canon .f32 X)) : FloatKind.f32.format.order z x = some .eq :=
  prt_eq (by rw [hz]; exact scale_prt hC hX hq j) (by rw [hx]; exact scale_prt hC hX hq j)
/-- A mixed number, in parts. -/
def mixN (V U : Nat → Nat) (q j : Nat) : Nat := V j * (64 - q) + U j * q
theorem mixed_prt (hC : Drw C V) (hD : Drw D U) {X q : Nat} (hX : X = pw q) (hq : q < 65) {j m : Nat} (hm : canon .f32 m = mixOf (canon .f32 X) (canon .f32 (C j)) (canon .f32 (D j))) : Prt 12 (canon .f32 m) (mixN V U q j) := by
  rw [hm, hX, hC.1 j, hD.1 j]
  exact mix_prt (hC.2 j) (hD.2 j) (by omega) (pw_prt hq)
theorem mixed_lt {m c N v : Nat} (hm : Prt 12 (canon .f32 m) N) (hc : Prt 6 (canon .f32 c) v) : (FloatKind.f32.format.order m c == some .lt) = decide (N < v * 64) := by rw [o_lt]; exact prt_lt hm (hc.more 6)
theorem mixed_gt {m c N v : Nat} (hm : Prt 12 (canon .f32 m) N) (hc : Prt 6 (canon .f32 c) v) : (FloatKind.f32.format.order m c == some .gt) = decide (v * 64 < N) := by rw [o_gt]; exact prt_gt hm (hc.more 6)
theorem mixed_in {q j : Nat} (hq : q < 65) : ¬ (mixN V U q j < V j * 64 ∧ mixN V U q j < U j * 64) ∧ ¬ (V j * 64 < mixN V U q j ∧ U j * 64 < mixN V U q j) := mix_between (by omega)
theorem drw_fin (hC : Drw C V) : (allTo 16 fun i => fin (canon .f32 (C i))) = true := allTo_true fun i _ => fin_is.2 ⟨_, hC.prt i⟩
end
end Go.Proofs.YtafbolnkohebjaaGreatDoor
