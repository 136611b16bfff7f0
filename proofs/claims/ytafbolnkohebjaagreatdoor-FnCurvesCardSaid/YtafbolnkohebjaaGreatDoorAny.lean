/- Contracts: any numbers, and curves of them, drawn from bytes. -/
import Derived.Test.YtafbolnkohebjaaGreatDoorDrm
import Derived.Test.YtafbolnkohebjaaGreatDoorCon
import Derived.Test.YtafbolnkohebjaaGreatDoorFlo
import Derived.Test.YtafbolnkohebjaaGreatDoorHI
namespace Go.Proofs.YtafbolnkohebjaaGreatDoor
open Go.RowKit
set_option maxRecDepth 100000

/-- A word whose bits, as the texts have them, are 32 bits. -/
def Wd (x : Nat) : Prop := bitsOf (canon .f32 x) < 4294967296
theorem wd_none {x : Nat} (h : canon .f32 x = none) : Wd x := by unfold Wd; rw [h]; decide
theorem wd_lt {x : Nat} (h : x < 4294967296) : Wd x := bits_lt h
theorem wd_op {x : Nat} {op : BinOp} {p q : Option Nat} (h : canon .f32 x = cop op .f32 p q) : Wd x := by
  cases hq : cop op .f32 p q with
  | none => exact wd_none (h.trans hq)
  | some r =>
    unfold Wd
    rw [h, hq]
    have := cop_lt hq
    have e : FloatKind.f32.format.signWeight = 2147483648 := by decide
    show r < 4294967296
    omega
def RetAny (w : World) (g : Nat) (a : Option Addr) (n c : Nat) (f : Nat → Nat) (m : Nat) (e : Ending) (w' : World) : Prop := ∃ x : Nat, Wd x ∧ e = .returned (.float .f32 x) ∧ Upto w w' g ∧ Src w' g a n c f m
theorem Src.drawn {w : World} {g : Nat} {a : Option Addr} {n c : Nat} {f : Nat → Nat} {m : Nat} (h : Src w g a n c f m) (q : Nat) : Src (w.drewN q) g a n c f m := h.of (bDrew (Below.refl _ _) q)
theorem inf_up (w : World) : Calls Tryz.prog 62 #[.int .i64 1] w fun e w' => e = .returned (.float .f64 9218868437227405312) ∧ Drawn w w' := by
  have h1 : ∀ (i : Int) (w : World), (callFunc 74 #[.int .u64 i]).run Tryz.prog w = .ok (.value (.float .f64 i.toNat)) w := fun i w => by kernel_rfl
  go_enter Tryz.func62, Tryz.ntmps62
  go_wp2
  go_ret
  exact ⟨rfl, 0, rfl⟩
theorem inf_down (w : World) : Calls Tryz.prog 62 #[.int .i64 (-1)] w fun e w' => e = .returned (.float .f64 18442240474082181120) ∧ Drawn w w' := by
  have h1 : ∀ (i : Int) (w : World), (callFunc 74 #[.int .u64 i]).run Tryz.prog w = .ok (.value (.float .f64 i.toNat)) w := fun i w => by kernel_rfl
  go_enter Tryz.func62, Tryz.ntmps62
  go_wp2
  go_ret
  exact ⟨rfl, 0, rfl⟩
theorem inf_short (b : Nat) (w : World) (hb : b = 9218868437227405312 ∨ b = 18442240474082181120) : Wd (cval .f64 .f32 b w) := by
  rcases hb with rfl | rfl
  · rw [show cval .f64 .f32 9218868437227405312 w = 2139095040 by unfold cval; rw [show floatToFloatBits .f64 9218868437227405312 .f32 = some 2139095040 by decide +kernel]]
    exact wd_lt (by decide)
  · rw [show cval .f64 .f32 18442240474082181120 w = 4286578688 by unfold cval; rw [show floatToFloatBits .f64 18442240474082181120 .f32 = some 4286578688 by decide +kernel]]
    exact wd_lt (by decide)
theorem pw_lt : ∀ v, v < 65 → pw v < 4294967296 := by decide +kernel
theorem neg_lt : ∀ v, v < 65 → Op.negFloat .f32 (pw v) < 4294967296 := by decide +kernel
theorem wd_neg (v : Nat) (h : v < 65) : Wd (Op.negFloat .f32 (pw v)) := wd_lt (neg_lt v h)
set_option maxHeartbeats 4000000 in
theorem l01Any_any (g : Nat) (a : Option Addr) (n c : Nat) (f : Nat → Nat) (m : Nat) (hm : m ≤ 700000) (w : World) (hS : Src w g a n c f m) : Calls Tryz.prog 43 #[.pointer (some ⟨g, 0, none⟩)] w (RetAny w g a n c f (m + 6)) := by
  go_enter Tryz.func43, Tryz.ntmps43
  go_wp2_with fail
  refine (pick_any g a n c f m (by omega) 16 (by omega) (by omega) _ hS).mono ?_
  rintro e w1 ⟨v, hv, rfl, hU, hS⟩
  by_cases h0 : v = 0
  · subst h0
    go_wp2_with fail
    refine (nan_any _).mono ?_
    rintro e w2 ⟨rfl, k, rfl⟩
    have hS := hS.drawn k
    have hU := hU.draw k
    generalize w1.drewN k = w3 at *
    go_wp2
    go_ret
    exact ⟨_, wd_none (nan_short _), rfl, hU.draw _, (hS.drawn _).more (by omega)⟩
  by_cases h1 : v = 1
  · subst h1
    go_wp2_with fail
    refine (inf_up _).mono ?_
    rintro e w2 ⟨rfl, k, rfl⟩
    have hS := hS.drawn k
    have hU := hU.draw k
    generalize w1.drewN k = w3 at *
    go_wp2
    go_ret
    exact ⟨_, inf_short _ _ (.inl rfl), rfl, hU.draw _, (hS.drawn _).more (by omega)⟩
  by_cases h2 : v = 2
  · subst h2
    go_wp2_with fail
    refine (inf_down _).mono ?_
    rintro e w2 ⟨rfl, k, rfl⟩
    have hS := hS.drawn k
    have hU := hU.draw k
    generalize w1.drewN k = w3 at *
    go_wp2
    go_ret
    exact ⟨_, inf_short _ _ (.inr rfl), rfl, hU.draw _, (hS.drawn _).more (by omega)⟩
  have hbits := from32
  by_cases h3 : v = 3
  · subst h3
    have hb := from32 2147483648
    have hb' : ∀ w, (callFunc 45 #[.int .u32 2147483648]).run Tryz.prog w = .ok (.value (.float .f32 2147483648)) w := hb
    clear hb
    go_wp2
    go_ret
    exact ⟨_, wd_lt (by decide), rfl, hU, hS.more (by omega)⟩
  by_cases h4 : v = 4
  · subst h4
    go_wp2_with fail
    refine (pick_any g a n c f (m + 2) (by omega) 16777220 (by omega) (by omega) _ hS).mono ?_
    rintro e w2 ⟨x, hx, rfl, hV, hS⟩
    have hw : IntKind.u32.wrap (x : Int) = (x : Int) := by simp [IntKind.wrap, IntKind.signed, IntKind.bits]; omega
    have hb := from32 x
    go_wp2
    go_ret
    exact ⟨x, wd_lt (by omega), rfl, hU.trans hV, hS.more (by omega)⟩
  by_cases h5 : v = 5
  · subst h5
    go_wp2_with fail
    refine (pick_any g a n c f (m + 2) (by omega) 1073741824 (by omega) (by omega) _ hS).mono ?_
    rintro e w2 ⟨x, hx, rfl, hV, hS⟩
    have hw : IntKind.u32.wrap (x : Int) = (x : Int) := by simp [IntKind.wrap, IntKind.signed, IntKind.bits]; omega
    have hw2 : IntKind.u32.wrap ((x : Int) * 4) = (x : Int) * 4 := by simp [IntKind.wrap, IntKind.signed, IntKind.bits]; omega
    go_wp2_with fail
    refine (pick_any g a n c f (m + 2 + 2) (by omega) 4 (by omega) (by omega) _ hS).mono ?_
    rintro e w3 ⟨y, hy, rfl, hW, hS⟩
    have hw3 : IntKind.u32.wrap (y : Int) = (y : Int) := by simp [IntKind.wrap, IntKind.signed, IntKind.bits]; omega
    have hw4 : IntKind.u32.wrap ((x : Int) * 4 + (y : Int)) = (x : Int) * 4 + (y : Int) := by simp [IntKind.wrap, IntKind.signed, IntKind.bits]; omega
    have hb : ∀ w, (callFunc 45 #[.int .u32 ((x : Int) * 4 + (y : Int))]).run Tryz.prog w = .ok (.value (.float .f32 (x * 4 + y))) w := fun w => by have := from32 (x * 4 + y) w; rw [show ((x * 4 + y : Nat) : Int) = (x : Int) * 4 + (y : Int) by omega] at this; exact this
    go_wp2
    go_ret
    exact ⟨x * 4 + y, wd_lt (by omega), rfl, (hU.trans hV).trans hW, hS.more (by omega)⟩
  by_cases h6 : v = 6
  · subst h6
    go_wp2_with fail
    refine (pick_any g a n c f (m + 2) (by omega) 2000000 (by omega) (by omega) _ hS).mono ?_
    rintro e w2 ⟨x, hx, rfl, hV, hS⟩
    go_wp2
    go_ret
    exact ⟨_, wd_op (c_div ..), rfl, (hU.trans hV).draw _, (hS.drawn _).more (by omega)⟩
  by_cases h7 : v = 7
  · subst h7
    go_wp2_with fail
    refine (l01Plain_any g a n c f (m + 2) (by omega) _ hS).mono ?_
    rintro e w2 ⟨x, hx, rfl, hV, hS⟩
    go_wp2
    go_ret
    exact ⟨_, wd_neg x hx, rfl, hU.trans hV, hS.more (by omega)⟩
  by_cases h8 : v = 8
  · subst h8
    go_wp2_with fail
    refine (l01Plain_any g a n c f (m + 2) (by omega) _ hS).mono ?_
    rintro e w2 ⟨x, hx, rfl, hV, hS⟩
    go_wp2
    go_ret
    exact ⟨_, wd_neg x hx, rfl, hU.trans hV, hS.more (by omega)⟩
  have d0 : ((v : Int) == 0) = false := by simp; omega
  have d1 : ((v : Int) == 1) = false := by simp; omega
  have d2 : ((v : Int) == 2) = false := by simp; omega
  have d3 : ((v : Int) == 3) = false := by simp; omega
  have d4 : ((v : Int) == 4) = false := by simp; omega
  have d5 : ((v : Int) == 5) = false := by simp; omega
  have d6 : ((v : Int) == 6) = false := by simp; omega
  have d7 : ((v : Int) == 7) = false := by simp; omega
  have d8 : ((v : Int) == 8) = false := by simp; omega
  go_wp2_with fail
  refine (l01Plain_any g a n c f (m + 2) (by omega) _ hS).mono ?_
  rintro e w2 ⟨x, hx, rfl, hV, hS⟩
  go_wp2
  go_ret
  exact ⟨_, wd_lt (pw_lt x hx), rfl, hU.trans hV, hS.more (by omega)⟩
end Go.Proofs.YtafbolnkohebjaaGreatDoor
