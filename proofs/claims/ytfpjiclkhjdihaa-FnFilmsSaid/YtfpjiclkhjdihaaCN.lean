/- Contracts: films and layers out of the laws' own types, and their comparison. Contracts: whether two films, two layers are alike. -/
import Derived.Test.YtfpjiclkhjdihaaCA
import Derived.Test.YtfpjiclkhjdihaaCP
import Derived.Test.YtfpjiclkhjdihaaHeld
namespace Go.Proofs.Ytfpjiclkhjdihaa
open Go.RowKit
set_option maxRecDepth 100000

theorem put3 (z a : Nat → Nat) : fA 48 (putAt (putAt (putAt z 0 16 (rowAt a 0)) 16 16 (rowAt a 16)) 32 16 (rowAt a 32)) = fA 48 a := by
  apply fA_congr
  intro i hi
  simp only [putAt, rowAt]
  split
  · congr 1; omega
  · split
    · congr 1; omega
    · split
      · congr 1; omega
      · omega

end Go.Proofs.Ytfpjiclkhjdihaa

namespace Go.Proofs.Ytfpjiclkhjdihaa
open Go.RowKit
set_option maxRecDepth 100000

def same16 (x y : Nat → Nat) : Bool := allTo 16 fun i => canon .f32 (x i) == canon .f32 (y i)
def sameFilm (a b : Nat → Nat) : Bool := same16 (rowAt a 0) (rowAt b 0) && same16 (rowAt a 16) (rowAt b 16) && same16 (rowAt a 32) (rowAt b 32)
def sameLayer (a b : Nat → Nat) : Bool := same16 (rowAt a 0) (rowAt b 0) && same16 (rowAt a 16) (rowAt b 16) && (canon .f32 (a 32) == canon .f32 (b 32))

theorem lrUpon_part {P : Program} {G : FuncId → Array Value → Value → Prop} {o : Oper} {a : Act} {w : World} {g n : Nat} {t : TypeId} {b : Nat → Nat} {ty : TypeId} {x : Operand} {next : Value → (World → Prop) → Prop} (ho : o.op = .load ty x)
    (h0 : Blk w g t (fA n b)) (off m : Nat) {d : TypeDesc} (hx : a.eval x = .pointer (some ⟨g, off, none⟩)) (hm : off + m ≤ n) (hu : P.underlying ty = some d) (hd : d.isRow = true) (hi : (P.info? ty).map (·.size) = some m)
    (h : ∀ N, next (.agg (fA m (rowAt b off))) N) : lrUpon P G w next ((execOp a.eval o).run P w) := by
  unfold execOp
  simp only [ho, hx, Sem.run_bind, load_part ty h0 off m hm hu hd hi, Result.andThen_ok]
  exact ⟨R.refl _, h _⟩

theorem fA_inj {n : Nat} {x y : Nat → Nat} (h : fA n x = fA n y) {i : Nat} (hi : i < n) : x i = y i := by
  have h1 := get_fA_lt x hi
  rw [h, get_fA_lt y hi] at h1
  injection h1 with h1
  injection h1 with _ h1
  exact h1.symm
/-- The calls of one region: each compares two curves, or two numbers. -/
def GS (_f : FuncId) (args : Array Value) (u : Value) : Prop :=
  (∃ x y, args = #[.agg (fA 16 x), .agg (fA 16 y)] ∧ u = .bool (same16 x y)) ∨ ∃ p q, args = #[.float .f32 p, .float .f32 q] ∧ u = .bool (canon .f32 p == canon .f32 q)
theorem GS.curves {f : FuncId} {x y : Nat → Nat} : GS f #[.agg (fA 16 x), .agg (fA 16 y)] (.bool (same16 x y)) := .inl ⟨x, y, rfl, rfl⟩
theorem GS.numbers {f : FuncId} {p q : Nat} : GS f #[.float .f32 p, .float .f32 q] (.bool (canon .f32 p == canon .f32 q)) := .inr ⟨p, q, rfl, rfl⟩
theorem GS.inv1 {f : FuncId} {x y : Nat → Nat} {u : Value} (h : GS f #[.agg (fA 16 x), .agg (fA 16 y)] u) : u = .bool (same16 x y) := by
  rcases h with ⟨x', y', ha, rfl⟩ | ⟨p, q, ha, _⟩
  · simp only [Array.mk.injEq, List.cons.injEq, Value.agg.injEq, and_true] at ha
    exact congrArg Value.bool (allTo_congr fun i hi => by rw [fA_inj ha.1 hi, fA_inj ha.2 hi])
  · simp at ha
theorem GS.inv2 {f : FuncId} {p q : Nat} {u : Value} (h : GS f #[.float .f32 p, .float .f32 q] u) : u = .bool (canon .f32 p == canon .f32 q) := by
  rcases h with ⟨x', y', ha, _⟩ | ⟨p', q', ha, rfl⟩
  · simp at ha
  · simp only [Array.mk.injEq, List.cons.injEq, Value.float.injEq, true_and, and_true] at ha
    rw [ha.1, ha.2]

set_option maxHeartbeats 800000 in
theorem l02SameFilm_any (g1 g2 : Nat) (T1 T2 : TypeId) (a b : Nat → Nat) (w : World) (hA : Blk w g1 T1 (fA 48 a)) (hB : Blk w g2 T2 (fA 48 b)) :
    Calls Try.prog 32 #[.pointer (some ⟨g1, 0, none⟩), .pointer (some ⟨g2, 0, none⟩)] w (RetB w (sameFilm a b)) := by
  go_enter Try.func32, Try.ntmps32
  go_wp2_with fail
  refine wp_region_hr GS (by kernel_rfl) (by kernel_rfl) ?_
  (refine hr_plain rfl (fun K hK w1 hw1 => ?_); go_simp; refine ⟨R.refl _, hK _ _ ?_⟩; clear hK K)
  (refine hr_plain rfl (fun K hK w1 hw1 => ?_); go_simp; refine ⟨R.refl _, hK _ _ ?_⟩; clear hK K)
  (refine hr_plain rfl (fun K hK w1 hw1 => ?_); go_simp; refine ⟨R.refl _, hK _ _ ?_⟩; clear hK K)
  (refine (hr_plain (rfl) (fun K hK w1 hw1 => lrUpon_part rfl (Blk.below hA hw1 hA.lt) 0 16 rfl (by first | decide | omega) Try.underlying26 rfl (by kernel_rfl) (fun N => hK _ _ ?_))); clear hK K)
  (refine hr_plain rfl (fun K hK w1 hw1 => ?_); go_simp; refine ⟨R.refl _, hK _ _ ?_⟩; clear hK K)
  (refine hr_plain rfl (fun K hK w1 hw1 => ?_); go_simp; refine ⟨R.refl _, hK _ _ ?_⟩; clear hK K)
  (refine hr_plain rfl (fun K hK w1 hw1 => ?_); go_simp; refine ⟨R.refl _, hK _ _ ?_⟩; clear hK K)
  (refine (hr_plain (rfl) (fun K hK w1 hw1 => lrUpon_part rfl (Blk.below hB hw1 hB.lt) 0 16 rfl (by first | decide | omega) Try.underlying26 rfl (by kernel_rfl) (fun N => hK _ _ ?_))); clear hK K)
  (refine (hr_plain (rfl) (fun K hK w1 hw1 => ?_)); go_simp; refine ⟨R.refl _, (l01SameCurve_any _ _ _).mono ?_, fun u hu => hK _ _ ?_⟩; (rintro e w' ⟨rfl, hb⟩; exact ⟨_, rfl, GS.curves, hb⟩); clear hK K; obtain rfl := hu.inv1; clear hu)
  (refine hr_plain rfl (fun K hK w1 hw1 => ?_); go_simp; refine ⟨R.refl _, hK _ _ ?_⟩; clear hK K)
  cases h0 : same16 (rowAt a 0) (rowAt b 0) with
  | false =>
    have H0 := Lib.hid h0
    clear h0
    iterate 9 refine (hr_skip (by kernel_rfl) ?_)
    (refine hr_plain rfl (fun K hK w1 hw1 => ?_); go_simp; refine ⟨R.refl _, hK _ _ ?_⟩; clear hK K)
    (refine hr_plain rfl (fun K hK w1 hw1 => ?_); go_simp; refine ⟨R.refl _, hK _ _ ?_⟩; clear hK K)
    iterate 9 refine (hr_skip (by kernel_rfl) ?_)
    (refine hr_plain rfl (fun K hK w1 hw1 => ?_); go_simp; refine ⟨R.refl _, hK _ _ ?_⟩; clear hK K)
    (refine hr_plain rfl (fun K hK w1 hw1 => ?_); go_simp; refine ⟨R.refl _, hK _ _ ?_⟩; clear hK K)
    refine hr_nil ?_
    intro W1 hW1 _
    go_wp2_with fail
    go_ret
    exact ⟨congrArg (fun x => Ending.returned (Value.bool x)) (by have h := H0.out; simp only [sameFilm, h, Bool.false_and]), hW1⟩
  | true =>
    have H0 := Lib.hid h0
    clear h0
    (refine (hr_want (by kernel_rfl) (fun K hK w1 hw1 => ?_)); go_simp; refine ⟨R.refl _, hK _ _ ?_⟩; clear hK K)
    (refine (hr_want (by kernel_rfl) (fun K hK w1 hw1 => ?_)); go_simp; refine ⟨R.refl _, hK _ _ ?_⟩; clear hK K)
    (refine (hr_want (by kernel_rfl) (fun K hK w1 hw1 => ?_)); go_simp; refine ⟨R.refl _, hK _ _ ?_⟩; clear hK K)
    (refine (hr_want (by kernel_rfl) (fun K hK w1 hw1 => lrUpon_part rfl (Blk.below hA hw1 hA.lt) 16 16 rfl (by first | decide | omega) Try.underlying26 rfl (by kernel_rfl) (fun N => hK _ _ ?_))); clear hK K)
    (refine (hr_want (by kernel_rfl) (fun K hK w1 hw1 => ?_)); go_simp; refine ⟨R.refl _, hK _ _ ?_⟩; clear hK K)
    (refine (hr_want (by kernel_rfl) (fun K hK w1 hw1 => ?_)); go_simp; refine ⟨R.refl _, hK _ _ ?_⟩; clear hK K)
    (refine (hr_want (by kernel_rfl) (fun K hK w1 hw1 => ?_)); go_simp; refine ⟨R.refl _, hK _ _ ?_⟩; clear hK K)
    (refine (hr_want (by kernel_rfl) (fun K hK w1 hw1 => lrUpon_part rfl (Blk.below hB hw1 hB.lt) 16 16 rfl (by first | decide | omega) Try.underlying26 rfl (by kernel_rfl) (fun N => hK _ _ ?_))); clear hK K)
    (refine (hr_want (by kernel_rfl) (fun K hK w1 hw1 => ?_)); go_simp; refine ⟨R.refl _, (l01SameCurve_any _ _ _).mono ?_, fun u hu => hK _ _ ?_⟩; (rintro e w' ⟨rfl, hb⟩; exact ⟨_, rfl, GS.curves, hb⟩); clear hK K; obtain rfl := hu.inv1; clear hu)
    cases h1 : same16 (rowAt a 16) (rowAt b 16) with
    | false =>
      have H1 := Lib.hid h1
      clear h1
      (refine hr_plain rfl (fun K hK w1 hw1 => ?_); go_simp; refine ⟨R.refl _, hK _ _ ?_⟩; clear hK K)
      (refine hr_plain rfl (fun K hK w1 hw1 => ?_); go_simp; refine ⟨R.refl _, hK _ _ ?_⟩; clear hK K)
      iterate 9 refine (hr_skip (by kernel_rfl) ?_)
      (refine hr_plain rfl (fun K hK w1 hw1 => ?_); go_simp; refine ⟨R.refl _, hK _ _ ?_⟩; clear hK K)
      (refine hr_plain rfl (fun K hK w1 hw1 => ?_); go_simp; refine ⟨R.refl _, hK _ _ ?_⟩; clear hK K)
      refine hr_nil ?_
      intro W1 hW1 _
      go_wp2_with fail
      go_ret
      exact ⟨congrArg (fun x => Ending.returned (Value.bool x)) (by have h := H1.out; simp only [sameFilm, h, Bool.and_false, Bool.false_and]), hW1⟩
    | true =>
      have H1 := Lib.hid h1
      clear h1
      (refine hr_plain rfl (fun K hK w1 hw1 => ?_); go_simp; refine ⟨R.refl _, hK _ _ ?_⟩; clear hK K)
      (refine hr_plain rfl (fun K hK w1 hw1 => ?_); go_simp; refine ⟨R.refl _, hK _ _ ?_⟩; clear hK K)
      (refine (hr_want (by kernel_rfl) (fun K hK w1 hw1 => ?_)); go_simp; refine ⟨R.refl _, hK _ _ ?_⟩; clear hK K)
      (refine (hr_want (by kernel_rfl) (fun K hK w1 hw1 => ?_)); go_simp; refine ⟨R.refl _, hK _ _ ?_⟩; clear hK K)
      (refine (hr_want (by kernel_rfl) (fun K hK w1 hw1 => ?_)); go_simp; refine ⟨R.refl _, hK _ _ ?_⟩; clear hK K)
      (refine (hr_want (by kernel_rfl) (fun K hK w1 hw1 => lrUpon_part rfl (Blk.below hA hw1 hA.lt) 32 16 rfl (by first | decide | omega) Try.underlying26 rfl (by kernel_rfl) (fun N => hK _ _ ?_))); clear hK K)
      (refine (hr_want (by kernel_rfl) (fun K hK w1 hw1 => ?_)); go_simp; refine ⟨R.refl _, hK _ _ ?_⟩; clear hK K)
      (refine (hr_want (by kernel_rfl) (fun K hK w1 hw1 => ?_)); go_simp; refine ⟨R.refl _, hK _ _ ?_⟩; clear hK K)
      (refine (hr_want (by kernel_rfl) (fun K hK w1 hw1 => ?_)); go_simp; refine ⟨R.refl _, hK _ _ ?_⟩; clear hK K)
      (refine (hr_want (by kernel_rfl) (fun K hK w1 hw1 => lrUpon_part rfl (Blk.below hB hw1 hB.lt) 32 16 rfl (by first | decide | omega) Try.underlying26 rfl (by kernel_rfl) (fun N => hK _ _ ?_))); clear hK K)
      (refine (hr_want (by kernel_rfl) (fun K hK w1 hw1 => ?_)); go_simp; refine ⟨R.refl _, (l01SameCurve_any _ _ _).mono ?_, fun u hu => hK _ _ ?_⟩; (rintro e w' ⟨rfl, hb⟩; exact ⟨_, rfl, GS.curves, hb⟩); clear hK K; obtain rfl := hu.inv1; clear hu)
      (refine hr_plain rfl (fun K hK w1 hw1 => ?_); go_simp; refine ⟨R.refl _, hK _ _ ?_⟩; clear hK K)
      (refine hr_plain rfl (fun K hK w1 hw1 => ?_); go_simp; refine ⟨R.refl _, hK _ _ ?_⟩; clear hK K)
      refine hr_nil ?_
      intro W1 hW1 _
      go_wp2_with fail
      go_ret
      exact ⟨congrArg (fun x => Ending.returned (Value.bool x)) (by have h := H0.out; have h' := H1.out; simp only [sameFilm, h, h', Bool.true_and]), hW1⟩
theorem sSameFilm_any (a b : Nat → Nat) (w : World) : Calls Try.prog 9 #[.agg (fA 48 a), .agg (fA 48 b)] w (RetB w (sameFilm a b)) := by
  have hA : Blk ((w.alloc (.cells (fA 48 a) 28)).alloc (.cells (fA 48 b) 28)) w.heap.size 28 (fA 48 a) := (Blk.new _ _ _).alloc _
  have hB : Blk ((w.alloc (.cells (fA 48 a) 28)).alloc (.cells (fA 48 b) 28)) (w.heap.size + 1) 28 (fA 48 b) := Blk.new_at _ _ (by simp) rfl
  have hb : Below w.heap.size w ((w.alloc (.cells (fA 48 a) 28)).alloc (.cells (fA 48 b) 28)) := (by repeat (first | assumption | exact Below.refl _ _ | refine bDrew ?_ _ | refine Below.alloc ?_ (by first | omega | (simp; done) | (simp; omega)) _ | refine Below.setCell ?_ (by first | omega | (simp; done) | (simp; omega)) _ | refine bRow ?_ (by first | omega | (simp; done) | (simp; omega)) _))
  go_enter Try.func9, Try.ntmps9
  go_wp2_with fail
  refine (l02SameFilm_any _ _ _ _ a b ((w.alloc (.cells (fA 48 a) 28)).alloc (.cells (fA 48 b) 28)) hA hB).mono ?_
  rintro e w1 ⟨rfl, hb1⟩
  go_wp2
  go_ret
  exact ⟨rfl, bCall hb hb1 hb.size⟩
end Go.Proofs.Ytfpjiclkhjdihaa
