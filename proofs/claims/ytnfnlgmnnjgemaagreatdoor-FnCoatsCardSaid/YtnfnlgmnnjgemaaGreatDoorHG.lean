/- The texts of layers. -/
import Derived.Test.YtnfnlgmnnjgemaaGreatDoorHF
import Derived.Test.YtnfnlgmnnjgemaaGreatDoorOpenB
import Derived.Test.YtnfnlgmnnjgemaaGreatDoorCP
import Derived.Test.YtnfnlgmnnjgemaaGreatDoorCN
import Derived.Laws.Concat
namespace Go.Proofs.YtnfnlgmnnjgemaaGreatDoor
open Go.RowKit
set_option maxRecDepth 100000

theorem rowT_congr {x y : Nat → Nat} (n : Nat) (h : ∀ i, i < n → x i = y i) : rowT x n = rowT y n := by
  induction n with
  | zero => rfl
  | succ n ih => unfold rowT; rw [ih fun i hi => h i (by omega), h n (by omega)]
/-- The text of a number or of a curve. -/
def valT : Value → ByteArray
  | .agg cs => rowT (fun i => match cs[i]? with | some (.float _ b) => bitsOf (canon .f32 b) | _ => 0) 16
  | .float _ b => hexT (bitsOf (canon .f32 b))
  | _ => ⟨#[]⟩
theorem valT_row (c x : Nat → Nat) (hx : ∀ i, i < 16 → bitsOf (canon .f32 (c i)) = x i) : valT (.agg (fA 16 c)) = rowT x 16 :=
  rowT_congr 16 fun i hi => by rw [get_fA_lt c hi]; exact hx i hi
theorem valT_size_row (c : Nat → Nat) : (valT (.agg (fA 16 c))).size ≤ 144 := rowT_size _ 16
theorem valT_size (b : Nat) : (valT (.float .f32 b)).size = 8 := hexT_size _
def GT (_ : FuncId) (args : Array Value) (u : Value) : Prop := u = .string (valT (args.getD 0 undef))
section
variable (c : Nat → Nat) (hl : ∀ i, i < 16 → bitsOf (canon .f32 (c i)) < 4294967296) (w : World)
include hl
theorem iCurveText_val (ht : Tab w) : Calls Tryz.prog 36 #[.agg (fA 16 c)] w fun e w' => e = .returned (.string (valT (.agg (fA 16 c)))) ∧ Below w.heap.size w w' := by
  rw [valT_row c _ fun i _ => rfl]
  exact iCurveText_all c _ w ht (fun i _ => rfl) fun i hi => hl i hi
end
/-- The text of a layer. -/
def layerT (a : Nat → Nat) : ByteArray := valT (.agg (fA 16 (rowAt a 0))) ++ ⟨#[10]⟩ ++ valT (.agg (fA 16 (rowAt a 16))) ++ ⟨#[10]⟩ ++ valT (.float .f32 (a 32)) ++ ⟨#[10]⟩
section
variable {P : Program}
theorem add_small (a b : ByteArray) (h : a.size + b.size ≤ 1000) (w : World) : (Op.stringOp .add a b).run P w = .ok (.string (a ++ b)) w := run_string_add_sum w a b (by omega)
end
def textOf (a : Nat → Nat) : ByteArray := if layerOk a then layerT a else ⟨#[]⟩
theorem iLayerText_wd (a : Nat → Nat) (w : World) (ht : Tab w) (hl : ∀ i, i < 33 → bitsOf (canon .f32 (a i)) < 4294967296) : Calls Tryz.prog 11 #[.agg (fA 33 a)] w fun e w' => e = .returned (.string (textOf a)) ∧ Below w.heap.size w w' := by
  have hA0 : Blk (w.alloc (.cells (fA 33 a) 28)) w.heap.size 28 (fA 33 a) := Blk.new _ _ _
  have hlt0 : 8 < w.heap.size := ht.lt
  go_enter Tryz.func11, Tryz.ntmps11
  go_wp2_with (refine wpList_load_row rfl 28 _ rfl _ rfl _ _ (0, 0) _ hA0 Tryz.underlying28 rfl (by kernel_rfl) ?_)
  refine (iValidLayer_any a _).mono ?_
  rintro e w1 ⟨rfl, hb1⟩
  have hA := hA0.below hb1 hA0.lt
  have hb : Below w.heap.size w w1 := bCall (by repeat (first | assumption | exact Below.refl _ _ | refine bDrew ?_ _ | refine Below.alloc ?_ (by first | omega | (simp; done) | (simp; omega)) _ | refine Below.setCell ?_ (by first | omega | (simp; done) | (simp; omega)) _ | refine bRow ?_ (by first | omega | (simp; done) | (simp; omega)) _)) hb1 (by first | omega | (simp; done) | (simp; omega))
  clear hA0 hb1
  cases hok : layerOk a with
  | false =>
    go_wp2
    go_ret
    exact ⟨by unfold textOf; rw [hok]; rfl, hb⟩
  | true =>
    have Ht := Lib.hid (ht.below hb hlt0)
    have hlt1 := hA.lt
    have hz := hb.size
    have h1 := iCurveText_val (rowAt a 0) fun i hi => hl _ (by omega)
    have h2 := iCurveText_val (rowAt a 16) fun i hi => hl _ (by omega)
    have h3 : ∀ w, Tab w → Calls Tryz.prog 37 #[.float .f32 (a 32)] w fun e w' => e = .returned (.string (valT (.float .f32 (a 32)))) ∧ Below w.heap.size w w' := fun w ht => iNumberText_all _ _ w ht rfl (hl 32 (by omega))
    have s1 := valT_size_row (rowAt a 0)
    have s2 := valT_size_row (rowAt a 16)
    have s3 := valT_size (a 32)
    obtain ⟨R0, hR0⟩ : ∃ R, R = layerT a := ⟨_, rfl⟩
    have hR := hR0
    unfold layerT at hR
    generalize e1 : valT (.agg (fA 16 (rowAt a 0))) = T1 at *
    generalize e2 : valT (.agg (fA 16 (rowAt a 16))) = T2 at *
    generalize e3 : valT (.float .f32 (a 32)) = T3 at *
    have n1 : (⟨#[10]⟩ : ByteArray).size = 1 := rfl
    have a1 := add_small (P := Tryz.prog) T1 ⟨#[10]⟩ (by omega)
    have a2 := add_small (P := Tryz.prog) (T1 ++ ⟨#[10]⟩) T2 (by simp only [ByteArray.size_append]; omega)
    have a3 := add_small (P := Tryz.prog) (T1 ++ ⟨#[10]⟩ ++ T2) ⟨#[10]⟩ (by simp only [ByteArray.size_append]; omega)
    have a4 := add_small (P := Tryz.prog) (T1 ++ ⟨#[10]⟩ ++ T2 ++ ⟨#[10]⟩) T3 (by simp only [ByteArray.size_append]; omega)
    have a5 := add_small (P := Tryz.prog) (T1 ++ ⟨#[10]⟩ ++ T2 ++ ⟨#[10]⟩ ++ T3) ⟨#[10]⟩ (by simp only [ByteArray.size_append]; omega)
    go_wp2_with fail
    refine wp_region_lr GT (by kernel_rfl) (by kernel_rfl) ?_
    ((refine wpLR_plain rfl (fun K hK w1 hw1 => ?_); go_simp; refine ⟨R.refl _, hK _ _ ?_⟩; clear hK K))
    ((refine wpLR_plain rfl (fun K hK w1 hw1 => lrUpon_part rfl (Blk.below hA hw1 hA.lt) (0) 16 rfl (by first | decide | omega) Tryz.underlying26 rfl (by kernel_rfl) (fun N => hK _ _ ?_)); clear hK K))
    (refine wpLR_plain rfl (fun K hK w2 hw1 => ?_); go_simp; refine ⟨R.refl _, (h1 _ (Ht.out.below hw1 (by omega))).mono ?_, fun u hu => hK _ _ ?_⟩; (rintro e w' ⟨rfl, hb⟩; exact ⟨_, rfl, congrArg Value.string e1.symm, hb⟩); clear hK K; have hu2 : u = .string T1 := Eq.trans hu (congrArg Value.string e1); clear hu; subst hu2)
    ((refine wpLR_plain rfl (fun K hK w1 hw1 => ?_); go_simp; refine ⟨R.refl _, hK _ _ ?_⟩; clear hK K))
    ((refine wpLR_plain rfl (fun K hK w1 hw1 => ?_); go_simp; refine ⟨R.refl _, hK _ _ ?_⟩; clear hK K))
    ((refine wpLR_plain rfl (fun K hK w1 hw1 => lrUpon_part rfl (Blk.below hA hw1 hA.lt) (16) 16 rfl (by first | decide | omega) Tryz.underlying26 rfl (by kernel_rfl) (fun N => hK _ _ ?_)); clear hK K))
    (refine wpLR_plain rfl (fun K hK w2 hw1 => ?_); go_simp; refine ⟨R.refl _, (h2 _ (Ht.out.below hw1 (by omega))).mono ?_, fun u hu => hK _ _ ?_⟩; (rintro e w' ⟨rfl, hb⟩; exact ⟨_, rfl, congrArg Value.string e2.symm, hb⟩); clear hK K; have hu2 : u = .string T2 := Eq.trans hu (congrArg Value.string e2); clear hu; subst hu2)
    ((refine wpLR_plain rfl (fun K hK w1 hw1 => ?_); go_simp; refine ⟨R.refl _, hK _ _ ?_⟩; clear hK K))
    ((refine wpLR_plain rfl (fun K hK w1 hw1 => ?_); go_simp; refine ⟨R.refl _, hK _ _ ?_⟩; clear hK K))
    ((refine wpLR_plain rfl (fun K hK w1 hw1 => ?_); go_simp; refine ⟨R.refl _, hK _ _ ?_⟩; clear hK K))
    (refine wpLR_plain rfl (fun K hK w2 hw1 => ?_); have c1 := ((Blk.below hA hw1 hA.lt).cell 32).trans (get_fA_lt a (by omega)); go_simp; refine ⟨R.refl _, hK _ _ ?_⟩; clear hK K)
    (refine wpLR_plain rfl (fun K hK w2 hw1 => ?_); go_simp; refine ⟨R.refl _, (h3 _ (Ht.out.below hw1 (by omega))).mono ?_, fun u hu => hK _ _ ?_⟩; (rintro e w' ⟨rfl, hb⟩; exact ⟨_, rfl, congrArg Value.string e3.symm, hb⟩); clear hK K; have hu2 : u = .string T3 := Eq.trans hu (congrArg Value.string e3); clear hu; subst hu2)
    ((refine wpLR_plain rfl (fun K hK w1 hw1 => ?_); go_simp; refine ⟨R.refl _, hK _ _ ?_⟩; clear hK K))
    ((refine wpLR_plain rfl (fun K hK w1 hw1 => ?_); go_simp; refine ⟨R.refl _, hK _ _ ?_⟩; clear hK K))
    ((refine wpLR_plain rfl (fun K hK w1 hw1 => ?_); go_simp; refine ⟨R.refl _, hK _ _ ?_⟩; clear hK K))
    refine wpLR_nil ?_
    intro W1 hW1 _
    have hb := bCall hb hW1 hz
    go_wp2
    go_ret
    exact ⟨by unfold textOf; rw [hok, if_pos rfl, ← hR0, hR]; rfl, hb⟩
theorem iLayerText_all (a : Nat → Nat) (w : World) (ht : Tab w) (hl : ∀ i, i < 33 → a i < 4294967296) : Calls Tryz.prog 11 #[.agg (fA 33 a)] w fun e w' => e = .returned (.string (textOf a)) ∧ Below w.heap.size w w' := iLayerText_wd a w ht fun i hi => bits_lt (hl i hi)
end Go.Proofs.YtnfnlgmnnjgemaaGreatDoor
