/- Contracts: how much of a backing is seen. Contracts: how much of a backing is seen, the reference. Contracts: the thickness for a contrast. Contracts: the thickness for a contrast, the second one. -/
import Derived.Test.YtnfnlgmnnjgemaaGreatDoorCon
import Derived.Test.YtnfnlgmnnjgemaaGreatDoorCA
import Derived.Test.YtnfnlgmnnjgemaaGreatDoorCR
import Derived.Test.YtnfnlgmnnjgemaaGreatDoorHeld
import Derived.Deep.Cut
namespace Go.Proofs.YtnfnlgmnnjgemaaGreatDoor
open Go.RowKit
set_option maxRecDepth 100000

theorem paint_congr {w : World} {F : (Nat → Option Nat) × Int} {q q' : Nat → Option Nat} {e : Ending} {w' : World} (h : ∀ i, i < 16 → q i = q' i) (hr : RetCC 16 w (paintMade F q).1 (paintMade F q).2 e w') : RetCC 16 w (paintMade F q').1 (paintMade F q').2 e w' := by
  unfold paintMade at hr ⊢
  split at hr
  · rename_i h0
    rw [if_pos h0]
    have ha : (allTo 16 fun i => gapOk (F.1 (16 + i)) (q i)) = allTo 16 fun i => gapOk (F.1 (16 + i)) (q' i) := allTo_congr fun i hi => by rw [h _ (by omega)]
    have hs : (allTo 16 fun i => share (q i)) = allTo 16 fun i => share (q' i) := allTo_congr fun i hi => by rw [h _ (by omega)]
    unfold overRes at hr ⊢
    rw [ha, hs] at hr
    split at hr
    · rename_i h1
      rw [if_pos h1]
      split at hr
      · rename_i h2
        rw [if_pos h2]
        exact finRes_congr (fun i hi => by unfold overAt; rw [h i (by omega)]) hr
      · rename_i h2
        rw [if_neg h2]
        exact hr
    · rename_i h1
      rw [if_neg h1]
      exact hr
  · rename_i h0
    rw [if_neg h0]
    exact hr
theorem best_congr {lt : Option Nat → Option Nat → Bool} {c d : Nat → Option Nat} : ∀ n, (∀ i, i < n → c i = d i) → bestTo lt c n = bestTo lt d n
  | 0, _ => rfl
  | n + 1, h => by
    have hle : ∀ m, ∀ b, bestTo lt d m = some b → b < m := by
      intro m
      induction m with
      | zero => intro b hb; cases hb
      | succ m ih =>
        intro b hb
        rw [show bestTo lt d (m + 1) = stepTo lt d m (bestTo lt d m) from rfl] at hb
        unfold stepTo at hb
        split at hb
        · split at hb
          · cases hb; omega
          · rename_i b' hb'
            have := ih b' hb'
            split at hb <;> cases hb <;> omega
        · have := ih b hb; omega
    show stepTo lt c n (bestTo lt c n) = stepTo lt d n (bestTo lt d n)
    rw [best_congr n fun i hi => h i (by omega)]
    unfold stepTo
    rw [h n (by omega)]
    split
    · split
      · rfl
      · rename_i b hb
        rw [h b (by have := hle n b hb; omega)]
    · rfl
theorem best_below {lt : Option Nat → Option Nat → Bool} {d : Nat → Option Nat} : ∀ m b, bestTo lt d m = some b → b < m := by
  intro m
  induction m with
  | zero => intro b hb; cases hb
  | succ m ih =>
    intro b hb
    rw [show bestTo lt d (m + 1) = stepTo lt d m (bestTo lt d m) from rfl] at hb
    unfold stepTo at hb
    split at hb
    · split at hb
      · cases hb; omega
      · rename_i b' hb'
        have := ih b' hb'
        split at hb <;> cases hb <;> omega
    · have := ih b hb; omega
theorem end_congr {lt : Option Nat → Option Nat → Bool} {c d : Nat → Option Nat} (h : ∀ i, i < 16 → c i = d i) : endVal c (bestTo lt c 16) = endVal d (bestTo lt d 16) := by
  rw [best_congr 16 h]
  cases hb : bestTo lt d 16 with
  | none => rfl
  | some b => exact h b (best_below 16 b hb)
theorem ne_facts3 {c : Int} (h : ¬ c = 0) : (c == 0) = false ∧ (c != 0) = true := by simp [h]

/-- What two calls give: a curve; a curve with a code. -/
def GP (FC : FuncId) (Q1 Q2 : Value → Prop) (f : FuncId) (_ : Array Value) (u : Value) : Prop := if f == FC then Q1 u else Q2 u
theorem GP.mk1 {FC f : FuncId} {Q1 Q2 : Value → Prop} {args : Array Value} {u : Value} (hf : (f == FC) = true) (h : Q1 u) : GP FC Q1 Q2 f args u := by unfold GP; rw [if_pos hf]; exact h
theorem GP.mk2 {FC f : FuncId} {Q1 Q2 : Value → Prop} {args : Array Value} {u : Value} (hf : (f == FC) ≠ true) (h : Q2 u) : GP FC Q1 Q2 f args u := by unfold GP; rw [if_neg hf]; exact h
theorem GP.of1 {FC f : FuncId} {Q1 Q2 : Value → Prop} {args : Array Value} {u : Value} (hf : (f == FC) = true) (h : GP FC Q1 Q2 f args u) : Q1 u := by unfold GP at h; rw [if_pos hf] at h; exact h
theorem GP.of2 {FC f : FuncId} {Q1 Q2 : Value → Prop} {args : Array Value} {u : Value} (hf : (f == FC) ≠ true) (h : GP FC Q1 Q2 f args u) : Q2 u := by unfold GP at h; rw [if_neg hf] at h; exact h

theorem less_any (x y : Nat) (w : World) : Calls Tryz.prog 54 #[.float .f32 x, .float .f32 y] w (RetFq w (fsub (canon .f32 x) (canon .f32 y))) := by
  go_enter Tryz.func54, Tryz.ntmps54
  go_wp2
  go_ret
  exact ⟨_, rfl, c_sub _ _ _, _, rfl⟩
def finOf (x : Option Nat) : Option Nat × Int := if fin x then (x, 0) else (fzero, 4)
theorem finite_any (a : Nat) (w : World) : Calls Tryz.prog 55 #[.float .f32 a] w (RetFC w (finOf (canon .f32 a)).1 (finOf (canon .f32 a)).2) := by
  go_enter Tryz.func55, Tryz.ntmps55
  go_wp2_with (refine wpList_buildSlice rfl _ _ _ rfl (.slice (some ⟨w.heap.size, 0, none⟩) 1 1) (w.alloc (.cells (fA 1 fun _ => a) 24)) (by kernel_rfl) ?_)
  refine (isFinite_any w.heap.size 1 24 (fun _ => a) _ (Blk.new w _ _) (by decide)).mono ?_
  rintro e w1 ⟨rfl, hb⟩
  have hB : Below w.heap.size w w1 := bCall (by repeat (first | assumption | exact Below.refl _ _ | refine bDrew ?_ _ | refine Below.alloc ?_ (by first | omega | (simp; done) | (simp; omega)) _ | refine Below.setCell ?_ (by first | omega | (simp; done) | (simp; omega)) _ | refine bRow ?_ (by first | omega | (simp; done) | (simp; omega)) _)) hb (by first | omega | (simp; done) | (simp; omega))
  rw [show (allTo 1 fun _ => fin (canon .f32 a)) = fin (canon .f32 a) by simp [allTo]]
  cases hq : fin (canon .f32 a) with
  | false =>
    have Hm : Hid (finOf (canon .f32 a) = (fzero, 4)) := Lib.hid (by unfold finOf; rw [hq]; rfl)
    clear hq
    go_wp2
    go_ret2
    rw [Hm.out]
    exact ⟨_, rfl, rfl, hB⟩
  | true =>
    have Hm : Hid (finOf (canon .f32 a) = (canon .f32 a, 0)) := Lib.hid (by unfold finOf; rw [hq]; rfl)
    clear hq
    go_wp2
    go_ret2
    rw [Hm.out]
    exact ⟨_, rfl, rfl, hB⟩
theorem iContrastOf_any (a : Nat → Nat) (w : World) : Calls Tryz.prog 20 #[.agg (fA 33 a)] w (RetFC w (conMade (filmOfRes a)).1 (conMade (filmOfRes a)).2) := by
  go_enter Tryz.func20, Tryz.ntmps20
  go_wp2_with fail
  obtain ⟨W, hW⟩ : ∃ W : World, W = w.alloc (.cells (fA 33 a) 28) := ⟨_, rfl⟩
  have hA : Blk W w.heap.size 28 (fA 33 a) := by subst hW; exact Blk.new _ _ _
  have hb : Below w.heap.size w W := by subst hW; exact (by repeat (first | assumption | exact Below.refl _ _ | refine bDrew ?_ _ | refine Below.alloc ?_ (by first | omega | (simp; done) | (simp; omega)) _ | refine Below.setCell ?_ (by first | omega | (simp; done) | (simp; omega)) _ | refine bRow ?_ (by first | omega | (simp; done) | (simp; omega)) _))
  rw [← hW]
  clear hW
  have hlt0 := hA.lt
  refine wp_region_lr_late 7 5 (GP 52 (IsC 16 fun _ => fone) (IsCC 16 (paintMade (filmOfRes a) fun _ => fone).1 (paintMade (filmOfRes a) fun _ => fone).2)) (by kernel_rfl) (by kernel_rfl) (fun _ _ d _ _ h => by cases d <;> exact h) ?_
  simp only [List.take_succ_cons, List.take_zero, List.drop_succ_cons, List.drop_zero]
  (refine wpLR_plain rfl (fun K hK w1 hw1 => lrUpon_load rfl _ rfl _ _ _ _ (Blk.below hA hw1 hA.lt) Tryz.underlying28 rfl (by kernel_rfl) (fun N => hK _ _ ?_)); clear hK K)
  (refine wpLR_plain rfl (fun K hK w1 hw1 => ?_); go_simp; refine ⟨R.refl _, (iFlatCurve_any _ _).mono ?_, fun u hu => hK _ _ ?_⟩; (intro e w' h; obtain ⟨u, hu, hq, hb⟩ := h.is; exact ⟨u, hu, .mk1 (by decide) hq, hb⟩); clear hK K; obtain ⟨r1, rfl, H1⟩ := hu.of1 (by decide); clear hu)
  (refine wpLR_plain rfl (fun K hK w1 hw1 => ?_); go_simp; refine ⟨R.refl _, (iPaintOver_any a r1 _).mono ?_, fun u hu => hK _ _ ?_⟩; (intro e w' h; have h := paint_congr (q' := fun _ => fone) H1.out h; obtain ⟨u, hu, hq, hb⟩ := h.is; exact ⟨u, hu, .mk2 (by decide) hq, hb⟩); clear hK K H1; obtain ⟨s1, rfl, Hs1⟩ := hu.of2 (by decide); clear hu)
  (refine wpLR_plain rfl (fun K hK w1 hw1 => ?_); go_simp; refine ⟨R.refl _, hK _ _ ?_⟩; clear hK K)
  (refine wpLR_plain rfl (fun K hK w1 hw1 => ?_); go_simp; refine ⟨R.refl _, hK _ _ ?_⟩; clear hK K)
  (refine wpLR_plain rfl (fun K hK w1 hw1 => ?_); go_simp; refine ⟨R.refl _, hK _ _ ?_⟩; clear hK K)
  (refine wpLR_plain rfl (fun K hK v0 hv0 => ?_); go_simp; refine ⟨Below.alloc (Below.refl _ _) (Nat.le_refl _) _, hK _ _ ?_⟩; clear hK K)
  refine wpLR_nil ?_
  intro W1 hW1 hS
  have hZ : Blk W1 v0.heap.size 26 (fA 16 fun _ => 0) := (Blk.new _ _ _).below hS.2 (Blk.new _ _ _).lt
  clear hS
  have hA := hA.below hW1 hA.lt
  have hb := bCall hb hW1 hb.size
  have hg : w.heap.size < v0.heap.size := by have := hv0.size; omega
  generalize hE1 : (paintMade (filmOfRes a) fun _ => fone).2 = c1 at *
  by_cases hc : c1 = 0
  · subst hc
    have E1 := Lib.hid hE1
    clear hE1
    go_wp2_with (refine wpList_store_row rfl 26 _ _ rfl _ _ rfl rfl _ _ hZ (by kernel_rfl) (by simp only [size_fA]) (all_fA _ _) ?_)
    obtain ⟨W2, hW⟩ : ∃ W2 : World, W2 = W1.setRow v0.heap.size (fA 16 s1) := ⟨_, rfl⟩
    have hA : Blk W2 w.heap.size 28 (fA 33 a) := by subst hW; exact hA.farRow (by omega)
    have hK : Blk W2 v0.heap.size 26 (fA 16 s1) := by subst hW; exact hZ.setRow
    have hb : Below w.heap.size w W2 := by subst hW; exact bRow hb (by omega) _
    rw [← hW]
    clear hW hZ hW1
    have hlt1 := hK.lt
    refine wp_region_lr_late 7 5 (GP 52 (IsC 16 fun _ => fzero) (IsCC 16 (paintMade (filmOfRes a) fun _ => fzero).1 (paintMade (filmOfRes a) fun _ => fzero).2)) (by kernel_rfl) (by kernel_rfl) (fun _ _ d _ _ h => by cases d <;> exact h) ?_
    simp only [List.take_succ_cons, List.take_zero, List.drop_succ_cons, List.drop_zero]
    (refine wpLR_plain rfl (fun K hK w1 hw1 => lrUpon_load rfl _ rfl _ _ _ _ (Blk.below hA hw1 hA.lt) Tryz.underlying28 rfl (by kernel_rfl) (fun N => hK _ _ ?_)); clear hK K)
    (refine wpLR_plain rfl (fun K hK w1 hw1 => ?_); go_simp; refine ⟨R.refl _, (iFlatCurve_any _ _).mono ?_, fun u hu => hK _ _ ?_⟩; (intro e w' h; obtain ⟨u, hu, hq, hb⟩ := h.is; exact ⟨u, hu, .mk1 (by decide) hq, hb⟩); clear hK K; obtain ⟨r1, rfl, H1⟩ := hu.of1 (by decide); clear hu)
    (refine wpLR_plain rfl (fun K hK w1 hw1 => ?_); go_simp; refine ⟨R.refl _, (iPaintOver_any a r1 _).mono ?_, fun u hu => hK _ _ ?_⟩; (intro e w' h; have h := paint_congr (q' := fun _ => fzero) H1.out h; obtain ⟨u, hu, hq, hb⟩ := h.is; exact ⟨u, hu, .mk2 (by decide) hq, hb⟩); clear hK K H1; obtain ⟨s2, rfl, Hs2⟩ := hu.of2 (by decide); clear hu)
    (refine wpLR_plain rfl (fun K hK w1 hw1 => ?_); go_simp; refine ⟨R.refl _, hK _ _ ?_⟩; clear hK K)
    (refine wpLR_plain rfl (fun K hK w1 hw1 => ?_); go_simp; refine ⟨R.refl _, hK _ _ ?_⟩; clear hK K)
    (refine wpLR_plain rfl (fun K hK w1 hw1 => ?_); go_simp; refine ⟨R.refl _, hK _ _ ?_⟩; clear hK K)
    (refine wpLR_plain rfl (fun K hK v1 hv1 => ?_); go_simp; refine ⟨Below.alloc (Below.refl _ _) (Nat.le_refl _) _, hK _ _ ?_⟩; clear hK K)
    refine wpLR_nil ?_
    intro W1 hW1 hS
    have hZ : Blk W1 v1.heap.size 26 (fA 16 fun _ => 0) := (Blk.new _ _ _).below hS.2 (Blk.new _ _ _).lt
    clear hS
    have hA := hA.below hW1 hA.lt
    have hK := hK.below hW1 hK.lt
    have hb := bCall hb hW1 hb.size
    have hg1 : v0.heap.size < v1.heap.size := by have := hv1.size; omega
    generalize hE2 : (paintMade (filmOfRes a) fun _ => fzero).2 = c2 at *
    by_cases hc : c2 = 0
    · subst hc
      have E2 := Lib.hid hE2
      clear hE2
      have Hf : Hid (fin (endVal (conD (filmOfRes a)) (bestTo fgt (conD (filmOfRes a)) 16)) = true) := Lib.hid (con_fin E1.out E2.out)
      have Hm : Hid (conMade (filmOfRes a) = (endVal (conD (filmOfRes a)) (bestTo fgt (conD (filmOfRes a)) 16), 0)) := Lib.hid (by unfold conMade; rw [if_pos E1.out, if_pos E2.out])
      have hL : Blk (W1.setRow v1.heap.size (fA 16 s2)) v1.heap.size 26 (fA 16 s2) := hZ.setRow
      have hK : Blk (W1.setRow v1.heap.size (fA 16 s2)) v0.heap.size 26 (fA 16 s1) := hK.farRow (by omega)
      have hb : Below w.heap.size w (W1.setRow v1.heap.size (fA 16 s2)) := bRow hb (by omega) _
      go_wp2_with (first | (refine wpList_store_row rfl 26 _ _ rfl _ _ rfl rfl _ _ hZ (by kernel_rfl) (by simp only [size_fA]) (all_fA _ _) ?_) | (refine wpList_load_row rfl 26 _ rfl _ rfl _ _ (0, 0) _ hK Tryz.underlying26 rfl (by kernel_rfl) ?_) | (refine wpList_load_row rfl 26 _ rfl _ rfl _ _ (0, 0) _ hL Tryz.underlying26 rfl (by kernel_rfl) ?_))
      refine (with_any 54 #[] fsub s1 s2 _ (fun _ _ => by kernel_rfl) (fun x y w1 _ => (less_any x y w1).mono fun _ _ h => h.to)).mono ?_
      rintro e w5 ⟨d, rfl, hd, hb1⟩
      have hb := bCall hb hb1 hb.size; clear hb1
      have HD : Hid (∀ i, i < 16 → canon .f32 (d i) = conD (filmOfRes a) i) := Lib.hid (fun i hi => by rw [hd i hi]; show fsub (canon .f32 (s1 i)) (canon .f32 (s2 i)) = _; rw [Hs1.out i hi, Hs2.out i hi]; rfl)
      clear hd hK hL hZ
      go_wp2_with fail
      refine (iGreatestOf_any d _).mono ?_
      rintro e w6 ⟨m, rfl, hr, hb1⟩
      rw [end_congr HD.out] at hr
      have hb := bCall hb hb1 hb.size; clear hb1
      have HM := Lib.hid hr
      clear hr HD
      go_wp2_with fail
      refine (finite_any m _).mono ?_
      have ef : Hid (finOf (canon .f32 m) = (endVal (conD (filmOfRes a)) (bestTo fgt (conD (filmOfRes a)) 16), 0)) := Lib.hid (by unfold finOf; rw [HM.out, if_pos Hf.out])
      rw [ef.out]
      rintro e w7 ⟨r, rfl, hr, hb1⟩
      have hb := bCall hb hb1 hb.size; clear hb1
      have HR := Lib.hid hr
      clear hr
      go_wp2
      go_ret2
      rw [Hm.out]
      exact ⟨_, rfl, HR.out, hb⟩
    · obtain ⟨h1, h2⟩ := ne_facts3 hc
      have Hm : Hid (conMade (filmOfRes a) = (fzero, c2)) := Lib.hid (by unfold conMade; simp only [E1.out, hE2, hc, if_true, if_false])
      go_wp2_with (refine wpList_store_row rfl 26 _ _ rfl _ _ rfl rfl _ _ hZ (by kernel_rfl) (by simp only [size_fA]) (all_fA _ _) ?_)
      go_ret2
      rw [Hm.out]
      exact ⟨_, rfl, rfl, bRow hb (by omega) _⟩
  · obtain ⟨h1, h2⟩ := ne_facts3 hc
    have Hm : Hid (conMade (filmOfRes a) = (fzero, c1)) := Lib.hid (by unfold conMade; simp only [hE1, hc, if_false])
    go_wp2_with (refine wpList_store_row rfl 26 _ _ rfl _ _ rfl rfl _ _ hZ (by kernel_rfl) (by simp only [size_fA]) (all_fA _ _) ?_)
    go_ret2
    rw [Hm.out]
    exact ⟨_, rfl, rfl, bRow hb (by omega) _⟩
end Go.Proofs.YtnfnlgmnnjgemaaGreatDoor

namespace Go.Proofs.YtnfnlgmnnjgemaaGreatDoor
open Go.RowKit
set_option maxRecDepth 100000

end Go.Proofs.YtnfnlgmnnjgemaaGreatDoor

namespace Go.Proofs.YtnfnlgmnnjgemaaGreatDoor
open Go.RowKit
set_option maxRecDepth 100000

def layP (K S : Nat → Option Nat) (x : Option Nat) : Nat → Option Nat := fun j => if j < 16 then K j else if j < 32 then S (j - 16) else x
def eighth (n : Nat) : Option Nat := fdiv (fint n) (canon .f32 1090519040)
def conAt (K S : Nat → Option Nat) (n : Nat) : Option Nat × Int := conMade (filmMade (layP K S (eighth n)))
def thickFrom (K S : Nat → Option Nat) (con : Option Nat) : Nat → Nat → Option Nat × Int
  | 0, _ => (fzero, 6)
  | f + 1, n => if (conAt K S n).2 = 3 then (fzero, 6) else if (conAt K S n).2 = 0 then if fle (conAt K S n).1 con then (eighth n, 0) else thickFrom K S con f (n + 1) else (fzero, (conAt K S n).2)
def thickForRes (K S : Nat → Option Nat) (con : Option Nat) : Option Nat × Int :=
  if (allTo 16 fun i => amount (K i)) && (allTo 16 fun i => amount (S i)) then if share con then thickFrom K S con 256 1 else (fzero, 2) else (fzero, 1)

theorem filmAt_congr {p q : Nat → Option Nat} (h : ∀ i, i < 33 → p i = q i) : ∀ i, i < 48 → filmAt p i = filmAt q i := by
  intro i hi
  unfold filmAt
  rw [h 32 (by omega)]
  by_cases h1 : i < 16
  · rw [if_pos h1, if_pos h1, h i (by omega), h (16 + i) (by omega)]
  · rw [if_neg h1, if_neg h1]
    by_cases h2 : i < 32
    · rw [if_pos h2, if_pos h2, h i (by omega), h (i - 16) (by omega)]
    · rw [if_neg h2, if_neg h2, h (i - 32) (by omega), h (i - 16) (by omega)]
theorem filmMade_congr {p q : Nat → Option Nat} (h : ∀ i, i < 33 → p i = q i) : (filmMade p).2 = (filmMade q).2 ∧ ∀ i, i < 48 → (filmMade p).1 i = (filmMade q).1 i := by
  unfold filmMade
  have e1 : (allTo 16 fun i => !tooStrong (p i) (p (16 + i)) (thinX (p 32))) = allTo 16 fun i => !tooStrong (q i) (q (16 + i)) (thinX (q 32)) := allTo_congr fun i hi => by rw [h i (by omega), h (16 + i) (by omega), h 32 (by omega)]
  rw [e1]
  have hf := filmAt_congr h
  have e2 : finFilm (filmAt p) = finFilm (filmAt q) := by
    unfold finFilm
    rw [allTo_congr (q := fun i => fin (filmAt q i)) fun i hi => by rw [hf i (by omega)], allTo_congr (p := fun i => fin (filmAt p (16 + i))) (q := fun i => fin (filmAt q (16 + i))) fun i hi => by rw [hf _ (by omega)],
      allTo_congr (p := fun i => fin (filmAt p (32 + i))) (q := fun i => fin (filmAt q (32 + i))) fun i hi => by rw [hf _ (by omega)]]
  by_cases hs : (allTo 16 fun i => !tooStrong (q i) (q (16 + i)) (thinX (q 32))) = true
  · rw [if_pos hs, if_pos hs]
    unfold finFilmRes
    rw [e2]
    by_cases hq : finFilm (filmAt q) = true
    · rw [if_pos hq, if_pos hq]
      exact ⟨rfl, hf⟩
    · rw [if_neg hq, if_neg hq]
      exact ⟨rfl, fun _ _ => rfl⟩
  · rw [if_neg hs, if_neg hs]
    exact ⟨rfl, fun _ _ => rfl⟩
theorem paintMade_congr {F G : (Nat → Option Nat) × Int} (x : Option Nat) (h2 : F.2 = G.2) (h1 : ∀ i, i < 48 → F.1 i = G.1 i) : (paintMade F fun _ => x).2 = (paintMade G fun _ => x).2 ∧ ∀ i, i < 16 → (paintMade F fun _ => x).1 i = (paintMade G fun _ => x).1 i := by
  unfold paintMade
  rw [h2]
  by_cases h0 : G.2 = 0
  · rw [if_pos h0, if_pos h0]
    unfold overRes
    have ha : (allTo 16 fun i => gapOk (F.1 (16 + i)) x) = allTo 16 fun i => gapOk (G.1 (16 + i)) x := allTo_congr fun i hi => by rw [h1 _ (by omega)]
    have ho : ∀ i, i < 16 → overAt F.1 (fun _ => x) i = overAt G.1 (fun _ => x) i := fun i hi => by unfold overAt; rw [h1 i (by omega), h1 (16 + i) (by omega), h1 (32 + i) (by omega)]
    have hf : (allTo 16 fun i => fin (overAt F.1 (fun _ => x) i)) = allTo 16 fun i => fin (overAt G.1 (fun _ => x) i) := allTo_congr fun i hi => by rw [ho i hi]
    rw [ha]
    by_cases s1 : (allTo 16 fun _ => share x) = true
    · rw [if_pos s1, if_pos s1]
      by_cases s2 : (allTo 16 fun i => gapOk (G.1 (16 + i)) x) = true
      · rw [if_pos s2, if_pos s2]
        unfold finRes
        rw [hf]
        by_cases s3 : (allTo 16 fun i => fin (overAt G.1 (fun _ => x) i)) = true
        · rw [if_pos s3, if_pos s3]
          exact ⟨rfl, ho⟩
        · rw [if_neg s3, if_neg s3]
          exact ⟨rfl, fun _ _ => rfl⟩
      · rw [if_neg s2, if_neg s2]
        exact ⟨rfl, fun _ _ => rfl⟩
    · rw [if_neg s1, if_neg s1]
      exact ⟨rfl, fun _ _ => rfl⟩
  · rw [if_neg h0, if_neg h0]
    exact ⟨rfl, fun _ _ => rfl⟩
theorem conMade_congr {p q : Nat → Option Nat} (h : ∀ i, i < 33 → p i = q i) : conMade (filmMade p) = conMade (filmMade q) := by
  obtain ⟨h1, h2⟩ := filmMade_congr h
  obtain ⟨a1, a2⟩ := paintMade_congr fone h1 h2
  obtain ⟨b1, b2⟩ := paintMade_congr fzero h1 h2
  have e : endVal (conD (filmMade p)) (bestTo fgt (conD (filmMade p)) 16) = endVal (conD (filmMade q)) (bestTo fgt (conD (filmMade q)) 16) := end_congr fun i hi => by unfold conD; rw [a2 i hi, b2 i hi]
  unfold conMade
  rw [a1, b1, e]
theorem eighth_amount : ∀ n, n < 257 → amount (eighth n) = true := by decide +kernel
theorem from_stop {K S : Nat → Option Nat} {con : Option Nat} {f n : Nat} (h : (conAt K S n).2 = 3) : thickFrom K S con (f + 1) n = (fzero, 6) := by
  show (if _ then _ else _) = _
  rw [if_pos h]
theorem from_bad {K S : Nat → Option Nat} {con : Option Nat} {f n : Nat} (h : ¬ (conAt K S n).2 = 3) (h0 : ¬ (conAt K S n).2 = 0) : thickFrom K S con (f + 1) n = (fzero, (conAt K S n).2) := by
  show (if _ then _ else _) = _
  rw [if_neg h, if_neg h0]
theorem from_hit {K S : Nat → Option Nat} {con : Option Nat} {f n : Nat} (h0 : (conAt K S n).2 = 0) (hc : fle (conAt K S n).1 con = true) : thickFrom K S con (f + 1) n = (eighth n, 0) := by
  show (if _ then _ else _) = _
  rw [if_neg (by rw [h0]; decide), if_pos h0, if_pos hc]
theorem from_next {K S : Nat → Option Nat} {con : Option Nat} {f n : Nat} (h0 : (conAt K S n).2 = 0) (hc : fle (conAt K S n).1 con = false) : thickFrom K S con (f + 1) n = thickFrom K S con f (n + 1) := by
  show (if _ then _ else _) = _
  rw [if_neg (by rw [h0]; decide), if_pos h0, if_neg (by rw [hc]; decide)]

end Go.Proofs.YtnfnlgmnnjgemaaGreatDoor

namespace Go.Proofs.YtnfnlgmnnjgemaaGreatDoor
open Go.RowKit
set_option maxRecDepth 100000

theorem layerOk_zero (k s : Nat → Nat) : layerOk (layer3 k s 0) = ((allTo 16 fun i => amount (canon .f32 (k i))) && (allTo 16 fun i => amount (canon .f32 (s i)))) := by
  unfold layerOk
  have e1 : (allTo 16 fun i => amount (canon .f32 (rowAt (layer3 k s 0) 0 i))) = allTo 16 fun i => amount (canon .f32 (k i)) := allTo_congr fun i hi => by
    unfold rowAt layer3
    rw [Nat.zero_add, if_pos hi]
  have e2 : (allTo 16 fun i => amount (canon .f32 (rowAt (layer3 k s 0) 16 i))) = allTo 16 fun i => amount (canon .f32 (s i)) := allTo_congr fun i hi => by
    unfold rowAt layer3
    rw [if_neg (by omega), if_pos (by omega), Nat.add_sub_cancel_left]
  have e3 : amount (canon .f32 (layer3 k s 0 32)) = true := by show amount (canon .f32 0) = true; decide
  rw [e1, e2, e3, Bool.and_true]
/-- A layer of a thickness, known up to a NaN: its contrast. -/
theorem con_of {k s a : Nat → Nat} {n : Nat} (hn : n < 257) (hk : (allTo 16 fun i => amount (canon .f32 (k i))) = true) (hs : (allTo 16 fun i => amount (canon .f32 (s i))) = true)
    (h : ∀ i, i < 33 → canon .f32 (a i) = layP (fun i => canon .f32 (k i)) (fun i => canon .f32 (s i)) (eighth n) i) : conMade (filmOfRes a) = conAt (fun i => canon .f32 (k i)) (fun i => canon .f32 (s i)) n := by
  have hl : layerOk a = true := by
    unfold layerOk
    have e1 : (allTo 16 fun i => amount (canon .f32 (rowAt a 0 i))) = true := by
      rw [← hk]
      exact allTo_congr fun i hi => by unfold rowAt; rw [Nat.zero_add, h i (by omega)]; unfold layP; rw [if_pos hi]
    have e2 : (allTo 16 fun i => amount (canon .f32 (rowAt a 16 i))) = true := by
      rw [← hs]
      exact allTo_congr fun i hi => by unfold rowAt; rw [h (16 + i) (by omega)]; unfold layP; rw [if_neg (by omega), if_pos (by omega), Nat.add_sub_cancel_left]
    have e3 : amount (canon .f32 (a 32)) = true := by rw [h 32 (by omega)]; exact eighth_amount n hn
    rw [e1, e2, e3]
    rfl
  have e : filmOfRes a = filmMade (fun i => canon .f32 (a i)) := by unfold filmOfRes; rw [if_pos hl]
  rw [e]
  exact conMade_congr h
end Go.Proofs.YtnfnlgmnnjgemaaGreatDoor
