/- Contracts: how much of a backing is seen. Contracts: how much of a backing is seen, the reference. Contracts: the thickness for a contrast. Contracts: the thickness for a contrast, the second one. -/
import Derived.Test.YtfpjiclkhjdihaaCon
import Derived.Test.YtfpjiclkhjdihaaCA
import Derived.Test.YtfpjiclkhjdihaaCR
import Derived.Test.YtfpjiclkhjdihaaHeld
import Derived.Deep.Cut
namespace Go.Proofs.Ytfpjiclkhjdihaa
open Go.RowKit
set_option maxRecDepth 100000

theorem paint_congr {w : World} {F : (Nat → Option Nat) × Int} {q q' : Nat → Option Nat} {e : Ending} {w' : World} (h : ∀ i, i < 16 → q i = q' i) (hr : RetCC 16 w (paintMade F q).1 (paintMade F q).2 e w') : RetCC 16 w (paintMade F q').1 (paintMade F q').2 e w' := by
  unfold paintMade at hr ⊢
  split at hr
  · rename_i h0
    rw [if_pos h0]
    have ha : (allTo 16 fun i => gapOk (F.1 (16 + i)) (q i)) = allTo 16 fun i => gapOk (F.1 (16 + i)) (q' i) := allTo_congr fun i hi => by rw [h _ (by omega)]
    have hs : (allTo 16 fun i => share (q i)) = allTo 16 fun i => share (q' i) := allTo_congr fun i hi => by rw [h _ (by omega)]
    unfold overRes at hr ⊢
    rw [ha, hs] at hr
    split at hr
    · rename_i h1
      rw [if_pos h1]
      split at hr
      · rename_i h2
        rw [if_pos h2]
        exact finRes_congr (fun i hi => by unfold overAt; rw [h i (by omega)]) hr
      · rename_i h2
        rw [if_neg h2]
        exact hr
    · rename_i h1
      rw [if_neg h1]
      exact hr
  · rename_i h0
    rw [if_neg h0]
    exact hr
theorem best_congr {lt : Option Nat → Option Nat → Bool} {c d : Nat → Option Nat} : ∀ n, (∀ i, i < n → c i = d i) → bestTo lt c n = bestTo lt d n
  | 0, _ => rfl
  | n + 1, h => by
    have hle : ∀ m, ∀ b, bestTo lt d m = some b → b < m := by
      intro m
      induction m with
      | zero => intro b hb; cases hb
      | succ m ih =>
        intro b hb
        rw [show bestTo lt d (m + 1) = stepTo lt d m (bestTo lt d m) from rfl] at hb
        unfold stepTo at hb
        split at hb
        · split at hb
          · cases hb; omega
          · rename_i b' hb'
            have := ih b' hb'
            split at hb <;> cases hb <;> omega
        · have := ih b hb; omega
    show stepTo lt c n (bestTo lt c n) = stepTo lt d n (bestTo lt d n)
    rw [best_congr n fun i hi => h i (by omega)]
    unfold stepTo
    rw [h n (by omega)]
    split
    · split
      · rfl
      · rename_i b hb
        rw [h b (by have := hle n b hb; omega)]
    · rfl
theorem best_below {lt : Option Nat → Option Nat → Bool} {d : Nat → Option Nat} : ∀ m b, bestTo lt d m = some b → b < m := by
  intro m
  induction m with
  | zero => intro b hb; cases hb
  | succ m ih =>
    intro b hb
    rw [show bestTo lt d (m + 1) = stepTo lt d m (bestTo lt d m) from rfl] at hb
    unfold stepTo at hb
    split at hb
    · split at hb
      · cases hb; omega
      · rename_i b' hb'
        have := ih b' hb'
        split at hb <;> cases hb <;> omega
    · have := ih b hb; omega
theorem end_congr {lt : Option Nat → Option Nat → Bool} {c d : Nat → Option Nat} (h : ∀ i, i < 16 → c i = d i) : endVal c (bestTo lt c 16) = endVal d (bestTo lt d 16) := by
  rw [best_congr 16 h]
  cases hb : bestTo lt d 16 with
  | none => rfl
  | some b => exact h b (best_below 16 b hb)
theorem ne_facts3 {c : Int} (h : ¬ c = 0) : (c == 0) = false ∧ (c != 0) = true := by simp [h]

/-- What two calls give: a curve; a curve with a code. -/
def GP (FC : FuncId) (Q1 Q2 : Value → Prop) (f : FuncId) (_ : Array Value) (u : Value) : Prop := if f == FC then Q1 u else Q2 u
theorem GP.mk1 {FC f : FuncId} {Q1 Q2 : Value → Prop} {args : Array Value} {u : Value} (hf : (f == FC) = true) (h : Q1 u) : GP FC Q1 Q2 f args u := by unfold GP; rw [if_pos hf]; exact h
theorem GP.mk2 {FC f : FuncId} {Q1 Q2 : Value → Prop} {args : Array Value} {u : Value} (hf : (f == FC) ≠ true) (h : Q2 u) : GP FC Q1 Q2 f args u := by unfold GP; rw [if_neg hf]; exact h
theorem GP.of1 {FC f : FuncId} {Q1 Q2 : Value → Prop} {args : Array Value} {u : Value} (hf : (f == FC) = true) (h : GP FC Q1 Q2 f args u) : Q1 u := by unfold GP at h; rw [if_pos hf] at h; exact h
theorem GP.of2 {FC f : FuncId} {Q1 Q2 : Value → Prop} {args : Array Value} {u : Value} (hf : (f == FC) ≠ true) (h : GP FC Q1 Q2 f args u) : Q2 u := by unfold GP at h; rw [if_neg hf] at h; exact h

theorem less_any (x y : Nat) (w : World) : Calls Try.prog 46 #[.float .f32 x, .float .f32 y] w (RetFq w (fsub (canon .f32 x) (canon .f32 y))) := by
  go_enter Try.func46, Try.ntmps46
  go_wp2
  go_ret
  exact ⟨_, rfl, c_sub _ _ _, _, rfl⟩
def finOf (x : Option Nat) : Option Nat × Int := if fin x then (x, 0) else (fzero, 4)
theorem finite_any (a : Nat) (w : World) : Calls Try.prog 47 #[.float .f32 a] w (RetFC w (finOf (canon .f32 a)).1 (finOf (canon .f32 a)).2) := by
  go_enter Try.func47, Try.ntmps47
  go_wp2_with (refine wpList_buildSlice rfl _ _ _ rfl (.slice (some ⟨w.heap.size, 0, none⟩) 1 1) (w.alloc (.cells (fA 1 fun _ => a) 24)) (by kernel_rfl) ?_)
  refine (isFinite_any w.heap.size 1 24 (fun _ => a) _ (Blk.new w _ _) (by decide)).mono ?_
  rintro e w1 ⟨rfl, hb⟩
  have hB : Below w.heap.size w w1 := bCall (by repeat (first | assumption | exact Below.refl _ _ | refine bDrew ?_ _ | refine Below.alloc ?_ (by first | omega | (simp; done) | (simp; omega)) _ | refine Below.setCell ?_ (by first | omega | (simp; done) | (simp; omega)) _ | refine bRow ?_ (by first | omega | (simp; done) | (simp; omega)) _)) hb (by first | omega | (simp; done) | (simp; omega))
  rw [show (allTo 1 fun _ => fin (canon .f32 a)) = fin (canon .f32 a) by simp [allTo]]
  cases hq : fin (canon .f32 a) with
  | false =>
    have Hm : Hid (finOf (canon .f32 a) = (fzero, 4)) := Lib.hid (by unfold finOf; rw [hq]; rfl)
    clear hq
    go_wp2
    go_ret2
    rw [Hm.out]
    exact ⟨_, rfl, rfl, hB⟩
  | true =>
    have Hm : Hid (finOf (canon .f32 a) = (canon .f32 a, 0)) := Lib.hid (by unfold finOf; rw [hq]; rfl)
    clear hq
    go_wp2
    go_ret2
    rw [Hm.out]
    exact ⟨_, rfl, rfl, hB⟩
theorem iContrastOf_any (a : Nat → Nat) (w : World) : Calls Try.prog 22 #[.agg (fA 33 a)] w (RetFC w (conMade (filmOfRes a)).1 (conMade (filmOfRes a)).2) := by
  go_enter Try.func22, Try.ntmps22
  go_wp2_with fail
  obtain ⟨W, hW⟩ : ∃ W : World, W = w.alloc (.cells (fA 33 a) 41) := ⟨_, rfl⟩
  have hA : Blk W w.heap.size 41 (fA 33 a) := by subst hW; exact Blk.new _ _ _
  have hb : Below w.heap.size w W := by subst hW; exact (by repeat (first | assumption | exact Below.refl _ _ | refine bDrew ?_ _ | refine Below.alloc ?_ (by first | omega | (simp; done) | (simp; omega)) _ | refine Below.setCell ?_ (by first | omega | (simp; done) | (simp; omega)) _ | refine bRow ?_ (by first | omega | (simp; done) | (simp; omega)) _))
  rw [← hW]
  clear hW
  have hlt0 := hA.lt
  refine wp_region_lr_late 7 5 (GP 24 (IsC 16 fun _ => fone) (IsCC 16 (paintMade (filmOfRes a) fun _ => fone).1 (paintMade (filmOfRes a) fun _ => fone).2)) (by kernel_rfl) (by kernel_rfl) (fun _ _ d _ _ h => by cases d <;> exact h) ?_
  simp only [List.take_succ_cons, List.take_zero, List.drop_succ_cons, List.drop_zero]
  (refine wpLR_plain rfl (fun K hK w1 hw1 => lrUpon_load rfl _ rfl _ _ _ _ (Blk.below hA hw1 hA.lt) Try.underlying41 rfl (by kernel_rfl) (fun N => hK _ _ ?_)); clear hK K)
  (refine wpLR_plain rfl (fun K hK w1 hw1 => ?_); go_simp; refine ⟨R.refl _, (iFlatCurve_any _ _).mono ?_, fun u hu => hK _ _ ?_⟩; (intro e w' h; obtain ⟨u, hu, hq, hb⟩ := h.is; exact ⟨u, hu, .mk1 (by decide) hq, hb⟩); clear hK K; obtain ⟨r1, rfl, H1⟩ := hu.of1 (by decide); clear hu)
  (refine wpLR_plain rfl (fun K hK w1 hw1 => ?_); go_simp; refine ⟨R.refl _, (iPaintOver_any a r1 _).mono ?_, fun u hu => hK _ _ ?_⟩; (intro e w' h; have h := paint_congr (q' := fun _ => fone) H1.out h; obtain ⟨u, hu, hq, hb⟩ := h.is; exact ⟨u, hu, .mk2 (by decide) hq, hb⟩); clear hK K H1; obtain ⟨s1, rfl, Hs1⟩ := hu.of2 (by decide); clear hu)
  (refine wpLR_plain rfl (fun K hK w1 hw1 => ?_); go_simp; refine ⟨R.refl _, hK _ _ ?_⟩; clear hK K)
  (refine wpLR_plain rfl (fun K hK w1 hw1 => ?_); go_simp; refine ⟨R.refl _, hK _ _ ?_⟩; clear hK K)
  (refine wpLR_plain rfl (fun K hK w1 hw1 => ?_); go_simp; refine ⟨R.refl _, hK _ _ ?_⟩; clear hK K)
  (refine wpLR_plain rfl (fun K hK v0 hv0 => ?_); go_simp; refine ⟨Below.alloc (Below.refl _ _) (Nat.le_refl _) _, hK _ _ ?_⟩; clear hK K)
  refine wpLR_nil ?_
  intro W1 hW1 hS
  have hZ : Blk W1 v0.heap.size 26 (fA 16 fun _ => 0) := (Blk.new _ _ _).below hS.2 (Blk.new _ _ _).lt
  clear hS
  have hA := hA.below hW1 hA.lt
  have hb := bCall hb hW1 hb.size
  have hg : w.heap.size < v0.heap.size := by have := hv0.size; omega
  generalize hE1 : (paintMade (filmOfRes a) fun _ => fone).2 = c1 at *
  by_cases hc : c1 = 0
  · subst hc
    have E1 := Lib.hid hE1
    clear hE1
    go_wp2_with (refine wpList_store_row rfl 26 _ _ rfl _ _ rfl rfl _ _ hZ (by kernel_rfl) (by simp only [size_fA]) (all_fA _ _) ?_)
    obtain ⟨W2, hW⟩ : ∃ W2 : World, W2 = W1.setRow v0.heap.size (fA 16 s1) := ⟨_, rfl⟩
    have hA : Blk W2 w.heap.size 41 (fA 33 a) := by subst hW; exact hA.farRow (by omega)
    have hK : Blk W2 v0.heap.size 26 (fA 16 s1) := by subst hW; exact hZ.setRow
    have hb : Below w.heap.size w W2 := by subst hW; exact bRow hb (by omega) _
    rw [← hW]
    clear hW hZ hW1
    have hlt1 := hK.lt
    refine wp_region_lr_late 7 5 (GP 24 (IsC 16 fun _ => fzero) (IsCC 16 (paintMade (filmOfRes a) fun _ => fzero).1 (paintMade (filmOfRes a) fun _ => fzero).2)) (by kernel_rfl) (by kernel_rfl) (fun _ _ d _ _ h => by cases d <;> exact h) ?_
    simp only [List.take_succ_cons, List.take_zero, List.drop_succ_cons, List.drop_zero]
    (refine wpLR_plain rfl (fun K hK w1 hw1 => lrUpon_load rfl _ rfl _ _ _ _ (Blk.below hA hw1 hA.lt) Try.underlying41 rfl (by kernel_rfl) (fun N => hK _ _ ?_)); clear hK K)
    (refine wpLR_plain rfl (fun K hK w1 hw1 => ?_); go_simp; refine ⟨R.refl _, (iFlatCurve_any _ _).mono ?_, fun u hu => hK _ _ ?_⟩; (intro e w' h; obtain ⟨u, hu, hq, hb⟩ := h.is; exact ⟨u, hu, .mk1 (by decide) hq, hb⟩); clear hK K; obtain ⟨r1, rfl, H1⟩ := hu.of1 (by decide); clear hu)
    (refine wpLR_plain rfl (fun K hK w1 hw1 => ?_); go_simp; refine ⟨R.refl _, (iPaintOver_any a r1 _).mono ?_, fun u hu => hK _ _ ?_⟩; (intro e w' h; have h := paint_congr (q' := fun _ => fzero) H1.out h; obtain ⟨u, hu, hq, hb⟩ := h.is; exact ⟨u, hu, .mk2 (by decide) hq, hb⟩); clear hK K H1; obtain ⟨s2, rfl, Hs2⟩ := hu.of2 (by decide); clear hu)
    (refine wpLR_plain rfl (fun K hK w1 hw1 => ?_); go_simp; refine ⟨R.refl _, hK _ _ ?_⟩; clear hK K)
    (refine wpLR_plain rfl (fun K hK w1 hw1 => ?_); go_simp; refine ⟨R.refl _, hK _ _ ?_⟩; clear hK K)
    (refine wpLR_plain rfl (fun K hK w1 hw1 => ?_); go_simp; refine ⟨R.refl _, hK _ _ ?_⟩; clear hK K)
    (refine wpLR_plain rfl (fun K hK v1 hv1 => ?_); go_simp; refine ⟨Below.alloc (Below.refl _ _) (Nat.le_refl _) _, hK _ _ ?_⟩; clear hK K)
    refine wpLR_nil ?_
    intro W1 hW1 hS
    have hZ : Blk W1 v1.heap.size 26 (fA 16 fun _ => 0) := (Blk.new _ _ _).below hS.2 (Blk.new _ _ _).lt
    clear hS
    have hA := hA.below hW1 hA.lt
    have hK := hK.below hW1 hK.lt
    have hb := bCall hb hW1 hb.size
    have hg1 : v0.heap.size < v1.heap.size := by have := hv1.size; omega
    generalize hE2 : (paintMade (filmOfRes a) fun _ => fzero).2 = c2 at *
    by_cases hc : c2 = 0
    · subst hc
      have E2 := Lib.hid hE2
      clear hE2
      have Hf : Hid (fin (endVal (conD (filmOfRes a)) (bestTo fgt (conD (filmOfRes a)) 16)) = true) := Lib.hid (con_fin E1.out E2.out)
      have Hm : Hid (conMade (filmOfRes a) = (endVal (conD (filmOfRes a)) (bestTo fgt (conD (filmOfRes a)) 16), 0)) := Lib.hid (by unfold conMade; rw [if_pos E1.out, if_pos E2.out])
      have hL : Blk (W1.setRow v1.heap.size (fA 16 s2)) v1.heap.size 26 (fA 16 s2) := hZ.setRow
      have hK : Blk (W1.setRow v1.heap.size (fA 16 s2)) v0.heap.size 26 (fA 16 s1) := hK.farRow (by omega)
      have hb : Below w.heap.size w (W1.setRow v1.heap.size (fA 16 s2)) := bRow hb (by omega) _
      go_wp2_with (first | (refine wpList_store_row rfl 26 _ _ rfl _ _ rfl rfl _ _ hZ (by kernel_rfl) (by simp only [size_fA]) (all_fA _ _) ?_) | (refine wpList_load_row rfl 26 _ rfl _ rfl _ _ (0, 0) _ hK Try.underlying26 rfl (by kernel_rfl) ?_) | (refine wpList_load_row rfl 26 _ rfl _ rfl _ _ (0, 0) _ hL Try.underlying26 rfl (by kernel_rfl) ?_))
      refine (with_any 46 #[] fsub s1 s2 _ (fun _ _ => by kernel_rfl) (fun x y w1 _ => (less_any x y w1).mono fun _ _ h => h.to)).mono ?_
      rintro e w5 ⟨d, rfl, hd, hb1⟩
      have hb := bCall hb hb1 hb.size; clear hb1
      have HD : Hid (∀ i, i < 16 → canon .f32 (d i) = conD (filmOfRes a) i) := Lib.hid (fun i hi => by rw [hd i hi]; show fsub (canon .f32 (s1 i)) (canon .f32 (s2 i)) = _; rw [Hs1.out i hi, Hs2.out i hi]; rfl)
      clear hd hK hL hZ
      go_wp2_with fail
      refine (iGreatestOf_any d _).mono ?_
      rintro e w6 ⟨m, rfl, hr, hb1⟩
      rw [end_congr HD.out] at hr
      have hb := bCall hb hb1 hb.size; clear hb1
      have HM := Lib.hid hr
      clear hr HD
      go_wp2_with fail
      refine (finite_any m _).mono ?_
      have ef : Hid (finOf (canon .f32 m) = (endVal (conD (filmOfRes a)) (bestTo fgt (conD (filmOfRes a)) 16), 0)) := Lib.hid (by unfold finOf; rw [HM.out, if_pos Hf.out])
      rw [ef.out]
      rintro e w7 ⟨r, rfl, hr, hb1⟩
      have hb := bCall hb hb1 hb.size; clear hb1
      have HR := Lib.hid hr
      clear hr
      go_wp2
      go_ret2
      rw [Hm.out]
      exact ⟨_, rfl, HR.out, hb⟩
    · obtain ⟨h1, h2⟩ := ne_facts3 hc
      have Hm : Hid (conMade (filmOfRes a) = (fzero, c2)) := Lib.hid (by unfold conMade; simp only [E1.out, hE2, hc, if_true, if_false])
      go_wp2_with (refine wpList_store_row rfl 26 _ _ rfl _ _ rfl rfl _ _ hZ (by kernel_rfl) (by simp only [size_fA]) (all_fA _ _) ?_)
      go_ret2
      rw [Hm.out]
      exact ⟨_, rfl, rfl, bRow hb (by omega) _⟩
  · obtain ⟨h1, h2⟩ := ne_facts3 hc
    have Hm : Hid (conMade (filmOfRes a) = (fzero, c1)) := Lib.hid (by unfold conMade; simp only [hE1, hc, if_false])
    go_wp2_with (refine wpList_store_row rfl 26 _ _ rfl _ _ rfl rfl _ _ hZ (by kernel_rfl) (by simp only [size_fA]) (all_fA _ _) ?_)
    go_ret2
    rw [Hm.out]
    exact ⟨_, rfl, rfl, bRow hb (by omega) _⟩
end Go.Proofs.Ytfpjiclkhjdihaa

namespace Go.Proofs.Ytfpjiclkhjdihaa
open Go.RowKit
set_option maxRecDepth 100000

set_option maxHeartbeats 4000000 in
theorem l02Contrast_any (g : Nat) (T : TypeId) (a : Nat → Nat) (w : World) (hA : Blk w g T (fA 33 a)) : Calls Try.prog 41 #[.pointer (some ⟨g, 0, none⟩)] w (RetFC w (conMade (filmMade fun i => canon .f32 (a i))).1 (conMade (filmMade fun i => canon .f32 (a i))).2) := by
  have hb : Below w.heap.size w w := Below.refl _ _
  go_enter Try.func41, Try.ntmps41
  go_wp2_with fail
  refine (l01Flat_any 1065353216 _).mono ?_
  rintro e w1 ⟨r1, rfl, hr, hb1⟩
  have hA := hA.below hb1 hA.lt
  have hb := bCall hb hb1 hb.size; clear hb1
  have H1 := Lib.hid hr
  clear hr
  go_wp2_with fail
  refine (l02Paint_any _ _ a r1 _ hA).mono ?_
  intro e w2 h2
  obtain ⟨s1, rfl, hs, hb1⟩ := paint_congr (q' := fun _ => fone) H1.out h2
  clear h2 H1
  have hA := hA.below hb1 hA.lt
  have hb := bCall hb hb1 hb.size; clear hb1
  have Hs1 := Lib.hid hs
  clear hs
  have hK : Blk (w2.alloc (.cells (fA 16 s1) 26)) w2.heap.size 26 (fA 16 s1) := Blk.new _ _ _
  have hA := hA.alloc (.cells (fA 16 s1) 26)
  have hg2 := hb.size
  have hb : Below w.heap.size w (w2.alloc (.cells (fA 16 s1) 26)) := Below.alloc hb hb.size _
  generalize hE1 : (paintMade (filmMade fun i => canon .f32 (a i)) fun _ => fone).2 = c1 at *
  by_cases hc : c1 = 0
  · subst hc
    have E1 := Lib.hid hE1
    clear hE1
    go_wp2_with (refine wpList_store_new rfl 26 _ _ rfl _ rfl rfl (by kernel_rfl) rfl (all_fA _ _) ?_)
    refine (l01Flat_any 0 _).mono ?_
    rintro e w3 ⟨r2, rfl, hr, hb1⟩
    have hA := hA.below hb1 hA.lt
    have hK := hK.below hb1 hK.lt
    have hb := bCall hb hb1 hb.size; clear hb1
    have H2 := Lib.hid hr
    clear hr
    go_wp2_with fail
    refine (l02Paint_any _ _ a r2 _ hA).mono ?_
    intro e w4 h2
    obtain ⟨s2, rfl, hs, hb1⟩ := paint_congr (q' := fun _ => fzero) H2.out h2
    clear h2 H2
    have hK := hK.below hb1 hK.lt
    have hb := bCall hb hb1 hb.size; clear hb1
    clear hA
    have Hs2 := Lib.hid hs
    clear hs
    have hlt := hK.lt
    have hg4 := hb.size
    generalize hE2 : (paintMade (filmMade fun i => canon .f32 (a i)) fun _ => fzero).2 = c2 at *
    by_cases hc : c2 = 0
    · subst hc
      have E2 := Lib.hid hE2
      clear hE2
      have Hm : Hid (conMade (filmMade fun i => canon .f32 (a i)) = (endVal (conD (filmMade fun i => canon .f32 (a i))) (bestTo fgt (conD (filmMade fun i => canon .f32 (a i))) 16), 0)) := Lib.hid (by unfold conMade; rw [if_pos E1.out, if_pos E2.out])
      have hK2 : Blk (((w4.alloc (.cells (fA 16 s2) 26)).alloc (.cells (fA 16 fun _ => 0) 26))) w2.heap.size 26 (fA 16 s1) := (hK.alloc _).alloc _
      have hL2 : Blk (((w4.alloc (.cells (fA 16 s2) 26)).alloc (.cells (fA 16 fun _ => 0) 26))) w4.heap.size 26 (fA 16 s2) := (Blk.new _ _ _).alloc _
      have hD2 : Blk (((w4.alloc (.cells (fA 16 s2) 26)).alloc (.cells (fA 16 fun _ => 0) 26))) (w4.heap.size + 1) 26 (fA 16 fun _ => 0) := Blk.new_at _ _ (by simp) rfl
      have hb2 : Below w.heap.size w (((w4.alloc (.cells (fA 16 s2) 26)).alloc (.cells (fA 16 fun _ => 0) 26))) := Below.alloc (Below.alloc hb hb.size _) (by have := hb.size; simp; omega) _
      clear hK hb
      go_wp2_with (first | (refine wpList_store_new rfl 26 _ _ rfl _ rfl rfl (by kernel_rfl) rfl (all_fA _ _) ?_) | (refine wpList_build_as rfl 26 _ rfl (fA 16 fun _ => 0) (by kernel_rfl) ?_) | (refine wpList_store_row rfl 26 _ _ rfl _ _ rfl rfl _ _ hD2 (by kernel_rfl) (by simp only [size_fA]) (all_fA _ _) ?_))
      go_loopw [9] (fun i wr => ∃ (k : Nat) (cur : Nat → Nat), k ≤ 16 ∧ i = .int .i64 k ∧ Below w.heap.size w wr ∧ Blk wr w2.heap.size 26 (fA 16 s1) ∧ Blk wr w4.heap.size 26 (fA 16 s2) ∧ Blk wr (w4.heap.size + 1) 26 (fA 16 cur) ∧ ∀ j, j < k → canon .f32 (cur j) = fsub (canon .f32 (s1 j)) (canon .f32 (s2 j))) (fun i _ => 16 - (intOf i).toNat)
      case atStart => exact ⟨0, fun _ => 0, by omega, rfl, bRow hb2 (by omega) _, hK2.farRow (by omega), hL2.farRow (by omega), hD2.setRow, fun j h => absurd h (by omega)⟩
      case round =>
        clear hb2 hK2 hL2 hD2
        obtain ⟨k, cur, hk, rfl, hb, hK, hL, hD, hc⟩ := hrel
        have Hc := Lib.hid hc
        clear hc
        by_cases hlt' : k < 16
        · have c1 := (hK.cell k).trans (get_fA_lt s1 hlt')
          have c2 := (hL.cell k).trans (get_fA_lt s2 hlt')
          have f1 := hD.frozen k
          have c3 := (hD.cell k).trans (get_fA_lt cur hlt')
          go_wp2_with fail
          (refine wp_region_loose_tail 9 (fun w' => ∃ n, w' = wr.drewN n) (fun _ _ _ => False) (by kernel_rfl) (by kernel_rfl) ⟨1, rfl⟩ ?_; simp only [List.take_succ_cons, List.take_zero, List.drop_succ_cons, List.drop_zero])
          repeat (refine wpLoose_plain rfl (fun K hK w1 hw1 => ?_); obtain ⟨n, rfl⟩ := hw1; go_simp; refine ⟨⟨_, rfl⟩, hK _ ?_⟩; clear hK K)
          (refine wpLoose_nil ?_; intro _ hw'; obtain ⟨nq, rfl⟩ := hw')
          go_wp2
          go_roundw
          case rel => exact ⟨k + 1, _, by omega, by go_num, (bDrew hb nq).setCell (by dsimp only; omega) _, (Blk.drewN hK _).far (by dsimp only; omega) _, (Blk.drewN hL _).far (by dsimp only; omega) _, Blk.setF (Blk.drewN hD _) k _, upd_to (Q := fun j v => canon .f32 v = fsub (canon .f32 (s1 j)) (canon .f32 (s2 j))) Hc.out (c_sub ..)⟩
          case measure => simp [intOf]; omega
        · obtain rfl : k = 16 := by omega
          have HD : Hid (∀ i, i < 16 → canon .f32 (cur i) = conD (filmMade fun i => canon .f32 (a i)) i) := Lib.hid (fun i hi => by rw [Hc.out i hi, Hs1.out i hi, Hs2.out i hi]; rfl)
          go_wp2_with (refine wpList_load_row rfl 26 _ rfl _ rfl _ _ (0, 0) _ hD Try.underlying26 rfl (by kernel_rfl) ?_)
          refine (l01End_greatest cur _).mono ?_
          rintro e w6 ⟨m, rfl, hr, hb1⟩
          rw [end_congr HD.out] at hr
          have hb := bCall hb hb1 hb.size; clear hb1
          have HM := Lib.hid hr
          clear hr HD
          go_wp2
          go_ret2
          rw [Hm.out]
          exact ⟨_, rfl, HM.out, hb⟩
    · obtain ⟨h1, h2⟩ := ne_facts3 hc
      have Hm : Hid (conMade (filmMade fun i => canon .f32 (a i)) = (fzero, c2)) := Lib.hid (by unfold conMade; simp only [E1.out, hE2, hc, if_true, if_false])
      have hb : Below w.heap.size w (w4.alloc (.cells (fA 16 s2) 26)) := Below.alloc hb hb.size _
      go_wp2_with (refine wpList_store_new rfl 26 _ _ rfl _ rfl rfl (by kernel_rfl) rfl (all_fA _ _) ?_)
      go_ret2
      rw [Hm.out]
      exact ⟨_, rfl, rfl, hb⟩
  · obtain ⟨h1, h2⟩ := ne_facts3 hc
    have Hm : Hid (conMade (filmMade fun i => canon .f32 (a i)) = (fzero, c1)) := Lib.hid (by unfold conMade; simp only [hE1, hc, if_false])
    go_wp2_with (refine wpList_store_new rfl 26 _ _ rfl _ rfl rfl (by kernel_rfl) rfl (all_fA _ _) ?_)
    go_ret2
    rw [Hm.out]
    exact ⟨_, rfl, rfl, hb⟩
end Go.Proofs.Ytfpjiclkhjdihaa

namespace Go.Proofs.Ytfpjiclkhjdihaa
open Go.RowKit
set_option maxRecDepth 100000

def layP (K S : Nat → Option Nat) (x : Option Nat) : Nat → Option Nat := fun j => if j < 16 then K j else if j < 32 then S (j - 16) else x
def eighth (n : Nat) : Option Nat := fdiv (fint n) (canon .f32 1090519040)
def conAt (K S : Nat → Option Nat) (n : Nat) : Option Nat × Int := conMade (filmMade (layP K S (eighth n)))
def thickFrom (K S : Nat → Option Nat) (con : Option Nat) : Nat → Nat → Option Nat × Int
  | 0, _ => (fzero, 6)
  | f + 1, n => if (conAt K S n).2 = 3 then (fzero, 6) else if (conAt K S n).2 = 0 then if fle (conAt K S n).1 con then (eighth n, 0) else thickFrom K S con f (n + 1) else (fzero, (conAt K S n).2)
def thickForRes (K S : Nat → Option Nat) (con : Option Nat) : Option Nat × Int :=
  if (allTo 16 fun i => amount (K i)) && (allTo 16 fun i => amount (S i)) then if share con then thickFrom K S con 256 1 else (fzero, 2) else (fzero, 1)

theorem filmAt_congr {p q : Nat → Option Nat} (h : ∀ i, i < 33 → p i = q i) : ∀ i, i < 48 → filmAt p i = filmAt q i := by
  intro i hi
  unfold filmAt
  rw [h 32 (by omega)]
  by_cases h1 : i < 16
  · rw [if_pos h1, if_pos h1, h i (by omega), h (16 + i) (by omega)]
  · rw [if_neg h1, if_neg h1]
    by_cases h2 : i < 32
    · rw [if_pos h2, if_pos h2, h i (by omega), h (i - 16) (by omega)]
    · rw [if_neg h2, if_neg h2, h (i - 32) (by omega), h (i - 16) (by omega)]
theorem filmMade_congr {p q : Nat → Option Nat} (h : ∀ i, i < 33 → p i = q i) : (filmMade p).2 = (filmMade q).2 ∧ ∀ i, i < 48 → (filmMade p).1 i = (filmMade q).1 i := by
  unfold filmMade
  have e1 : (allTo 16 fun i => !tooStrong (p i) (p (16 + i)) (thinX (p 32))) = allTo 16 fun i => !tooStrong (q i) (q (16 + i)) (thinX (q 32)) := allTo_congr fun i hi => by rw [h i (by omega), h (16 + i) (by omega), h 32 (by omega)]
  rw [e1]
  have hf := filmAt_congr h
  have e2 : finFilm (filmAt p) = finFilm (filmAt q) := by
    unfold finFilm
    rw [allTo_congr (q := fun i => fin (filmAt q i)) fun i hi => by rw [hf i (by omega)], allTo_congr (p := fun i => fin (filmAt p (16 + i))) (q := fun i => fin (filmAt q (16 + i))) fun i hi => by rw [hf _ (by omega)],
      allTo_congr (p := fun i => fin (filmAt p (32 + i))) (q := fun i => fin (filmAt q (32 + i))) fun i hi => by rw [hf _ (by omega)]]
  by_cases hs : (allTo 16 fun i => !tooStrong (q i) (q (16 + i)) (thinX (q 32))) = true
  · rw [if_pos hs, if_pos hs]
    unfold finFilmRes
    rw [e2]
    by_cases hq : finFilm (filmAt q) = true
    · rw [if_pos hq, if_pos hq]
      exact ⟨rfl, hf⟩
    · rw [if_neg hq, if_neg hq]
      exact ⟨rfl, fun _ _ => rfl⟩
  · rw [if_neg hs, if_neg hs]
    exact ⟨rfl, fun _ _ => rfl⟩
theorem paintMade_congr {F G : (Nat → Option Nat) × Int} (x : Option Nat) (h2 : F.2 = G.2) (h1 : ∀ i, i < 48 → F.1 i = G.1 i) : (paintMade F fun _ => x).2 = (paintMade G fun _ => x).2 ∧ ∀ i, i < 16 → (paintMade F fun _ => x).1 i = (paintMade G fun _ => x).1 i := by
  unfold paintMade
  rw [h2]
  by_cases h0 : G.2 = 0
  · rw [if_pos h0, if_pos h0]
    unfold overRes
    have ha : (allTo 16 fun i => gapOk (F.1 (16 + i)) x) = allTo 16 fun i => gapOk (G.1 (16 + i)) x := allTo_congr fun i hi => by rw [h1 _ (by omega)]
    have ho : ∀ i, i < 16 → overAt F.1 (fun _ => x) i = overAt G.1 (fun _ => x) i := fun i hi => by unfold overAt; rw [h1 i (by omega), h1 (16 + i) (by omega), h1 (32 + i) (by omega)]
    have hf : (allTo 16 fun i => fin (overAt F.1 (fun _ => x) i)) = allTo 16 fun i => fin (overAt G.1 (fun _ => x) i) := allTo_congr fun i hi => by rw [ho i hi]
    rw [ha]
    by_cases s1 : (allTo 16 fun _ => share x) = true
    · rw [if_pos s1, if_pos s1]
      by_cases s2 : (allTo 16 fun i => gapOk (G.1 (16 + i)) x) = true
      · rw [if_pos s2, if_pos s2]
        unfold finRes
        rw [hf]
        by_cases s3 : (allTo 16 fun i => fin (overAt G.1 (fun _ => x) i)) = true
        · rw [if_pos s3, if_pos s3]
          exact ⟨rfl, ho⟩
        · rw [if_neg s3, if_neg s3]
          exact ⟨rfl, fun _ _ => rfl⟩
      · rw [if_neg s2, if_neg s2]
        exact ⟨rfl, fun _ _ => rfl⟩
    · rw [if_neg s1, if_neg s1]
      exact ⟨rfl, fun _ _ => rfl⟩
  · rw [if_neg h0, if_neg h0]
    exact ⟨rfl, fun _ _ => rfl⟩
theorem conMade_congr {p q : Nat → Option Nat} (h : ∀ i, i < 33 → p i = q i) : conMade (filmMade p) = conMade (filmMade q) := by
  obtain ⟨h1, h2⟩ := filmMade_congr h
  obtain ⟨a1, a2⟩ := paintMade_congr fone h1 h2
  obtain ⟨b1, b2⟩ := paintMade_congr fzero h1 h2
  have e : endVal (conD (filmMade p)) (bestTo fgt (conD (filmMade p)) 16) = endVal (conD (filmMade q)) (bestTo fgt (conD (filmMade q)) 16) := end_congr fun i hi => by unfold conD; rw [a2 i hi, b2 i hi]
  unfold conMade
  rw [a1, b1, e]
theorem eighth_amount : ∀ n, n < 257 → amount (eighth n) = true := by decide +kernel
theorem from_stop {K S : Nat → Option Nat} {con : Option Nat} {f n : Nat} (h : (conAt K S n).2 = 3) : thickFrom K S con (f + 1) n = (fzero, 6) := by
  show (if _ then _ else _) = _
  rw [if_pos h]
theorem from_bad {K S : Nat → Option Nat} {con : Option Nat} {f n : Nat} (h : ¬ (conAt K S n).2 = 3) (h0 : ¬ (conAt K S n).2 = 0) : thickFrom K S con (f + 1) n = (fzero, (conAt K S n).2) := by
  show (if _ then _ else _) = _
  rw [if_neg h, if_neg h0]
theorem from_hit {K S : Nat → Option Nat} {con : Option Nat} {f n : Nat} (h0 : (conAt K S n).2 = 0) (hc : fle (conAt K S n).1 con = true) : thickFrom K S con (f + 1) n = (eighth n, 0) := by
  show (if _ then _ else _) = _
  rw [if_neg (by rw [h0]; decide), if_pos h0, if_pos hc]
theorem from_next {K S : Nat → Option Nat} {con : Option Nat} {f n : Nat} (h0 : (conAt K S n).2 = 0) (hc : fle (conAt K S n).1 con = false) : thickFrom K S con (f + 1) n = thickFrom K S con f (n + 1) := by
  show (if _ then _ else _) = _
  rw [if_neg (by rw [h0]; decide), if_pos h0, if_neg (by rw [hc]; decide)]

set_option maxHeartbeats 400000 in
theorem sThicknessFor_any (k s : Nat → Nat) (c : Nat) (w : World) : Calls Try.prog 20 #[.agg (fA 16 k), .agg (fA 16 s), .float .f32 c] w (RetFC w (thickForRes (fun i => canon .f32 (k i)) (fun i => canon .f32 (s i)) (canon .f32 c)).1 (thickForRes (fun i => canon .f32 (k i)) (fun i => canon .f32 (s i)) (canon .f32 c)).2) := by
  have hK : Blk ((w.alloc (.cells (fA 16 k) 26)).alloc (.cells (fA 16 s) 26)) w.heap.size 26 (fA 16 k) := (Blk.new _ _ _).alloc _
  have hS : Blk ((w.alloc (.cells (fA 16 k) 26)).alloc (.cells (fA 16 s) 26)) (w.heap.size + 1) 26 (fA 16 s) := Blk.new_at _ _ (by simp) rfl
  have hb : Below w.heap.size w ((w.alloc (.cells (fA 16 k) 26)).alloc (.cells (fA 16 s) 26)) := (by repeat (first | assumption | exact Below.refl _ _ | refine bDrew ?_ _ | refine Below.alloc ?_ (by first | omega | (simp; done) | (simp; omega)) _ | refine Below.setCell ?_ (by first | omega | (simp; done) | (simp; omega)) _ | refine bRow ?_ (by first | omega | (simp; done) | (simp; omega)) _))
  go_enter Try.func20, Try.ntmps20
  go_wp2_with (refine wpList_load_row rfl 26 _ rfl _ rfl _ _ (0, 0) _ hK Try.underlying26 rfl (by kernel_rfl) ?_)
  refine (l02Amounts_any k _).mono ?_
  rintro e w1 ⟨rfl, hb1⟩
  have hK := hK.below hb1 hK.lt
  have hS := hS.below hb1 hS.lt
  have hb := bCall hb hb1 hb.size; clear hb1
  cases h0 : (allTo 16 fun i => amount (canon .f32 (k i))) with
  | false =>
    have Hm : Hid (thickForRes (fun i => canon .f32 (k i)) (fun i => canon .f32 (s i)) (canon .f32 c) = (fzero, 1)) := Lib.hid (by unfold thickForRes; rw [h0]; rfl)
    clear h0
    go_wp2
    go_ret2
    rw [Hm.out]
    exact ⟨_, rfl, rfl, hb⟩
  | true =>
    have H0 := Lib.hid h0
    clear h0
    go_wp2_with (refine wpList_load_partW rfl 26 _ rfl 0 16 hS rfl (by decide) Try.underlying26 rfl (by kernel_rfl) ?_)
    rw [rowAt_zero]
    refine (l02Amounts_any s w1).mono ?_
    rintro e w2 ⟨rfl, hb1⟩
    have hK := hK.below hb1 hK.lt
    have hS := hS.below hb1 hS.lt
    have hb := bCall hb hb1 hb.size; clear hb1
    cases h1 : (allTo 16 fun i => amount (canon .f32 (s i))) with
    | false =>
      have Hm : Hid (thickForRes (fun i => canon .f32 (k i)) (fun i => canon .f32 (s i)) (canon .f32 c) = (fzero, 1)) := Lib.hid (by unfold thickForRes; rw [h1, Bool.and_false]; rfl)
      clear h1
      go_wp2
      go_ret2
      rw [Hm.out]
      exact ⟨_, rfl, rfl, hb⟩
    | true =>
      have H1 := Lib.hid h1
      clear h1
      cases hc : share (canon .f32 c) with
      | false =>
        have Hm : Hid (thickForRes (fun i => canon .f32 (k i)) (fun i => canon .f32 (s i)) (canon .f32 c) = (fzero, 2)) := Lib.hid (by unfold thickForRes; rw [H0.out, H1.out, hc]; rfl)
        unfold share at hc
        rw [← o_ge, ← o_le] at hc
        cases hx : (FloatKind.f32.format.order c 0 == some .gt || FloatKind.f32.format.order c 0 == some .eq) with
        | false =>
          clear hc
          go_wp2
          go_ret2
          rw [Hm.out]
          exact ⟨_, rfl, rfl, hb⟩
        | true =>
          rw [hx, Bool.true_and] at hc
          go_wp2
          go_ret2
          rw [Hm.out]
          exact ⟨_, rfl, rfl, hb⟩
      | true =>
        have Hm : Hid (thickForRes (fun i => canon .f32 (k i)) (fun i => canon .f32 (s i)) (canon .f32 c) = thickFrom (fun i => canon .f32 (k i)) (fun i => canon .f32 (s i)) (canon .f32 c) 256 1) := Lib.hid (by unfold thickForRes; rw [H0.out, H1.out, hc]; rfl)
        unfold share at hc
        rw [← o_ge, ← o_le, Bool.and_eq_true] at hc
        obtain ⟨hx, hy⟩ := hc
        go_wp2
        clear hx hy
        go_loopw [8, 9, 10, 11] (fun i _ _ _ wr => ∃ (f n : Nat), f + n = 257 ∧ i = .int .i64 n ∧ Below w.heap.size w wr ∧ Blk wr w.heap.size 26 (fA 16 k) ∧ Blk wr (w.heap.size + 1) 26 (fA 16 s) ∧ Hid (thickForRes (fun i => canon .f32 (k i)) (fun i => canon .f32 (s i)) (canon .f32 c) = thickFrom (fun i => canon .f32 (k i)) (fun i => canon .f32 (s i)) (canon .f32 c) f n)) (fun i _ _ _ _ => 257 - (intOf i).toNat)
        case atStart => exact ⟨256, 1, by omega, rfl, hb, hK, hS, Hm⟩
        case round =>
          clear hb hK hS Hm
          obtain ⟨f, n, hfn, rfl, hb, hK, hS, Hm⟩ := hrel
          cases f with
          | zero =>
            obtain rfl : n = 257 := by omega
            go_wp2
            go_ret2
            rw [Hm.out]
            exact ⟨_, rfl, rfl, hb⟩
          | succ f =>
            have hlt : n ≤ 256 := by omega
            generalize hgk : w.heap.size = gk at hb hK hS ⊢
            go_wp2_with (first | (refine wpList_build_as rfl 41 _ rfl (fA 33 (layer3 k s (fval .quo .f32 (floatOfInt .f32 n) 1090519040 wr))) (by kernel_rfl) ?_) | (refine wpList_store_new rfl 41 _ _ rfl _ rfl rfl (by kernel_rfl) rfl (all_fA _ _) ?_) | (refine wpList_load_row rfl 26 _ rfl _ rfl _ _ (0, 0) _ hK Try.underlying26 rfl (by kernel_rfl) ?_) | (refine wpList_load_row rfl 26 _ rfl _ rfl _ _ (0, 0) _ hS Try.underlying26 rfl (by kernel_rfl) ?_))
            obtain ⟨x, hx⟩ : ∃ x, x = fval .quo .f32 (floatOfInt .f32 n) 1090519040 wr := ⟨_, rfl⟩
            obtain ⟨W, hW⟩ : ∃ W : World, W = (wr.drewN (fcnt .quo .f32 (floatOfInt .f32 n) 1090519040)).alloc (.cells (fA 33 (layer3 k s x)) 41) := ⟨_, rfl⟩
            have hX : Blk W wr.heap.size 41 (fA 33 (layer3 k s x)) := by subst hW; exact Blk.new _ _ _
            have hK : Blk W gk 26 (fA 16 k) := by subst hW; exact (Blk.drewN hK _).alloc _
            have hS : Blk W (gk + 1) 26 (fA 16 s) := by subst hW; exact (Blk.drewN hS _).alloc _
            have hb : Below gk w W := by subst hW; exact Below.alloc (bDrew hb _) (show gk ≤ wr.heap.size by have := hb.size; omega) _
            have HX : Hid (canon .f32 x = eighth n) := Lib.hid (by rw [hx, c_div]; rfl)
            rw [← hx, ← hW]
            clear hx hW
            have HC : Hid (conMade (filmMade fun i => canon .f32 (layer3 k s x i)) = conAt (fun i => canon .f32 (k i)) (fun i => canon .f32 (s i)) n) := Lib.hid (conMade_congr (fun i hi => by
              unfold layer3 layP
              by_cases h1 : i < 16
              · rw [if_pos h1, if_pos h1]
              · rw [if_neg h1, if_neg h1]
                by_cases h2 : i < 32
                · rw [if_pos h2, if_pos h2]
                · rw [if_neg h2, if_neg h2]; exact HX.out))
            refine (l02Contrast_any _ _ (layer3 k s x) W hX).mono ?_
            rw [HC.out]
            clear HC
            rintro e w5 ⟨m, rfl, hr, hb1⟩
            have hX := hX.below hb1 hX.lt
            have hK := hK.below hb1 hK.lt
            have hS := hS.below hb1 hS.lt
            have hb := bCall hb hb1 (by have := hb.size; rw [hgk] at this; exact this)
            clear hb1
            generalize hcd : conAt (fun i => canon .f32 (k i)) (fun i => canon .f32 (s i)) n = C at *
            obtain ⟨v, cd⟩ := C
            dsimp only at hr ⊢
            have HR := Lib.hid hr
            clear hr
            have hbw : Below w.heap.size w w5 := by rw [hgk]; exact hb
            by_cases h3 : cd = 3
            · subst h3
              have Hq : Hid (thickForRes (fun i => canon .f32 (k i)) (fun i => canon .f32 (s i)) (canon .f32 c) = (fzero, 6)) := Lib.hid (Hm.out.trans (from_stop (by rw [hcd])))
              go_wp2
              go_ret2
              rw [Hq.out]
              exact ⟨_, rfl, rfl, hbw⟩
            · have e3 : (cd == 3) = false := by simp [h3]
              by_cases h0 : cd = 0
              · subst h0
                cases hf : fle v (canon .f32 c) with
                | true =>
                  have hq : (FloatKind.f32.format.order m c == some .lt || FloatKind.f32.format.order m c == some .eq) = true := by rw [o_le, HR.out]; exact hf
                  have Hq : Hid (thickForRes (fun i => canon .f32 (k i)) (fun i => canon .f32 (s i)) (canon .f32 c) = (eighth n, 0)) := Lib.hid (Hm.out.trans (from_hit (by rw [hcd]) (by rw [hcd]; exact hf)))
                  have cx : w5.cell? ⟨wr.heap.size, 32, none⟩ = some (.float .f32 x) := (hX.cell 32).trans (get_fA_lt (layer3 k s x) (by omega))
                  clear hcd hf
                  go_wp2
                  go_ret2
                  rw [Hq.out]
                  exact ⟨_, rfl, HX.out, hbw⟩
                | false =>
                  have hq : (FloatKind.f32.format.order m c == some .lt || FloatKind.f32.format.order m c == some .eq) = false := by rw [o_le, HR.out]; exact hf
                  have Hq : Hid (thickForRes (fun i => canon .f32 (k i)) (fun i => canon .f32 (s i)) (canon .f32 c) = thickFrom (fun i => canon .f32 (k i)) (fun i => canon .f32 (s i)) (canon .f32 c) f (n + 1)) := Lib.hid (Hm.out.trans (from_next (by rw [hcd]) (by rw [hcd]; exact hf)))
                  clear hcd hf
                  subst hgk
                  go_wp2
                  go_roundw
                  case rel => exact ⟨f, n + 1, by omega, by go_num, hbw, hK, hS, Hq⟩
                  case measure => simp [intOf]; omega
              · obtain ⟨h1, h2⟩ := ne_facts3 h0
                have Hq : Hid (thickForRes (fun i => canon .f32 (k i)) (fun i => canon .f32 (s i)) (canon .f32 c) = (fzero, cd)) := Lib.hid (by have h := Hm.out.trans (from_bad (by rw [hcd]; exact h3) (by rw [hcd]; exact h0)); rw [hcd] at h; exact h)
                clear hcd
                go_wp2
                go_ret2
                rw [Hq.out]
                exact ⟨_, rfl, rfl, hbw⟩
end Go.Proofs.Ytfpjiclkhjdihaa

namespace Go.Proofs.Ytfpjiclkhjdihaa
open Go.RowKit
set_option maxRecDepth 100000

theorem layerOk_zero (k s : Nat → Nat) : layerOk (layer3 k s 0) = ((allTo 16 fun i => amount (canon .f32 (k i))) && (allTo 16 fun i => amount (canon .f32 (s i)))) := by
  unfold layerOk
  have e1 : (allTo 16 fun i => amount (canon .f32 (rowAt (layer3 k s 0) 0 i))) = allTo 16 fun i => amount (canon .f32 (k i)) := allTo_congr fun i hi => by
    unfold rowAt layer3
    rw [Nat.zero_add, if_pos hi]
  have e2 : (allTo 16 fun i => amount (canon .f32 (rowAt (layer3 k s 0) 16 i))) = allTo 16 fun i => amount (canon .f32 (s i)) := allTo_congr fun i hi => by
    unfold rowAt layer3
    rw [if_neg (by omega), if_pos (by omega), Nat.add_sub_cancel_left]
  have e3 : amount (canon .f32 (layer3 k s 0 32)) = true := by show amount (canon .f32 0) = true; decide
  rw [e1, e2, e3, Bool.and_true]
/-- A layer of a thickness, known up to a NaN: its contrast. -/
theorem con_of {k s a : Nat → Nat} {n : Nat} (hn : n < 257) (hk : (allTo 16 fun i => amount (canon .f32 (k i))) = true) (hs : (allTo 16 fun i => amount (canon .f32 (s i))) = true)
    (h : ∀ i, i < 33 → canon .f32 (a i) = layP (fun i => canon .f32 (k i)) (fun i => canon .f32 (s i)) (eighth n) i) : conMade (filmOfRes a) = conAt (fun i => canon .f32 (k i)) (fun i => canon .f32 (s i)) n := by
  have hl : layerOk a = true := by
    unfold layerOk
    have e1 : (allTo 16 fun i => amount (canon .f32 (rowAt a 0 i))) = true := by
      rw [← hk]
      exact allTo_congr fun i hi => by unfold rowAt; rw [Nat.zero_add, h i (by omega)]; unfold layP; rw [if_pos hi]
    have e2 : (allTo 16 fun i => amount (canon .f32 (rowAt a 16 i))) = true := by
      rw [← hs]
      exact allTo_congr fun i hi => by unfold rowAt; rw [h (16 + i) (by omega)]; unfold layP; rw [if_neg (by omega), if_pos (by omega), Nat.add_sub_cancel_left]
    have e3 : amount (canon .f32 (a 32)) = true := by rw [h 32 (by omega)]; exact eighth_amount n hn
    rw [e1, e2, e3]
    rfl
  have e : filmOfRes a = filmMade (fun i => canon .f32 (a i)) := by unfold filmOfRes; rw [if_pos hl]
  rw [e]
  exact conMade_congr h
set_option maxHeartbeats 800000 in
theorem iThicknessFor_any (k s : Nat → Nat) (c : Nat) (w : World) : Calls Try.prog 19 #[.agg (fA 16 k), .agg (fA 16 s), .float .f32 c] w (RetFC w (thickForRes (fun i => canon .f32 (k i)) (fun i => canon .f32 (s i)) (canon .f32 c)).1 (thickForRes (fun i => canon .f32 (k i)) (fun i => canon .f32 (s i)) (canon .f32 c)).2) := by
  have hK : Blk ((w.alloc (.cells (fA 16 k) 26)).alloc (.cells (fA 16 s) 26)) w.heap.size 26 (fA 16 k) := (Blk.new _ _ _).alloc _
  have hS : Blk ((w.alloc (.cells (fA 16 k) 26)).alloc (.cells (fA 16 s) 26)) (w.heap.size + 1) 26 (fA 16 s) := Blk.new_at _ _ (by simp) rfl
  have hb : Below w.heap.size w ((w.alloc (.cells (fA 16 k) 26)).alloc (.cells (fA 16 s) 26)) := (by repeat (first | assumption | exact Below.refl _ _ | refine bDrew ?_ _ | refine Below.alloc ?_ (by first | omega | (simp; done) | (simp; omega)) _ | refine Below.setCell ?_ (by first | omega | (simp; done) | (simp; omega)) _ | refine bRow ?_ (by first | omega | (simp; done) | (simp; omega)) _))
  go_enter Try.func19, Try.ntmps19
  go_wp2_with (first | (refine wpList_load_row rfl 26 _ rfl _ rfl _ _ (0, 0) _ hK Try.underlying26 rfl (by kernel_rfl) ?_) | (refine wpList_load_row rfl 26 _ rfl _ rfl _ _ (0, 0) _ hS Try.underlying26 rfl (by kernel_rfl) ?_))
  refine (iLayerOf_any k s 0 _).mono ?_
  rintro e w1 ⟨r, rfl, hr, hb1⟩
  have hb := bCall hb hb1 hb.size; clear hb1
  clear hK hS
  have hX : Blk (w1.alloc (.cells (fA 33 r) 41)) w1.heap.size 41 (fA 33 r) := Blk.new _ _ _
  have hg := hb.size
  have hb : Below w.heap.size w (w1.alloc (.cells (fA 33 r) 41)) := Below.alloc hb hb.size _
  cases h0 : ((allTo 16 fun i => amount (canon .f32 (k i))) && (allTo 16 fun i => amount (canon .f32 (s i)))) with
  | false =>
    have Hm : Hid (thickForRes (fun i => canon .f32 (k i)) (fun i => canon .f32 (s i)) (canon .f32 c) = (fzero, 1)) := Lib.hid (by unfold thickForRes; rw [h0]; rfl)
    have e2 : (layerRes k s 0).2 = 1 := by unfold layerRes; rw [layerOk_zero, h0]; rfl
    rw [e2]
    clear e2 h0 hr
    go_wp2_with (refine wpList_store_new rfl 41 _ _ rfl _ rfl rfl (by kernel_rfl) rfl (all_fA _ _) ?_)
    go_ret2
    rw [Hm.out]
    exact ⟨_, rfl, rfl, hb⟩
  | true =>
    have H0 := Lib.hid h0
    have e1 : layerRes k s 0 = (fun i => canon .f32 (layer3 k s 0 i), 0) := by unfold layerRes; rw [layerOk_zero, h0]; rfl
    rw [e1] at hr ⊢
    have Hr := Lib.hid hr
    clear e1 h0 hr
    go_wp2_with (refine wpList_store_new rfl 41 _ _ rfl _ rfl rfl (by kernel_rfl) rfl (all_fA _ _) ?_)
    refine (isShare_any _ _).mono ?_
    rintro e w2 ⟨rfl, nq, rfl⟩
    have hX := Blk.drewN hX nq
    have hb := bDrew hb nq
    cases hc : share (canon .f32 c) with
    | false =>
      have Hm : Hid (thickForRes (fun i => canon .f32 (k i)) (fun i => canon .f32 (s i)) (canon .f32 c) = (fzero, 2)) := Lib.hid (by unfold thickForRes; rw [H0.out, hc]; rfl)
      clear hc
      go_wp2
      go_ret2
      rw [Hm.out]
      exact ⟨_, rfl, rfl, hb⟩
    | true =>
      have Hm : Hid (thickForRes (fun i => canon .f32 (k i)) (fun i => canon .f32 (s i)) (canon .f32 c) = thickFrom (fun i => canon .f32 (k i)) (fun i => canon .f32 (s i)) (canon .f32 c) 256 1) := Lib.hid (by unfold thickForRes; rw [H0.out, hc]; rfl)
      clear hc
      have Hc : Hid (∀ i, i < 32 → canon .f32 (r i) = layP (fun i => canon .f32 (k i)) (fun i => canon .f32 (s i)) none i) := Lib.hid (fun i hi => by
        rw [Hr.out i (by omega)]
        unfold layer3 layP
        by_cases h1 : i < 16
        · simp only [h1, if_true]
        · simp only [h1, hi, if_true, if_false])
      go_wp2
      go_loopw [10, 11, 12, 40, 43, 47] (fun i _ _ _ _ _ wr => ∃ (f n : Nat) (cur : Nat → Nat), f + n = 257 ∧ i = .int .i64 n ∧ Below w.heap.size w wr ∧ Blk wr w1.heap.size 41 (fA 33 cur) ∧ Hid (∀ i, i < 32 → canon .f32 (cur i) = layP (fun i => canon .f32 (k i)) (fun i => canon .f32 (s i)) none i) ∧ Hid (thickForRes (fun i => canon .f32 (k i)) (fun i => canon .f32 (s i)) (canon .f32 c) = thickFrom (fun i => canon .f32 (k i)) (fun i => canon .f32 (s i)) (canon .f32 c) f n)) (fun i _ _ _ _ _ _ => 257 - (intOf i).toNat)
      case atStart => exact ⟨256, 1, r, by omega, rfl, hb, hX, Hc, Hm⟩
      case round =>
        clear hb hX Hm Hc
        obtain ⟨f, n, cur, hfn, rfl, hb, hX, Hc, Hm⟩ := hrel
        cases f with
        | zero =>
          obtain rfl : n = 257 := by omega
          go_wp2
          go_ret2
          rw [Hm.out]
          exact ⟨_, rfl, rfl, hb⟩
        | succ f =>
          have hlt : n ≤ 256 := by omega
          have c1 := (hX.cell 32).trans (get_fA_lt cur (by omega))
          have f1 := hX.frozen 32
          have hX2 := Blk.setF (Blk.drewN hX (fcnt .quo .f32 (floatOfInt .f32 n) 1090519040)) 32 (fval .quo .f32 (floatOfInt .f32 n) 1090519040 wr)
          go_wp2_with (refine wpList_load_row rfl 41 _ rfl _ rfl _ _ (0, 0) _ hX2 Try.underlying41 rfl (by kernel_rfl) ?_)
          refine (iContrastOf_any _ _).mono ?_
          obtain ⟨x, hx⟩ : ∃ x, x = fval .quo .f32 (floatOfInt .f32 n) 1090519040 wr := ⟨_, rfl⟩
          rw [← hx] at hX2
          rw [← hx]
          have HX : Hid (canon .f32 x = eighth n) := Lib.hid (by rw [hx, c_div]; rfl)
          clear hx
          have HC : Hid (conMade (filmOfRes (upd cur 32 x)) = conAt (fun i => canon .f32 (k i)) (fun i => canon .f32 (s i)) n) := Lib.hid (con_of (by omega) (Bool.and_eq_true _ _ ▸ H0.out).1 (Bool.and_eq_true _ _ ▸ H0.out).2 (fun i hi => by
            unfold upd
            by_cases h1 : i = 32
            · subst h1
              rw [if_pos rfl]
              exact HX.out
            · rw [if_neg h1, Hc.out i (by omega)]
              unfold layP
              by_cases h2 : i < 16
              · rw [if_pos h2, if_pos h2]
              · rw [if_neg h2, if_neg h2, if_pos (by omega), if_pos (by omega)]))
          have HN : Hid (∀ i, i < 32 → canon .f32 (upd cur 32 x i) = layP (fun i => canon .f32 (k i)) (fun i => canon .f32 (s i)) none i) := Lib.hid (fun i hi => by
            unfold upd
            rw [if_neg (by omega)]
            exact Hc.out i hi)
          have hbs : Below w.heap.size w ((wr.drewN (fcnt .quo .f32 (floatOfInt .f32 n) 1090519040)).setCell ⟨w1.heap.size, 32, none⟩ (.float .f32 x)) := (bDrew hb _).setCell (by dsimp only; omega) _
          rw [HC.out]
          rintro e w5 ⟨m, rfl, hr, hb1⟩
          have hX := hX2.below hb1 hX2.lt
          have hbw := bCall hbs hb1 hbs.size
          clear hb1 hbs hX2 hb HC
          generalize hcd : conAt (fun i => canon .f32 (k i)) (fun i => canon .f32 (s i)) n = C at *
          obtain ⟨v, cd⟩ := C
          dsimp only at hr ⊢
          have HR := Lib.hid hr
          clear hr c1 f1
          by_cases h3 : cd = 3
          · subst h3
            have Hq : Hid (thickForRes (fun i => canon .f32 (k i)) (fun i => canon .f32 (s i)) (canon .f32 c) = (fzero, 6)) := Lib.hid (Hm.out.trans (from_stop (by rw [hcd])))
            go_wp2
            go_ret2
            rw [Hq.out]
            exact ⟨_, rfl, rfl, hbw⟩
          · have e3 : (cd == 3) = false := by simp [h3]
            by_cases h0 : cd = 0
            · subst h0
              cases hf : fle v (canon .f32 c) with
              | true =>
                have hq : (FloatKind.f32.format.order m c == some .lt || FloatKind.f32.format.order m c == some .eq) = true := by rw [o_le, HR.out]; exact hf
                have Hq : Hid (thickForRes (fun i => canon .f32 (k i)) (fun i => canon .f32 (s i)) (canon .f32 c) = (eighth n, 0)) := Lib.hid (Hm.out.trans (from_hit (by rw [hcd]) (by rw [hcd]; exact hf)))
                have cx : w5.cell? ⟨w1.heap.size, 32, none⟩ = some (.float .f32 x) := (hX.cell 32).trans (get_fA_lt (upd cur 32 x) (by omega))
                clear hcd hf
                go_wp2
                go_ret2
                rw [Hq.out]
                exact ⟨_, rfl, HX.out, hbw⟩
              | false =>
                have hq : (FloatKind.f32.format.order m c == some .lt || FloatKind.f32.format.order m c == some .eq) = false := by rw [o_le, HR.out]; exact hf
                have Hq : Hid (thickForRes (fun i => canon .f32 (k i)) (fun i => canon .f32 (s i)) (canon .f32 c) = thickFrom (fun i => canon .f32 (k i)) (fun i => canon .f32 (s i)) (canon .f32 c) f (n + 1)) := Lib.hid (Hm.out.trans (from_next (by rw [hcd]) (by rw [hcd]; exact hf)))
                clear hcd hf
                go_wp2
                go_roundw
                case rel => exact ⟨f, n + 1, _, by omega, by go_num, hbw, hX, HN, Hq⟩
                case measure => simp [intOf]; omega
            · obtain ⟨h1, h2⟩ := ne_facts3 h0
              have Hq : Hid (thickForRes (fun i => canon .f32 (k i)) (fun i => canon .f32 (s i)) (canon .f32 c) = (fzero, cd)) := Lib.hid (by have h := Hm.out.trans (from_bad (by rw [hcd]; exact h3) (by rw [hcd]; exact h0)); rw [hcd] at h; exact h)
              clear hcd
              go_wp2
              go_ret2
              rw [Hq.out]
              exact ⟨_, rfl, rfl, hbw⟩
end Go.Proofs.Ytfpjiclkhjdihaa
