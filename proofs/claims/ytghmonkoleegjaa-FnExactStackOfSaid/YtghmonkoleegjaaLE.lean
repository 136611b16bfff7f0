/- Stacks of layers as films; what the law compares. -/
import Derived.Test.YtghmonkoleegjaaLC
import Derived.Test.YtghmonkoleegjaaCN
import Derived.Test.YtghmonkoleegjaaHeld
namespace Go.Proofs.Ytghmonkoleegjaa
open Go.RowKit
set_option maxRecDepth 100000

theorem addAt_congr {f g f' g' : Nat → Option Nat} (hf : ∀ i, i < 48 → f i = f' i) (hg : ∀ i, i < 48 → g i = g' i) : ∀ i, i < 48 → addAt f g i = addAt f' g' i := by
  intro i hi
  unfold addAt
  by_cases h1 : i < 16
  · rw [if_pos h1, if_pos h1, hf i (by omega), hf (16 + i) (by omega), hf (32 + i) (by omega), hg i (by omega)]
  · rw [if_neg h1, if_neg h1]
    by_cases h2 : i < 32
    · rw [if_pos h2, if_pos h2, hf i (by omega), hg i (by omega), hg (i - 16) (by omega), hg (16 + i) (by omega)]
    · rw [if_neg h2, if_neg h2, hf i (by omega), hg i (by omega), hg (i - 32) (by omega), hf (i - 16) (by omega)]
theorem addRes_congr {f g f' g' : Nat → Option Nat} (hf : ∀ i, i < 48 → f i = f' i) (hg : ∀ i, i < 48 → g i = g' i) : (addRes f g).2 = (addRes f' g').2 ∧ ∀ i, i < 48 → (addRes f g).1 i = (addRes f' g').1 i := by
  unfold addRes
  have e1 : (allTo 16 fun i => gapOk (f (16 + i)) (g i)) = allTo 16 fun i => gapOk (f' (16 + i)) (g' i) := allTo_congr fun i hi => by rw [hf _ (by omega), hg _ (by omega)]
  rw [e1]
  have ha := addAt_congr hf hg
  have e2 : finFilm (addAt f g) = finFilm (addAt f' g') := by
    unfold finFilm
    rw [allTo_congr (q := fun i => fin (addAt f' g' i)) fun i hi => by rw [ha i (by omega)], allTo_congr (p := fun i => fin (addAt f g (16 + i))) (q := fun i => fin (addAt f' g' (16 + i))) fun i hi => by rw [ha _ (by omega)],
      allTo_congr (p := fun i => fin (addAt f g (32 + i))) (q := fun i => fin (addAt f' g' (32 + i))) fun i hi => by rw [ha _ (by omega)]]
  by_cases hs : (allTo 16 fun i => gapOk (f' (16 + i)) (g' i)) = true
  · rw [if_pos hs, if_pos hs]
    unfold finFilmRes
    rw [e2]
    by_cases hq : finFilm (addAt f' g') = true
    · rw [if_pos hq, if_pos hq]
      exact ⟨rfl, ha⟩
    · rw [if_neg hq, if_neg hq]
      exact ⟨rfl, fun _ _ => rfl⟩
  · rw [if_neg hs, if_neg hs]
    exact ⟨rfl, fun _ _ => rfl⟩

def layFilm (F : Nat → Nat) (k : Nat) : (Nat → Option Nat) × Int := filmMade fun i => canon .f32 (lay F k i)
def stackGo (F : Nat → Nat) : Nat → Nat → (Nat → Option Nat) → (Nat → Option Nat) × Int
  | 0, _, acc => (acc, 0)
  | r + 1, k, acc => if (layFilm F k).2 = 0 then if (addRes acc (layFilm F k).1).2 = 0 then stackGo F r (k + 1) (addRes acc (layFilm F k).1).1 else (fun _ => canon .f32 0, (addRes acc (layFilm F k).1).2) else (fun _ => canon .f32 0, (layFilm F k).2)
def stackRes (F : Nat → Nat) (n : Nat) : (Nat → Option Nat) × Int := if allTo n (fun k => layerOk (lay F k)) then if n ≤ 12 then stackGo F n 0 emptyAt else (fun _ => canon .f32 0, 3) else (fun _ => canon .f32 0, 1)
theorem go_bad {F : Nat → Nat} {r k : Nat} {acc : Nat → Option Nat} (h : ¬ (layFilm F k).2 = 0) : stackGo F (r + 1) k acc = (fun _ => canon .f32 0, (layFilm F k).2) := by show (if _ then _ else _) = _; rw [if_neg h]
theorem go_stop {F : Nat → Nat} {r k : Nat} {acc : Nat → Option Nat} (h : (layFilm F k).2 = 0) (h2 : ¬ (addRes acc (layFilm F k).1).2 = 0) : stackGo F (r + 1) k acc = (fun _ => canon .f32 0, (addRes acc (layFilm F k).1).2) := by show (if _ then _ else _) = _; rw [if_pos h, if_neg h2]
theorem go_on {F : Nat → Nat} {r k : Nat} {acc : Nat → Option Nat} (h : (layFilm F k).2 = 0) (h2 : (addRes acc (layFilm F k).1).2 = 0) : stackGo F (r + 1) k acc = stackGo F r (k + 1) (addRes acc (layFilm F k).1).1 := by show (if _ then _ else _) = _; rw [if_pos h, if_pos h2]
theorem filmOf_lay {F : Nat → Nat} {n k : Nat} (h : (allTo n fun k => layerOk (lay F k)) = true) (hk : k < n) : filmOfRes (lay F k) = layFilm F k := by
  have h1 := allTo_get h hk
  unfold filmOfRes
  rw [if_pos h1]
  rfl

theorem szLayer_fits (a : Option Addr) (n c : Nat) (hn : n ≤ 1048576) (w : World) : Calls Try.prog 7 #[.slice a n c, .int .i64 1048576] w fun e w' => e = .returned (.int .i64 (1048576 - (n : Int))) ∧ w' = w := by
  go_enter Try.func7, Try.ntmps7
  go_wp2
  all_goals first | omega | (go_ret; exact ⟨rfl, rfl⟩)
theorem szLayer_big (a : Option Addr) (n c : Nat) (hn : 1048576 < n) (hm : n ≤ maxLen) (w : World) : Calls Try.prog 7 #[.slice a n c, .int .i64 1048576] w fun e w' => e = .returned (.int .i64 (-1)) ∧ w' = w := by
  unfold maxLen at hm
  go_enter Try.func7, Try.ntmps7
  go_wp2
  all_goals first | omega | (go_ret; exact ⟨rfl, rfl⟩)
theorem eqLayerS_any (g1 g2 n : Nat) (T1 T2 : TypeId) (F : Nat → Nat) (w : World) (hn : n ≤ 1048576) (hA : Blk w g1 T1 (fA (33 * n) F)) (hB : Blk w g2 T2 (fA (33 * n) F)) : Calls Try.prog 12 #[.slice (some ⟨g1, 0, none⟩) n n, .slice (some ⟨g2, 0, none⟩) n n] w (RetB w true) := by
  go_enter Try.func12, Try.ntmps12
  go_wp2
  go_loopw [5] (fun i wr => ∃ (k : Nat), k ≤ n ∧ i = .int .i64 k ∧ Below w.heap.size w wr ∧ Blk wr g1 T1 (fA (33 * n) F) ∧ Blk wr g2 T2 (fA (33 * n) F)) (fun i _ => n - (intOf i).toNat)
  case atStart => exact ⟨0, by omega, rfl, Below.refl _ _, hA, hB⟩
  case round =>
    clear hA hB
    obtain ⟨k, hk, rfl, hb, hA, hB⟩ := hrel
    by_cases hlt : k < n
    · go_wp2_with fail
      refine wp_region_hr (fun f args u => u = .bool true) (by kernel_rfl) (by kernel_rfl) ?_
      (refine hr_plain rfl (fun K hK w1 hw1 => ?_); go_simp; refine ⟨R.refl _, hK _ _ ?_⟩; clear hK K)
      (refine hr_plain rfl (fun K hK w1 hw1 => ?_); go_simp; refine ⟨R.refl _, hK _ _ ?_⟩; clear hK K)
      (refine hr_plain rfl (fun K hK w1 hw1 => ?_); go_simp; refine ⟨R.refl _, hK _ _ ?_⟩; clear hK K)
      (refine (hr_plain (rfl) (fun K hK w1 hw1 => lrUpon_part rfl (Blk.below hA hw1 hA.lt) (k * 33) 33 rfl (by first | decide | omega) Try.underlying56 rfl (by kernel_rfl) (fun N => hK _ _ ?_))); clear hK K)
      (refine hr_plain rfl (fun K hK w1 hw1 => ?_); go_simp; refine ⟨R.refl _, hK _ _ ?_⟩; clear hK K)
      (refine hr_plain rfl (fun K hK w1 hw1 => ?_); go_simp; refine ⟨R.refl _, hK _ _ ?_⟩; clear hK K)
      (refine hr_plain rfl (fun K hK w1 hw1 => ?_); go_simp; refine ⟨R.refl _, hK _ _ ?_⟩; clear hK K)
      (refine (hr_plain (rfl) (fun K hK w1 hw1 => lrUpon_part rfl (Blk.below hB hw1 hB.lt) (k * 33) 33 rfl (by first | decide | omega) Try.underlying56 rfl (by kernel_rfl) (fun N => hK _ _ ?_))); clear hK K)
      refine hr_plain rfl (fun K hK w1 hw1 => ?_); go_simp; refine ⟨R.refl _, (eqLayer_any (rowAt F (k * 33)) (rowAt F (k * 33)) (fun i hi => rfl) _).mono ?_, fun u hu => hK _ _ ?_⟩; (rintro e w' ⟨rfl, hb⟩; exact ⟨_, rfl, rfl, hb⟩); clear hK K; obtain rfl := hu
      (refine hr_plain rfl (fun K hK w1 hw1 => ?_); go_simp; refine ⟨R.refl _, hK _ _ ?_⟩; clear hK K)
      refine hr_nil ?_
      intro W1 hW1 _
      have hA := hA.below hW1 hA.lt
      have hB := hB.below hW1 hB.lt
      have hb := bCall hb hW1 hb.size
      go_wp2
      go_roundw
      case rel => exact ⟨k + 1, by omega, by go_num, hb, hA, hB⟩
      case measure => simp [intOf]; omega
    · go_wp2
      go_ret
      exact ⟨rfl, hb⟩
end Go.Proofs.Ytghmonkoleegjaa
