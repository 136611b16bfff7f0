/- How much of a backing is seen: the greatest difference is finite. Plain: no program is named here. -/
import Derived.Test.YtcmamfpcdhhboaaDbl
import Derived.Test.YtcmamfpcdhhboaaDM
import Derived.Test.YtcmamfpcdhhboaaCS
namespace Go.Proofs.Ytcmamfpcdhhboaa
open Go.RowKit
set_option maxRecDepth 100000

def fone : Option Nat := canon .f32 1065353216
def fzero : Option Nat := canon .f32 0
def conD (F : (Nat → Option Nat) × Int) (i : Nat) : Option Nat := fsub ((paintMade F fun _ => fone).1 i) ((paintMade F fun _ => fzero).1 i)
def conMade (F : (Nat → Option Nat) × Int) : Option Nat × Int :=
  if (paintMade F fun _ => fone).2 = 0 then if (paintMade F fun _ => fzero).2 = 0 then (endVal (conD F) (bestTo fgt (conD F) 16), 0) else (fzero, (paintMade F fun _ => fzero).2) else (fzero, (paintMade F fun _ => fone).2)

theorem some_cop {op : BinOp} {x y : Option Nat} (h : (cop op .f32 x y).isSome = true) : x.isSome = true ∧ y.isSome = true := by
  cases x with
  | none => cases h
  | some a =>
    cases y with
    | none => cases h
    | some b => exact ⟨rfl, rfl⟩
theorem fin_some {x : Option Nat} (h : fin x = true) : x.isSome = true := by
  cases x with
  | none => cases h
  | some a => rfl
theorem most_some {x : Option Nat} (h : (most x).isSome = true) : x.isSome = true := by
  cases x with
  | none => cases h
  | some a => rfl
theorem fin_times_zero {u : Option Nat} (h : (fmul u fzero).isSome = true) : fin u = true := by
  cases u with
  | none => cases h
  | some b =>
    rw [fin_dec]
    have e : fmul (some b) fzero = Option.map FloatKind.f32.format.write ((FloatKind.f32.decode b).product (FloatKind.f32.decode 0)) := rfl
    have d0 : FloatKind.f32.decode 0 = .number false 0 (-149) := by decide
    rw [e, d0] at h
    generalize FloatKind.f32.decode b = B at h ⊢
    cases B with
    | number s m i => exact ⟨_, _, _, rfl⟩
    | infinity s => cases h
    | nan s t => cases h
theorem con_elem {p : Option Nat × Option Nat} {v0 : Rat} (hv : Is .f32 p.1 v0) (h0 : 0 ≤ v0) (h1 : v0 ≤ 1) (hR : fin (dblN p 10).1 = true) (hg : gapOk (dblN p 10).1 fone = true)
    (hw : fin (upon (dblN p 10).1 (dblN p 10).2 fone (gapOf (dblN p 10).1 fone)) = true) (hb : fin (upon (dblN p 10).1 (dblN p 10).2 fzero (gapOf (dblN p 10).1 fzero)) = true) :
    fin (fsub (upon (dblN p 10).1 (dblN p 10).2 fone (gapOf (dblN p 10).1 fone)) (upon (dblN p 10).1 (dblN p 10).2 fzero (gapOf (dblN p 10).1 fzero))) = true := by
  have hu : fin (fmul (dblN p 10).2 (dblN p 10).2) = true := fin_times_zero (some_cop (some_cop (most_some (fin_some hb))).2).1
  have hle : (1 : Rat) ≤ p2 100 := by decide +kernel
  obtain ⟨v, hRv, hv1, hv2⟩ := dblN_bound p hv (by grind) (by grind) 10 (by decide) hR hu
  obtain ⟨uv, huv⟩ := fin_is.1 hu
  obtain ⟨tv, htv⟩ := fin_is.1 (fin_mul hu).1
  generalize (dblN p 10).1 = R at *
  generalize (dblN p 10).2 = T at *
  have h110 : p2 (100 + ((10 : Nat) : Int)) = p2 110 := rfl
  rw [h110] at hv1 hv2
  have h111 : p2 111 = 2 * p2 110 := p2_succ 110
  have h112 : p2 112 = 2 * p2 111 := p2_succ 111
  have h127 : p2 112 ≤ p2 126 := p2_mono (by decide)
  have h127' : p2 126 ≤ p2 127 := p2_mono (by decide)
  have hone : (1 : Rat) ≤ p2 110 := by decide +kernel
  have h127p := p2_pos 127
  -- black
  have huv0 : 0 ≤ uv := by
    refine mul_plus htv htv huv ?_
    rcases Rat.le_total (a := 0) (b := tv) with h | h
    · exact Rat.mul_nonneg h h
    · have := Rat.mul_nonneg (show 0 ≤ -tv by grind) (show 0 ≤ -tv by grind)
      grind
  have hn0 : Is .f32 (fmul (fmul T T) fzero) 0 := by
    obtain ⟨w, h2, h3⟩ := is_mul huv zero32 (k := .f32) (fit32 (by grind) (by grind))
    have := h3.of_rep (by rw [show uv * 0 = (0 : Rat) by grind]; exact zero32.rep)
    rw [show w = 0 by grind] at h2
    exact h2
  have hd0 : Is .f32 (gapOf R fzero) 1 := by
    obtain ⟨w, h2, h3⟩ := is_mul hRv zero32 (k := .f32) (fit32 (by grind) (by grind))
    have := h3.of_rep (by rw [show v * 0 = (0 : Rat) by grind]; exact zero32.rep)
    rw [show w = 0 by grind] at h2
    obtain ⟨w', h4, h5⟩ := is_sub one32 h2 (k := .f32) (fit32 (by grind) (by grind))
    have := h5.of_rep (by rw [show (1 : Rat) - 0 = 1 by grind]; exact one32.rep)
    rw [show w' = 1 by grind] at h4
    exact h4
  have hq0 : Is .f32 (fdiv (fmul (fmul T T) fzero) (gapOf R fzero)) 0 := by
    have e : (0 : Rat) / 1 = 0 := by grind
    obtain ⟨w, h2, h3⟩ := is_div hn0 hd0 (k := .f32) (by decide) (fit32 (by grind) (by grind))
    have := h3.of_rep (by rw [e]; exact zero32.rep)
    rw [show w = 0 by grind] at h2
    exact h2
  have hz0 : Is .f32 (fadd R (fdiv (fmul (fmul T T) fzero) (gapOf R fzero))) v := by
    obtain ⟨w, h2, h3⟩ := is_add hRv hq0 (k := .f32) (fit32 (by grind) (by grind))
    have := h3.of_rep (by rw [show v + 0 = v by grind]; exact hRv.rep)
    rw [show w = v by grind] at h2
    exact h2
  -- white
  have hm1 : Is .f32 (fmul R fone) v := by
    obtain ⟨w, h2, h3⟩ := is_mul hRv one32 (k := .f32) (fit32 (by grind) (by grind))
    have := h3.of_rep (by rw [show v * 1 = v by grind]; exact hRv.rep)
    rw [show w = v by grind] at h2
    exact h2
  obtain ⟨dv, hdv, hdR⟩ := is_sub one32 hm1 (k := .f32) (fit32 (by grind) (by grind))
  have hdv : Is .f32 (gapOf R fone) dv := hdv
  have hdp : 0 < dv := by
    have h2 : fgt (gapOf R fone) fzero = true := hg
    rw [show fgt (gapOf R fone) fzero = decide (0 < dv) from fgt_is hdv zero32] at h2
    simpa using h2
  have hv1' : v < 1 := by
    apply Rat.not_le.1
    intro h2
    have := hdR.up 0 zero32.rep (by grind)
    grind
  have hblack : upon R T fzero (gapOf R fzero) = fadd R (fdiv (fmul (fmul T T) fzero) (gapOf R fzero)) := by
    unfold upon most
    rw [show fgt (fadd R (fdiv (fmul (fmul T T) fzero) (gapOf R fzero))) (canon .f32 1065353216) = decide (1 < v) from fgt_is hz0 one32]
    rw [if_neg (by simp; grind)]
  rw [hblack]
  have hwhite : ∃ z, Is .f32 (upon R T fone (gapOf R fone)) z ∧ z ≤ 1 ∧ -p2 110 ≤ z := by
    unfold upon most at hw ⊢
    cases hc : fgt (fadd R (fdiv (fmul (fmul T T) fone) (gapOf R fone))) (canon .f32 1065353216) with
    | true => simp only [if_true]; exact ⟨1, one32, by grind, by grind⟩
    | false =>
      simp only [hc, Bool.false_eq_true, if_false] at hw ⊢
      obtain ⟨zv, hzv⟩ := fin_is.1 hw
      obtain ⟨qv, hqv⟩ := fin_is.1 (fin_add hw).2
      obtain ⟨nv, hnv⟩ := fin_is.1 (fin_div (fin_add hw).2).1
      have hnv0 : 0 ≤ nv := mul_plus huv one32 hnv (by grind)
      have hqv0 : 0 ≤ qv := div_plus hnv hdv hqv hnv0 hdp
      rw [show fgt (fadd R (fdiv (fmul (fmul T T) fone) (gapOf R fone))) (canon .f32 1065353216) = decide (1 < zv) from fgt_is hzv one32] at hc
      refine ⟨zv, hzv, by have := of_decide_eq_false hc; grind, ?_⟩
      by_cases hbig : v + qv ≤ p2 126
      · obtain ⟨w, h2, h3⟩ := is_add hRv hqv (k := .f32) (fit32 (by grind) (by grind))
        rw [hzv.uniq h2]
        exact h3.dn _ (rep32_p2 110 (by decide) (by decide)).neg (by grind)
      · have := add_plus hRv hqv hzv (by have := p2_pos 126; grind)
        grind
  obtain ⟨z, hz, hz1, hz2⟩ := hwhite
  obtain ⟨w, h2, _⟩ := is_sub hz hz0 (k := .f32) (fit32 (by grind) (by grind))
  exact fin_is.2 ⟨w, h2⟩
theorem best_is {lt : Option Nat → Option Nat → Bool} {c : Nat → Option Nat} : ∀ n, (∀ i, i < n + 1 → fin (c i) = true) → ∃ b, b < n + 1 ∧ bestTo lt c (n + 1) = some b
  | 0, h => ⟨0, by omega, by
      show stepTo lt c 0 none = some 0
      simp [stepTo, fin_some (h 0 (by omega))]⟩
  | n + 1, h => by
    obtain ⟨b, hb, he⟩ := best_is (lt := lt) n fun i hi => h i (by omega)
    have e : bestTo lt c (n + 1 + 1) = stepTo lt c (n + 1) (bestTo lt c (n + 1)) := rfl
    rw [e, he]
    simp only [stepTo, fin_some (h (n + 1) (by omega)), if_true]
    split
    · exact ⟨n + 1, by omega, rfl⟩
    · exact ⟨b, by omega, rfl⟩
theorem con_fin {a : Nat → Nat} (h1 : (paintMade (filmOfRes a) fun _ => fone).2 = 0) (h2 : (paintMade (filmOfRes a) fun _ => fzero).2 = 0) :
    fin (endVal (conD (filmOfRes a)) (bestTo fgt (conD (filmOfRes a)) 16)) = true := by
  have hall : ∀ i, i < 16 → fin (conD (filmOfRes a) i) = true := by
    by_cases hF : (filmOfRes a).2 = 0
    · unfold conD
      simp only [paintMade, hF, if_true] at h1 h2 ⊢
      unfold filmOfRes at hF
      by_cases hl : layerOk a = true
      · have e1 : filmOfRes a = filmMade (fun i => canon .f32 (a i)) := by unfold filmOfRes; rw [if_pos hl]
        rw [if_pos hl] at hF
        rw [e1] at h1 h2 ⊢
        unfold filmMade at hF
        by_cases hs : (allTo 16 fun i => !tooStrong (canon .f32 (a i)) (canon .f32 (a (16 + i))) (thinX (canon .f32 (a 32)))) = true
        · have e2 : filmMade (fun i => canon .f32 (a i)) = finFilmRes (filmAt fun i => canon .f32 (a i)) := by unfold filmMade; rw [if_pos hs]
          rw [if_pos hs] at hF
          rw [e2] at h1 h2 ⊢
          unfold finFilmRes at hF
          by_cases hf : finFilm (filmAt fun i => canon .f32 (a i)) = true
          · have e3 : finFilmRes (filmAt fun i => canon .f32 (a i)) = (filmAt fun i => canon .f32 (a i), 0) := by unfold finFilmRes; rw [if_pos hf]
            rw [e3] at h1 h2 ⊢
            dsimp only at h1 h2 ⊢
            unfold overRes at h1 h2 ⊢
            have hone : (allTo 16 fun _ => share fone) = true := allTo_true fun _ _ => by decide
            have hzero : (allTo 16 fun _ => share fzero) = true := allTo_true fun _ _ => by decide
            rw [if_pos hone] at h1 ⊢
            rw [if_pos hzero] at h2 ⊢
            by_cases hg : (allTo 16 fun i => gapOk (filmAt (fun i => canon .f32 (a i)) (16 + i)) fone) = true
            · by_cases hg2 : (allTo 16 fun i => gapOk (filmAt (fun i => canon .f32 (a i)) (16 + i)) fzero) = true
              · rw [if_pos hg] at h1 ⊢
                rw [if_pos hg2] at h2 ⊢
                unfold finRes at h1 h2 ⊢
                by_cases hw : (allTo 16 fun i => fin (overAt (filmAt fun i => canon .f32 (a i)) (fun _ => fone) i)) = true
                · by_cases hb : (allTo 16 fun i => fin (overAt (filmAt fun i => canon .f32 (a i)) (fun _ => fzero) i)) = true
                  · rw [if_pos hw, if_pos hb]
                    dsimp only
                    intro i hi
                    have w1 := allTo_get hw hi
                    have b1 := allTo_get hb hi
                    have g1 := allTo_get hg hi
                    have s1 := allTo_get hs hi
                    have f1 := allTo_get (Bool.and_eq_true _ _ ▸ (Bool.and_eq_true _ _ ▸ hf).1).1 hi
                    unfold overAt at w1 b1 ⊢
                    have r1 : filmAt (fun i => canon .f32 (a i)) i = (dblN (thin (canon .f32 (a i)) (canon .f32 (a (16 + i))) (thinX (canon .f32 (a 32)))) 10).1 := by simp only [filmAt, hi, if_true]
                    have r2 : filmAt (fun i => canon .f32 (a i)) (16 + i) = (dblN (thin (canon .f32 (a i)) (canon .f32 (a (16 + i))) (thinX (canon .f32 (a 32)))) 10).1 := by
                      simp only [filmAt, show ¬(16 + i < 16) by omega, show 16 + i < 32 by omega, if_true, if_false, show 16 + i - 16 = i by omega]
                    have r3 : filmAt (fun i => canon .f32 (a i)) (32 + i) = (dblN (thin (canon .f32 (a i)) (canon .f32 (a (16 + i))) (thinX (canon .f32 (a 32)))) 10).2 := by
                      simp only [filmAt, show ¬(32 + i < 16) by omega, show ¬(32 + i < 32) by omega, if_false, show 32 + i - 32 = i by omega, show 32 + i - 16 = 16 + i by omega]
                    rw [r1, r2, r3] at w1 b1 ⊢
                    rw [r2] at g1
                    rw [r1] at f1
                    have hu := fin_times_zero (some_cop (some_cop (most_some (fin_some b1))).2).1
                    have hp := (dblN_fin _ 10 f1 hu).1
                    obtain ⟨v0, hv0⟩ := fin_is.1 hp
                    -- the thin film
                    have hl3 : (allTo 16 (fun i => amount (canon .f32 (rowAt a 16 i)))) = true ∧ amount (canon .f32 (a 32)) = true := by
                      have := hl
                      unfold layerOk at this
                      rw [Bool.and_eq_true, Bool.and_eq_true] at this
                      exact ⟨this.1.2, this.2⟩
                    have am : ∀ x, amount x = true → ∀ v, Is .f32 x v → 0 ≤ v := by
                      intro x hx v hv
                      unfold amount at hx
                      rw [Bool.and_eq_true, fge_is hv zero32] at hx
                      simpa using hx.1
                    obtain ⟨hfs, hfx⟩ := fin_mul (x := canon .f32 (a (16 + i))) (y := thinX (canon .f32 (a 32))) hp
                    obtain ⟨sv, hsv⟩ := fin_is.1 hfs
                    obtain ⟨xv, hxv⟩ := fin_is.1 hfx
                    obtain ⟨tv, htv⟩ := fin_is.1 (fin_div hfx).1
                    have hs0 : 0 ≤ sv := am _ (allTo_get hl3.1 hi) _ hsv
                    have ht0 : 0 ≤ tv := am _ hl3.2 _ htv
                    have h1024 : Is .f32 (canon .f32 1149239296) 1024 := ⟨1149239296, false, 8388608, -13, by decide, by decide, by decide +kernel⟩
                    have hx0 : 0 ≤ xv := div_plus htv h1024 hxv ht0 (by decide)
                    have hv0p : 0 ≤ v0 := mul_plus hsv hxv hv0 (Rat.mul_nonneg hs0 hx0)
                    have hv1 : v0 ≤ 1 := by
                      have s2 : tooStrong (canon .f32 (a i)) (canon .f32 (a (16 + i))) (thinX (canon .f32 (a 32))) = false := by simpa using s1
                      unfold tooStrong strong at s2
                      rw [Bool.or_eq_false_iff] at s2
                      have s3 := s2.2
                      rw [show fgt (thinR (canon .f32 (a (16 + i))) (thinX (canon .f32 (a 32)))) (canon .f32 1065353216) = decide (1 < v0) from fgt_is hv0 one32] at s3
                      have := of_decide_eq_false s3
                      grind
                    exact con_elem hv0 hv0p hv1 f1 g1 w1 b1
                  · rw [if_neg hb] at h2; cases h2
                · rw [if_neg hw] at h1; cases h1
              · rw [if_neg hg2] at h2; cases h2
            · rw [if_neg hg] at h1; cases h1
          · rw [if_neg hf] at hF; cases hF
        · rw [if_neg hs] at hF; cases hF
      · rw [if_neg hl] at hF; cases hF
    · simp only [paintMade, hF, if_false] at h1
  obtain ⟨b, hb, he⟩ := best_is (lt := fgt) (c := conD (filmOfRes a)) 15 hall
  rw [he]
  exact hall b hb
end Go.Proofs.Ytcmamfpcdhhboaa
