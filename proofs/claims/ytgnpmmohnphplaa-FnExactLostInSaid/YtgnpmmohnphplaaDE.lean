/- Contracts: what is lost in a film. -/
import Derived.Test.YtgnpmmohnphplaaCR
import Derived.Test.YtgnpmmohnphplaaCG
import Derived.Test.YtgnpmmohnphplaaCnv
namespace Go.Proofs.Ytgnpmmohnphplaa
open Go.RowKit
set_option maxRecDepth 100000

def lostAt (r t : Option Nat) : Option Nat := if flt (fsub (fsub (canon .f32 1065353216) r) t) (canon .f32 0) then canon .f32 0 else fsub (fsub (canon .f32 1065353216) r) t
def lostRes (f : Nat → Nat) : (Nat → Option Nat) × Int := if filmOk f then (fun i => lostAt (canon .f32 (f i)) (canon .f32 (f (32 + i))), 0) else (fun _ => canon .f32 0, 1)

theorem one32 : Is .f32 (canon .f32 1065353216) 1 := ⟨1065353216, false, 8388608, -23, by decide, by decide, by decide +kernel⟩
theorem zero32 : Is .f32 (canon .f32 0) 0 := ⟨0, false, 0, -149, by decide, by decide, by decide +kernel⟩
theorem share_is {x : Option Nat} (h : share x = true) : ∃ v, Is .f32 x v ∧ 0 ≤ v ∧ v ≤ 1 := by
  obtain ⟨b, s, m, e, rfl, hd⟩ := share_number h
  have hI : Is .f32 (some b) (sg s ((m : Rat) * p2 e)) := ⟨b, s, m, e, rfl, hd, rfl⟩
  unfold share at h
  rw [fge_is hI zero32, fle_is hI one32] at h
  simp at h
  exact ⟨_, hI, h.1, h.2⟩
theorem nearest_le (f : Ieee.Format) (m : Nat) (p : Int) : ∃ r, r ≤ f.infRung ∧ ∀ s, f.nearest s m p = f.word s r := by
  unfold Ieee.Format.nearest
  by_cases hm : m = 0
  · exact ⟨0, Nat.zero_le _, fun s => by rw [if_pos hm]⟩
  · exact ⟨_, Nat.min_le_right .., fun s => by rw [if_neg hm]; cases s <;> rfl⟩
/-- A number that is not below 0, with the sign of such a number. -/
def Plus (x : Option Nat) : Prop := ∃ b m e, x = some b ∧ FloatKind.f32.decode b = .number false m e
theorem sub_eq {x y : Option Nat} {a b : Nat} {s t : Bool} {m n : Nat} {i j : Int} (hx : x = some a) (hy : y = some b) (ha : FloatKind.f32.decode a = .number s m i) (hb : FloatKind.f32.decode b = .number t n j) :
    fsub x y = some (Ieee.single.nearest (if Ieee.signed s m (i - min i j).toNat + Ieee.signed (!t) n (j - min i j).toNat = 0 then s && !t else decide (Ieee.signed s m (i - min i j).toNat + Ieee.signed (!t) n (j - min i j).toNat < 0)) (Ieee.signed s m (i - min i j).toNat + Ieee.signed (!t) n (j - min i j).toNat).natAbs (min i j)) := by
  subst hx; subst hy
  show Option.map FloatKind.f32.format.write ((FloatKind.f32.decode a).sum (FloatKind.f32.decode b).opposite) = _
  rw [ha, hb]
  rfl
theorem dec_sub (s t : Bool) (m n : Nat) (i j : Int) : ((Ieee.signed s m (i - min i j).toNat + Ieee.signed (!t) n (j - min i j).toNat : Int) : Rat) * p2 (min i j) = sg s ((m : Rat) * p2 i) - sg t ((n : Rat) * p2 j) := by
  rw [Rat.intCast_add, Rat.add_mul, signed_dq s m i _ (by omega), signed_dq (!t) n j _ (by omega), sg_not]
  grind
theorem one_less {x : Option Nat} (h : share x = true) : Plus (fsub (canon .f32 1065353216) x) ∧ ∃ v, Is .f32 (fsub (canon .f32 1065353216) x) v := by
  obtain ⟨b, s, m, e, rfl, hd⟩ := share_number h
  obtain ⟨v, hv, h0, h1⟩ := share_is h
  have hI : Is .f32 (some b) (sg s ((m : Rat) * p2 e)) := ⟨b, s, m, e, rfl, hd, rfl⟩
  have hvv := hv.uniq hI
  have d1 : FloatKind.f32.decode 1065353216 = .number false 8388608 (-23) := by decide
  have k1 : canon .f32 1065353216 = some 1065353216 := by decide
  have heq := sub_eq k1 rfl d1 hd
  have hv1 := dec_sub false s 8388608 m (-23) e
  generalize Ieee.signed false 8388608 (-23 - min (-23) e).toNat + Ieee.signed (!s) m (e - min (-23) e).toNat = T at *
  have e1 : sg false (((8388608 : Nat) : Rat) * p2 (-23)) = 1 := by decide +kernel
  rw [e1, ← hvv] at hv1
  have hT : 0 ≤ T := by
    apply Int.not_lt.1
    intro hlt
    have h2 : (T : Rat) < 0 := Rat.intCast_neg_iff.2 hlt
    have h3 := mul_lt_r h2 (p2_pos (min (-23) e))
    grind
  have hS : (if T = 0 then false && !s else decide (T < 0)) = false := by
    by_cases h2 : T = 0
    · rw [if_pos h2]; rfl
    · rw [if_neg h2]; simp; omega
  rw [hS] at heq
  have h127 : (1 : Rat) ≤ p2 127 := by decide +kernel
  obtain ⟨w, h2, h3⟩ := is_sub one32 hv (k := .f32) (fit32 (by grind) (by grind))
  refine ⟨?_, w, h2⟩
  obtain ⟨b', s', m', e', h4, h5, h6⟩ := h2
  have h4' : fsub (canon .f32 1065353216) (some b) = some b' := h4
  rw [heq] at h4'
  injection h4' with h4'
  refine ⟨b', m', e', h4, ?_⟩
  rw [h5]
  congr 1
  obtain ⟨r, hr, hn⟩ := nearest_le Ieee.single T.natAbs (min (-23) e)
  rw [hn false] at h4'
  have h7 : FloatKind.f32.decode b' = Ieee.single.read b' := rfl
  rw [← h4'] at h5
  have hw := (word_parts Ieee.single false (show r < Ieee.single.signWeight by have := Ieee.single.infRung_lt; omega))
  obtain ⟨h8, _⟩ := fin_read Ieee.single (by decide) h5
  obtain ⟨m2, e2, h9, _⟩ := read_fin Ieee.single (Ieee.single.word false r) h8
  rw [hw.2] at h9
  have h10 : Ieee.single.read (Ieee.single.word false r) = .number s' m' e' := h5
  rw [h9] at h10
  injection h10 with h11
  exact h11.symm
/-- What is left is above 0, or below, or the number 0 with the sign of such. -/
theorem left_zero {x y : Option Nat} {u : Rat} (hx : Plus x) (hu : Is .f32 x u) (hy : share y = true) : (∃ v, Is .f32 (fsub x y) v) ∧ (flt (fsub x y) (canon .f32 0) = false → fgt (fsub x y) (canon .f32 0) = false → fsub x y = canon .f32 0) := by
  obtain ⟨b, m, e, rfl, hd⟩ := hx
  obtain ⟨c, t, n, j, rfl, hd'⟩ := share_number hy
  obtain ⟨v, hv, h0, h1⟩ := share_is hy
  have hI : Is .f32 (some b) (sg false ((m : Rat) * p2 e)) := ⟨b, false, m, e, rfl, hd, rfl⟩
  have hJ : Is .f32 (some c) (sg t ((n : Rat) * p2 j)) := ⟨c, t, n, j, rfl, hd', rfl⟩
  have hvv := hv.uniq hJ
  have huu := hu.uniq hI
  have hle := rep32_le hu.rep
  have hu0 : 0 ≤ u := by
    rw [huu]
    exact Rat.mul_nonneg Rat.natCast_nonneg (Rat.le_of_lt (p2_pos _))
  have hf : Fit Ieee.single (u - v) := by
    obtain ⟨r, hr, hrep⟩ := hu.rep
    have h2 := rungV_nonneg Ieee.single r
    have hmax : ∃ R, R < Ieee.single.infRung ∧ u ≤ rungV Ieee.single R ∧ 1 ≤ rungV Ieee.single R := by
      refine ⟨max r 1065353216, by have : r < 2139095040 := hr; rw [e32.2.1]; omega, ?_, ?_⟩
      · have h3 := rungV_le Ieee.single (show r ≤ max r 1065353216 by omega)
        have hrep' : u = rungV Ieee.single r ∨ u = -rungV Ieee.single r := hrep
        grind
      · have h3 := rungV_le Ieee.single (show 1065353216 ≤ max r 1065353216 by omega)
        have h4 : rungV Ieee.single 1065353216 = 1 := by
          have := rungV_form Ieee.single 126 8388608 (.inr (by decide)) (by decide)
          have e1 : (126 * Ieee.single.binade + 8388608) = 1065353216 := by decide
          rw [e1, e32.2.2.2.1] at this
          rw [this]
          decide +kernel
        grind
    obtain ⟨R, hR, h5, h6⟩ := hmax
    exact ⟨R, hR, by grind, by grind⟩
  obtain ⟨z, h2, h3⟩ := is_sub hu hv (k := .f32) hf
  refine ⟨⟨z, h2⟩, fun hl hg => ?_⟩
  have h2' : Is .f32 (fsub (some b) (some c)) z := h2
  rw [flt_is h2' zero32] at hl
  rw [fgt_is h2' zero32] at hg
  have hz : z = 0 := by simp at hl hg; grind
  -- nothing but 0 is rounded to 0
  have heq := sub_eq rfl rfl hd hd'
  have hv1 := dec_sub false t m n e j
  rw [← huu, ← hvv] at hv1
  obtain ⟨_, h4, _, _, _⟩ := num32 hd
  have h5 := (num32 hd').2.1
  have hT : Ieee.signed false m (e - min e j).toNat + Ieee.signed (!t) n (j - min e j).toNat = 0 := by
    generalize Ieee.signed false m (e - min e j).toNat + Ieee.signed (!t) n (j - min e j).toNat = T at *
    apply Decidable.byContradiction
    intro hT
    have hp := p2_mono (show (-149 : Int) ≤ min e j by omega)
    have hr := rep32_p2 (-149) (by decide) (by decide)
    have hq := p2_pos (-149)
    rcases Int.lt_or_gt_of_ne hT with h6 | h6
    · have h7 : (T : Rat) ≤ -1 := by have := Rat.intCast_le_intCast.2 (show T ≤ -1 by omega); simpa using this
      have h8 := mul_le_r h7 (Rat.le_of_lt (p2_pos (min e j)))
      have h9 := h3.up (-(p2 (-149))) hr.neg (by grind)
      grind
    · have h7 : (1 : Rat) ≤ T := by have := Rat.intCast_le_intCast.2 (show 1 ≤ T by omega); simpa using this
      have h8 := mul_le_r h7 (Rat.le_of_lt (p2_pos (min e j)))
      have h9 := h3.dn (p2 (-149)) hr (by grind)
      grind
  rw [heq, if_pos hT, hT]
  unfold Ieee.Format.nearest
  rfl
theorem lost_same {r t : Option Nat} (hr : share r = true) (ht : share t = true) : lostAt r t = if fgt (fsub (fsub (canon .f32 1065353216) r) t) (canon .f32 0) then fsub (fsub (canon .f32 1065353216) r) t else canon .f32 0 := by
  obtain ⟨h1, u, hu⟩ := one_less hr
  obtain ⟨⟨v, hv⟩, h3⟩ := left_zero h1 hu ht
  unfold lostAt
  rw [flt_is hv zero32, fgt_is hv zero32] at *
  by_cases ha : v < 0
  · have hb : ¬ 0 < v := by grind
    simp [ha, hb]
  · by_cases hb : 0 < v
    · simp [ha, hb]
    · simp only [ha, hb, decide_false, Bool.false_eq_true, if_false]
      exact h3 (by simp [ha]) (by simp [hb])

theorem lostOne_any (r t : Nat) (w : World) : Calls Try.prog 58 #[.float .f32 r, .float .f32 t] w (RetFq w (lostAt (canon .f32 r) (canon .f32 t))) := by
  have hc : ∀ w1 w2, (FloatKind.f32.format.order (fval .sub .f32 (fval .sub .f32 1065353216 r w1) t w2) 0 == some .lt) = flt (fsub (fsub (canon .f32 1065353216) (canon .f32 r)) (canon .f32 t)) (canon .f32 0) := fun w1 w2 => by rw [o_lt, c_sub, c_sub]
  cases hq : flt (fsub (fsub (canon .f32 1065353216) (canon .f32 r)) (canon .f32 t)) (canon .f32 0) with
  | true =>
    rw [hq] at hc
    have Hm : Hid (lostAt (canon .f32 r) (canon .f32 t) = canon .f32 0) := Lib.hid (by unfold lostAt; rw [hq]; rfl)
    clear hq
    go_enter Try.func58, Try.ntmps58
    go_wp2
    go_ret
    exact ⟨_, rfl, Hm.out.symm, _, rfl⟩
  | false =>
    rw [hq] at hc
    have Hm : Hid (lostAt (canon .f32 r) (canon .f32 t) = fsub (fsub (canon .f32 1065353216) (canon .f32 r)) (canon .f32 t)) := Lib.hid (by unfold lostAt; rw [hq]; rfl)
    clear hq
    go_enter Try.func58, Try.ntmps58
    go_wp2
    go_ret
    exact ⟨_, rfl, by rw [c_sub, c_sub, Hm.out], _, rfl⟩
theorem iLostIn_any (f : Nat → Nat) (w : World) : Calls Try.prog 23 #[.agg (fA 48 f)] w (RetCC 16 w (lostRes f).1 (lostRes f).2) := by
  have hA : Blk ((w.alloc (.cells (fA 48 f) 37)).alloc (.cells (fA 16 fun _ => 0) 24)) w.heap.size 37 (fA 48 f) := (Blk.new _ _ _).alloc _
  have hZ : Blk ((w.alloc (.cells (fA 48 f) 37)).alloc (.cells (fA 16 fun _ => 0) 24)) (w.heap.size + 1) 24 (fA 16 fun _ => 0) := Blk.new_at _ _ (by simp) rfl
  have hb : Below w.heap.size w ((w.alloc (.cells (fA 48 f) 37)).alloc (.cells (fA 16 fun _ => 0) 24)) := (by repeat (first | assumption | exact Below.refl _ _ | refine bDrew ?_ _ | refine Below.alloc ?_ (by first | omega | (simp; done) | (simp; omega)) _ | refine Below.setCell ?_ (by first | omega | (simp; done) | (simp; omega)) _ | refine bRow ?_ (by first | omega | (simp; done) | (simp; omega)) _))
  go_enter Try.func23, Try.ntmps23
  go_wp2_with (refine wpList_load_row rfl 37 _ rfl _ rfl _ _ (0, 0) _ hA Try.underlying37 rfl (by kernel_rfl) ?_)
  refine (iValidFilm_any f ((w.alloc (.cells (fA 48 f) 37)).alloc (.cells (fA 16 fun _ => 0) 24))).mono ?_
  rintro e w1 ⟨rfl, hb1⟩
  have hA := hA.below hb1 hA.lt
  have hZ := hZ.below hb1 hZ.lt
  have hb := bCall hb hb1 hb.size; clear hb1
  cases hs : filmOk f with
  | false =>
    have Hm : Hid (lostRes f = (fun _ => canon .f32 0, 1)) := Lib.hid (by unfold lostRes; rw [hs]; rfl)
    clear hs
    go_wp2_with (first | (refine wpList_build_as rfl 24 _ rfl (fA 16 fun _ => 0) (by kernel_rfl) ?_) | (refine wpList_store_row rfl 24 _ _ rfl _ _ rfl rfl _ _ hZ (by kernel_rfl) (by simp only [size_fA]) (all_fA _ _) ?_)); exact bodyPost_ret (results_cell_row2 rfl _ _ (w.heap.size + 1) _ _ _ _ rfl hZ.setRow Try.underlying24 rfl (by kernel_rfl)) rfl (RetCC.as Hm.out ⟨_, rfl, fun _ _ => rfl, (by repeat (first | assumption | exact Below.refl _ _ | refine bDrew ?_ _ | refine Below.alloc ?_ (by first | omega | (simp; done) | (simp; omega)) _ | refine Below.setCell ?_ (by first | omega | (simp; done) | (simp; omega)) _ | refine bRow ?_ (by first | omega | (simp; done) | (simp; omega)) _))⟩)
  | true =>
    have Hm : Hid (lostRes f = (fun i => lostAt (canon .f32 (f i)) (canon .f32 (f (32 + i))), 0)) := Lib.hid (by unfold lostRes; rw [hs]; rfl)
    clear hs
    go_wp2_with (first | (refine wpList_load_part rfl 24 _ rfl 0 16 hA rfl (by decide) Try.underlying24 rfl (by kernel_rfl) ?_) | (refine wpList_load_part rfl 24 _ rfl 32 16 hA rfl (by decide) Try.underlying24 rfl (by kernel_rfl) ?_))
    refine (with_any 58 #[] lostAt (rowAt f 0) (rowAt f 32) w1 (fun _ _ => by kernel_rfl) (fun x y w1 _ => (lostOne_any x y w1).mono fun _ _ h => h.to)).mono ?_
    rintro e w3 ⟨r, rfl, hr, hb1⟩
    have hZ := hZ.below hb1 hZ.lt
    have hb := bCall hb hb1 hb.size
    have Hr := Lib.hid hr
    clear hr hb1
    go_wp2_with (refine wpList_store_row rfl 24 _ _ rfl _ _ rfl rfl _ _ hZ (by kernel_rfl) (by simp only [size_fA]) (all_fA _ _) ?_)
    exact bodyPost_ret (results_cell_row2 rfl _ _ (w.heap.size + 1) _ _ _ _ rfl hZ.setRow Try.underlying24 rfl (by kernel_rfl)) rfl (RetCC.as Hm.out ⟨r, rfl, fun i hi => (Hr.out i hi).trans (by simp only [rowAt, Nat.zero_add]), (by repeat (first | assumption | exact Below.refl _ _ | refine bDrew ?_ _ | refine Below.alloc ?_ (by first | omega | (simp; done) | (simp; omega)) _ | refine Below.setCell ?_ (by first | omega | (simp; done) | (simp; omega)) _ | refine bRow ?_ (by first | omega | (simp; done) | (simp; omega)) _))⟩)
theorem sLostIn_any (f : Nat → Nat) (w : World) : Calls Try.prog 21 #[.agg (fA 48 f)] w (RetCC 16 w (lostRes f).1 (lostRes f).2) := by
  have hA : Blk ((w.alloc (.cells (fA 48 f) 37)).alloc (.cells (fA 16 fun _ => 0) 24)) w.heap.size 37 (fA 48 f) := (Blk.new _ _ _).alloc _
  have hZ : Blk ((w.alloc (.cells (fA 48 f) 37)).alloc (.cells (fA 16 fun _ => 0) 24)) (w.heap.size + 1) 24 (fA 16 fun _ => 0) := Blk.new_at _ _ (by simp) rfl
  have hb : Below w.heap.size w ((w.alloc (.cells (fA 48 f) 37)).alloc (.cells (fA 16 fun _ => 0) 24)) := (by repeat (first | assumption | exact Below.refl _ _ | refine bDrew ?_ _ | refine Below.alloc ?_ (by first | omega | (simp; done) | (simp; omega)) _ | refine Below.setCell ?_ (by first | omega | (simp; done) | (simp; omega)) _ | refine bRow ?_ (by first | omega | (simp; done) | (simp; omega)) _))
  go_enter Try.func21, Try.ntmps21
  go_wp2_with fail
  refine (l02Film_any _ _ f ((w.alloc (.cells (fA 48 f) 37)).alloc (.cells (fA 16 fun _ => 0) 24)) hA).mono ?_
  rintro e w1 ⟨rfl, hb1⟩
  have hA := hA.below hb1 hA.lt
  have hZ := hZ.below hb1 hZ.lt
  have hb := bCall hb hb1 hb.size; clear hb1
  cases hs : filmOk f with
  | false =>
    have Hm : Hid (lostRes f = (fun _ => canon .f32 0, 1)) := Lib.hid (by unfold lostRes; rw [hs]; rfl)
    clear hs
    go_wp2_with (first | (refine wpList_build_as rfl 24 _ rfl (fA 16 fun _ => 0) (by kernel_rfl) ?_) | (refine wpList_store_row rfl 24 _ _ rfl _ _ rfl rfl _ _ hZ (by kernel_rfl) (by simp only [size_fA]) (all_fA _ _) ?_)); exact bodyPost_ret (results_cell_row2 rfl _ _ (w.heap.size + 1) _ _ _ _ rfl hZ.setRow Try.underlying24 rfl (by kernel_rfl)) rfl (RetCC.as Hm.out ⟨_, rfl, fun _ _ => rfl, (by repeat (first | assumption | exact Below.refl _ _ | refine bDrew ?_ _ | refine Below.alloc ?_ (by first | omega | (simp; done) | (simp; omega)) _ | refine Below.setCell ?_ (by first | omega | (simp; done) | (simp; omega)) _ | refine bRow ?_ (by first | omega | (simp; done) | (simp; omega)) _))⟩)
  | true =>
    have Hm : Hid (lostRes f = (fun i => lostAt (canon .f32 (f i)) (canon .f32 (f (32 + i))), 0)) := Lib.hid (by unfold lostRes; rw [hs]; rfl)
    have Hs := Lib.hid hs
    clear hs
    have hO : Blk (w1.alloc (.cells (fA 16 fun _ => 0) 24)) w1.heap.size 24 (fA 16 fun _ => 0) := Blk.new _ _ _
    have hO2 : Blk ((w1.alloc (.cells (fA 16 fun _ => 0) 24)).setRow w1.heap.size (fA 16 fun _ => 0)) w1.heap.size 24 (fA 16 fun _ => 0) := hO.setRow
    have hA2 : Blk ((w1.alloc (.cells (fA 16 fun _ => 0) 24)).setRow w1.heap.size (fA 16 fun _ => 0)) w.heap.size 37 (fA 48 f) := (hA.alloc _).farRow (by have := hA.lt; omega)
    have hZ2 : Blk ((w1.alloc (.cells (fA 16 fun _ => 0) 24)).setRow w1.heap.size (fA 16 fun _ => 0)) (w.heap.size + 1) 24 (fA 16 fun _ => 0) := (hZ.alloc _).farRow (by have := hZ.lt; omega)
    have hb2 : Below w.heap.size w ((w1.alloc (.cells (fA 16 fun _ => 0) 24)).setRow w1.heap.size (fA 16 fun _ => 0)) := bRow (Below.alloc hb hb.size _) hb.size _
    have hg : w.heap.size + 1 < w1.heap.size := hZ.lt
    clear hA hZ hb
    go_wp2_with (first | (refine wpList_build_as rfl 24 _ rfl (fA 16 fun _ => 0) (by kernel_rfl) ?_) | (refine wpList_store_row rfl 24 _ _ rfl _ _ rfl rfl _ _ hO (by kernel_rfl) (by simp only [size_fA]) (all_fA _ _) ?_))
    go_loopw [5, 6] (fun i _ wr => ∃ (k : Nat) (cur : Nat → Nat), k ≤ 16 ∧ i = .int .i64 k ∧ Below w.heap.size w wr ∧ Blk wr w.heap.size 37 (fA 48 f) ∧ Blk wr (w.heap.size + 1) 24 (fA 16 fun _ => 0) ∧ Blk wr w1.heap.size 24 (fA 16 cur) ∧ (∀ j, j < k → canon .f32 (cur j) = lostAt (canon .f32 (f j)) (canon .f32 (f (32 + j)))) ∧ ∀ j, k ≤ j → cur j = 0) (fun i _ _ => 16 - (intOf i).toNat)
    case atStart => exact ⟨0, fun _ => 0, by omega, rfl, hb2, hA2, hZ2, hO2, fun j h => absurd h (by omega), fun _ _ => rfl⟩
    case round =>
      clear hO hO2 hA2 hZ2 hb2
      obtain ⟨k, cur, hk, rfl, hb, hA, hZ, hC, hc, ho⟩ := hrel
      have Hc := Lib.hid hc
      have Ho := Lib.hid ho
      clear hc ho
      by_cases hlt : k < 16
      · have c0 : wr.cell? ⟨w.heap.size, k, none⟩ = some (.float .f32 (f k)) := (hA.cell k).trans (get_fA_lt f (by omega))
        have c2 : wr.cell? ⟨w.heap.size, 32 + k, none⟩ = some (.float .f32 (f (32 + k))) := (hA.cell (32 + k)).trans (get_fA_lt f (by omega))
        have c3 := (hC.cell k).trans (get_fA_lt cur hlt)
        have f1 := hC.frozen k
        have HL : Hid (lostAt (canon .f32 (f k)) (canon .f32 (f (32 + k))) = if fgt (fsub (fsub (canon .f32 1065353216) (canon .f32 (f k))) (canon .f32 (f (32 + k)))) (canon .f32 0) then fsub (fsub (canon .f32 1065353216) (canon .f32 (f k))) (canon .f32 (f (32 + k))) else canon .f32 0) := Lib.hid (by
          have h := Hs.out
          unfold filmOk at h
          simp only [Bool.and_eq_true] at h
          have h1 := allTo_get h.1.1.1.1 hlt
          have h2 := allTo_get h.1.1.2 hlt
          simp only [rowAt, Nat.zero_add] at h1 h2
          exact lost_same h1 h2)
        go_wp2_with fail
        (refine wp_region_loose_lit (fun w' => ∃ n, w' = wr.drewN n) (fun _ _ _ => False) (by kernel_rfl) (by kernel_rfl) ⟨1, rfl⟩ ?_)
        repeat (refine wpLoose_plain rfl (fun K hK w1 hw1 => ?_); obtain ⟨n, rfl⟩ := hw1; go_simp; refine ⟨⟨_, rfl⟩, hK _ ?_⟩; clear hK K)
        (refine wpLoose_nil ?_; intro _ hw'; obtain ⟨nq, rfl⟩ := hw')
        have hq : ∀ w1 w2, (FloatKind.f32.format.order (fval .sub .f32 (fval .sub .f32 1065353216 (f k) w1) (f (32 + k)) w2) 0 == some .gt) = fgt (fsub (fsub (canon .f32 1065353216) (canon .f32 (f k))) (canon .f32 (f (32 + k)))) (canon .f32 0) := fun w1 w2 => by rw [o_gt, c_sub, c_sub]
        cases hv : fgt (fsub (fsub (canon .f32 1065353216) (canon .f32 (f k))) (canon .f32 (f (32 + k)))) (canon .f32 0) with
        | true =>
          rw [hv] at hq
          have HV := Lib.hid hv
          clear hv
          go_wp2
          go_roundw
          case rel => exact ⟨k + 1, _, by omega, by go_num, (bDrew hb _).setCell (by dsimp only; omega) _, Blk.far (Blk.drewN hA _) (by dsimp only; omega) _, Blk.far (Blk.drewN hZ _) (by dsimp only; omega) _, Blk.setF (Blk.drewN hC _) k _, upd_to (Q := fun j v => canon .f32 v = lostAt (canon .f32 (f j)) (canon .f32 (f (32 + j)))) Hc.out (by rw [HL.out, HV.out, c_sub, c_sub]; rfl), upd_from Ho.out⟩
          case measure => simp [intOf]; omega
        | false =>
          rw [hv] at hq
          have HV := Lib.hid hv
          clear hv
          go_wp2
          go_roundw
          case rel =>
            refine ⟨k + 1, cur, by omega, by go_num, bDrew hb _, Blk.drewN hA _, Blk.drewN hZ _, Blk.drewN hC _, ?_, fun j hj => Ho.out j (by omega)⟩
            intro j hj
            by_cases e : j = k
            · subst e
              rw [HL.out, HV.out, Ho.out j (Nat.le_refl _)]
              rfl
            · exact Hc.out j (by omega)
          case measure => simp [intOf]; omega
      · obtain rfl : k = 16 := by omega
        go_wp2_with (first | (refine wpList_load_row rfl 24 _ rfl _ rfl _ _ (0, 0) _ hC Try.underlying24 rfl (by kernel_rfl) ?_) | (refine wpList_store_row rfl 24 _ _ rfl _ _ rfl rfl _ _ hZ (by kernel_rfl) (by simp only [size_fA]) (all_fA _ _) ?_))
        exact bodyPost_ret (results_cell_row2 rfl _ _ (w.heap.size + 1) _ _ _ _ rfl hZ.setRow Try.underlying24 rfl (by kernel_rfl)) rfl (RetCC.as Hm.out ⟨cur, rfl, Hc.out, (by repeat (first | assumption | exact Below.refl _ _ | refine bDrew ?_ _ | refine Below.alloc ?_ (by first | omega | (simp; done) | (simp; omega)) _ | refine Below.setCell ?_ (by first | omega | (simp; done) | (simp; omega)) _ | refine bRow ?_ (by first | omega | (simp; done) | (simp; omega)) _))⟩)
end Go.Proofs.Ytgnpmmohnphplaa
