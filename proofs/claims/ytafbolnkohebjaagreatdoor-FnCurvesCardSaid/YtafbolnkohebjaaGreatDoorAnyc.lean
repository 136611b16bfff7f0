/- Contracts: curves of any numbers, drawn from bytes. -/
import Derived.Test.YtafbolnkohebjaaGreatDoorAny
import Derived.Deep.Cut
namespace Go.Proofs.YtafbolnkohebjaaGreatDoor
open Go.RowKit
set_option maxRecDepth 100000

/-- Sixteen words whose bits are 32 bits. -/
def RetWds (w : World) (g : Nat) (a : Option Addr) (n c : Nat) (f : Nat → Nat) (m : Nat) (e : Ending) (w' : World) : Prop := ∃ r : Nat → Nat, (∀ i, i < 16 → Wd (r i)) ∧ e = .returned (.agg (fA 16 r)) ∧ Bar w.heap.size g w w' ∧ Src w' g a n c f m
theorem l01Smooth_wd (g : Nat) (a : Option Addr) (n c : Nat) (f : Nat → Nat) (m : Nat) (hm : m ≤ 700000) (w : World) (hS0 : Src w g a n c f m) : Calls Tryz.prog 75 #[.pointer (some ⟨g, 0, none⟩)] w (RetWds w g a n c f (m + 40)) := by
  have hg : g < w.heap.size := by obtain ⟨_, _, _, _, h⟩ := hS0.blk; exact h.lt
  have hO0 : Blk ((w.alloc (.cells (fA 16 fun _ => 0) 26)).alloc (.cells (fA 16 fun _ => 0) 26)) (w.heap.size + 1) 26 (fA 16 fun _ => 0) := Blk.new_at _ _ (by simp) rfl
  have hZ : Blk (((w.alloc (.cells (fA 16 fun _ => 0) 26)).alloc (.cells (fA 16 fun _ => 0) 26)).setRow (w.heap.size + 1) (fA 16 fun _ => 0)) w.heap.size 26 (fA 16 fun _ => 0) := Blk.farRow (by first | assumption | (repeat (first | assumption | (apply Blk.new_at; (focus (simp; done)); rfl) | apply Blk.alloc | apply Blk.drewN))) (by omega)
  have hO : Blk (((w.alloc (.cells (fA 16 fun _ => 0) 26)).alloc (.cells (fA 16 fun _ => 0) 26)).setRow (w.heap.size + 1) (fA 16 fun _ => 0)) (w.heap.size + 1) 26 (fA 16 fun _ => 0) := hO0.setRow
  have hb : Below w.heap.size w (((w.alloc (.cells (fA 16 fun _ => 0) 26)).alloc (.cells (fA 16 fun _ => 0) 26)).setRow (w.heap.size + 1) (fA 16 fun _ => 0)) := bRow (by repeat (first | assumption | exact Below.refl _ _ | refine bDrew ?_ _ | refine Below.alloc ?_ (by first | omega | (simp; done) | (simp; omega)) _ | refine Below.setCell ?_ (by first | omega | (simp; done) | (simp; omega)) _ | refine bRow ?_ (by first | omega | (simp; done) | (simp; omega)) _)) (by omega) _
  have hS := hS0.of hb
  have hb : Bar w.heap.size g w (((w.alloc (.cells (fA 16 fun _ => 0) 26)).alloc (.cells (fA 16 fun _ => 0) 26)).setRow (w.heap.size + 1) (fA 16 fun _ => 0)) := Bar.of hb
  go_enter Tryz.func75, Tryz.ntmps75
  go_wp2_with (first | (refine wpList_build_as rfl 26 _ rfl (fA 16 fun _ => 0) (by kernel_rfl) ?_) | (refine wpList_store_row rfl 26 _ _ rfl _ _ rfl rfl _ _ hO0 (by kernel_rfl) (by simp only [size_fA]) (all_fA _ _) ?_))
  refine (pick_any g a n c f m (by omega) 4 (by omega) (by omega) _ hS).mono ?_
  rintro e w1 ⟨k, hk, rfl, hU, hS⟩
  have hb := (hb.bar hU.bar (by simp; omega))
  have hZ := hU.blk hZ (by omega)
  have hO := hU.blk hO (by omega)
  have hsz : w1.heap.size = w.heap.size + 2 := by rw [hU.size]; simp
  clear hU
  by_cases h0 : k = 0
  · subst h0
    go_wp2_with fail
    refine (l01Plain_any g a n c f (m + 2) (by omega) _ hS).mono ?_
    rintro e w2 ⟨v, hv, rfl, hU, hS⟩
    have hb := hb.bar hU.bar (by omega)
    have hZ := hU.blk hZ (by omega)
    have hsz2 := hU.size
    clear hU hO
    go_wp2_with fail
    refine (l01Flat_any (pw v) _).mono ?_
    rintro e w3 ⟨r, rfl, hr, hb3⟩
    have hS := hS.of hb3
    have hb := hb.call hb3 (by omega)
    have hZ := hZ.below hb3 hZ.lt
    have Hr := Lib.hid hr
    clear hr hb3
    go_wp2_with (first | (refine wpList_store_row rfl 26 _ _ rfl _ _ rfl rfl _ _ hZ (by kernel_rfl) (by simp only [size_fA]) (all_fA _ _) ?_))
    have hb := hb.row (Nat.le_refl _) (fA 16 r)
    exact bodyPost_ret (results_cell_row rfl _ _ w.heap.size _ _ _ _ rfl hZ.setRow Tryz.underlying26 rfl (by kernel_rfl)) rfl ⟨r, fun i hi => by unfold Wd; rw [Hr.out i hi]; exact bits_lt (pw_lt v hv), rfl, hb, hS0.over hb (src_row (hS.more (by omega)).blk (by omega))⟩
  by_cases h1 : k = 1
  · subst h1
    go_wp2_with fail
    refine (pick_any g a n c f (m + 2) (by omega) 33 (by omega) (by omega) _ hS).mono ?_
    rintro e w2 ⟨v, hv, rfl, hU, hS⟩
    have hb := hb.bar hU.bar (by omega)
    have hZ := hU.blk hZ (by omega)
    have hsz2 := hU.size
    clear hU hO
    have Hp : Hid (canon .f32 (fval .quo .f32 (floatOfInt .f32 (v : Int)) 1073741824 w2) = fdiv (fint v) (canon .f32 1073741824)) := Lib.hid (c_div ..)
    go_wp2_with fail
    generalize fval .quo .f32 (floatOfInt .f32 (v : Int)) 1073741824 w2 = pp at *
    generalize fcnt .quo .f32 (floatOfInt .f32 (v : Int)) 1073741824 = n1 at *
    have hS := hS.of (bDrew (Below.refl _ _) n1)
    have hb := hb.draw n1
    have hZ := hZ.drewN n1
    have hsz3 : (w2.drewN n1).heap.size = w2.heap.size := rfl
    generalize w2.drewN n1 = w3 at *
    refine (pick_any g a n c f (m + 2 + 2) (by omega) 8 (by omega) (by omega) _ hS).mono ?_
    rintro e w4 ⟨u, hu, rfl, hU, hS⟩
    have hb := hb.bar hU.bar (by omega)
    have hZ := hU.blk hZ (by omega)
    have hsz4 := hU.size
    clear hU
    have eu : IntKind.i64.wrap (1 + (u : Int)) = 1 + (u : Int) := IntWalk.i64_in _ (by omega)
    have Hq : Hid (canon .f32 (fval .quo .f32 (floatOfInt .f32 (1 + (u : Int))) 1073741824 w4) = fdiv (fint (1 + (u : Int))) (canon .f32 1073741824)) := Lib.hid (c_div ..)
    go_wp2_with fail
    generalize fval .quo .f32 (floatOfInt .f32 (1 + (u : Int))) 1073741824 w4 = qq at *
    generalize fcnt .quo .f32 (floatOfInt .f32 (1 + (u : Int))) 1073741824 = n2 at *
    have hS := hS.of (bDrew (Below.refl _ _) n2)
    have hb := hb.draw n2
    have hZ := hZ.drewN n2
    have hsz5 : (w4.drewN n2).heap.size = w4.heap.size := rfl
    generalize w4.drewN n2 = w5 at *
    refine (l01Bump_any pp qq _).mono ?_
    rintro e w6 ⟨r, rfl, hr, hb3⟩
    have hS := hS.of hb3
    have hb := hb.call hb3 (by omega)
    have hZ := hZ.below hb3 hZ.lt
    have Hr : Hid (∀ i, i < 16 → Wd (r i)) := Lib.hid fun i hi => wd_op (hr i hi)
    clear hr hb3 Hp Hq
    go_wp2_with (first | (refine wpList_store_row rfl 26 _ _ rfl _ _ rfl rfl _ _ hZ (by kernel_rfl) (by simp only [size_fA]) (all_fA _ _) ?_))
    have hb := hb.row (Nat.le_refl _) (fA 16 r)
    exact bodyPost_ret (results_cell_row rfl _ _ w.heap.size _ _ _ _ rfl hZ.setRow Tryz.underlying26 rfl (by kernel_rfl)) rfl ⟨r, Hr.out, rfl, hb, hS0.over hb (src_row (hS.more (by omega)).blk (by omega))⟩
  have d0 : ((k : Int) == 0) = false := by simp; omega
  have d1 : ((k : Int) == 1) = false := by simp; omega
  go_wp2_with fail
  have hS1 := (hS.more (show m + 2 ≤ m + 2 + 2 * 0 by omega)).blk
  clear hS
  go_loopw [4] (fun i wr => ∃ (k : Nat) (cur : Nat → Nat), k ≤ 16 ∧ i = .int .i64 k ∧ Bar w.heap.size g w wr ∧ Blk wr w.heap.size 26 (fA 16 fun _ => 0) ∧ Blk wr (w.heap.size + 1) 26 (fA 16 cur) ∧ (∃ i s : Nat, i ≤ m + 2 + 2 * k ∧ s < 18446744073709551616 ∧ Blk wr g 72 #[.slice a n c, .int .i64 i, .int .u64 s]) ∧ Hid (∀ j, j < k → Wd (cur j))) (fun i _ => 16 - (intOf i).toNat)
  case atStart => exact ⟨0, fun _ => 0, by omega, rfl, hb, hZ, hO, hS1, Lib.hid fun j h => absurd h (by omega)⟩
  case round =>
    clear hb hZ hO hS1 hO0
    obtain ⟨k, cur, hk, rfl, hb, hZ, hO, hS, HV⟩ := hrel
    by_cases hlt : k < 16
    · go_wp2_with fail
      refine (l01Plain_any g a n c f (m + 2 + 2 * k) (by omega) _ (hS0.over hb hS)).mono ?_
      rintro e w2 ⟨v, hv, rfl, hU, hS2⟩
      have hlt2 := hO.lt
      have hb := hb.bar hU.bar (by omega)
      have hZ := hU.blk hZ (by omega)
      have hO := hU.blk hO (by omega)
      have c1 := (hO.cell k).trans (get_fA_lt cur hlt)
      have f1 := hO.frozen k
      clear hU
      go_wp2
      go_roundw
      case rel =>
        refine ⟨k + 1, _, by omega, by go_num, hb.setCell (by dsimp only; omega) _, hZ.far (by dsimp only; omega) _, hO.setF k _, ?_, Lib.hid ?_⟩
        · obtain ⟨i, s, h1, h2, h3⟩ := hS2.blk
          exact ⟨i, s, by omega, h2, h3.far (by dsimp only; omega) _⟩
        · exact upd_to (Q := fun j u => Wd u) HV.out (wd_lt (pw_lt v hv))
      case measure => simp [intOf]; omega
    · obtain rfl : k = 16 := by omega
      go_wp2_with (first | (refine wpList_load_row rfl 26 _ rfl _ rfl _ _ (0, 0) _ hO Tryz.underlying26 rfl (by kernel_rfl) ?_) | (refine wpList_store_row rfl 26 _ _ rfl _ _ rfl rfl _ _ hZ (by kernel_rfl) (by simp only [size_fA]) (all_fA _ _) ?_))
      have hb := hb.row (Nat.le_refl _) (fA 16 cur)
      exact bodyPost_ret (results_cell_row rfl _ _ w.heap.size _ _ _ _ rfl hZ.setRow Tryz.underlying26 rfl (by kernel_rfl)) rfl ⟨cur, HV.out, rfl, hb, (hS0.over hb (src_row hS (by omega))).more (by omega)⟩
set_option maxHeartbeats 4000000 in
theorem l01Bent_any (g : Nat) (a : Option Addr) (n c : Nat) (f : Nat → Nat) (m : Nat) (hm : m ≤ 600000) (w : World) (hS0 : Src w g a n c f m) : Calls Tryz.prog 55 #[.pointer (some ⟨g, 0, none⟩)] w (RetWds w g a n c f (m + 200)) := by
  have hg : g < w.heap.size := by obtain ⟨_, _, _, _, h⟩ := hS0.blk; exact h.lt
  have hb : Below w.heap.size w (w.alloc (.cells (fA 16 fun _ => 0) 26)) := (by repeat (first | assumption | exact Below.refl _ _ | refine bDrew ?_ _ | refine Below.alloc ?_ (by first | omega | (simp; done) | (simp; omega)) _ | refine Below.setCell ?_ (by first | omega | (simp; done) | (simp; omega)) _ | refine bRow ?_ (by first | omega | (simp; done) | (simp; omega)) _))
  have hZ : Blk (w.alloc (.cells (fA 16 fun _ => 0) 26)) w.heap.size 26 (fA 16 fun _ => 0) := Blk.new _ _ _
  have hS := hS0.of hb
  have hb : Bar w.heap.size g w (w.alloc (.cells (fA 16 fun _ => 0) 26)) := Bar.of hb
  have hsz : (w.alloc (.cells (fA 16 fun _ => 0) 26)).heap.size = w.heap.size + 1 := by simp
  go_enter Tryz.func55, Tryz.ntmps55
  go_wp2_with fail
  refine (l01Smooth_wd g a n c f m (by omega) _ hS).mono ?_
  rintro e w1 ⟨r, hr, rfl, hB, hS⟩
  have hb := hb.bar hB (by omega)
  have hZ := hB.blk hZ (by omega)
  have hsz1 := hB.size
  rw [hsz] at hsz1
  have Hr := Lib.hid hr
  clear hB hr hsz
  have hO : Blk (w1.alloc (.cells (fA 16 r) 26)) w1.heap.size 26 (fA 16 r) := Blk.new _ _ _
  have hS := hS.of ((Below.refl w1.heap.size w1).alloc (Nat.le_refl _) (.cells (fA 16 r) 26))
  have hb := hb.alloc (by omega) (.cells (fA 16 r) 26)
  have hZ := hZ.alloc (.cells (fA 16 r) 26)
  have hlt := hO.lt
  go_wp2_with (first | (refine wpList_store_new rfl 26 _ _ rfl _ rfl rfl (by kernel_rfl) rfl (all_fA _ _) ?_))
  refine (pick_any g a n c f (m + 40) (by omega) 8 (by omega) (by omega) _ hS).mono ?_
  rintro e w2 ⟨k, hk, rfl, hU, hS⟩
  have hb := hb.bar hU.bar (by omega)
  have hZ := hU.blk hZ (by omega)
  have hO := hU.blk hO (by omega)
  clear hU
  have hS1 := (hS.more (show m + 40 + 2 ≤ m + 40 + 2 + 8 * (8 - k) by omega)).blk
  clear hS
  go_wp2_with fail
  go_loopw [4] (fun i wr => ∃ (j : Nat) (cur : Nat → Nat), j < 8 ∧ i = .int .i64 j ∧ Bar w.heap.size g w wr ∧ Blk wr w.heap.size 26 (fA 16 fun _ => 0) ∧ Blk wr w1.heap.size 26 (fA 16 cur) ∧ (∃ i s : Nat, i ≤ m + 40 + 2 + 8 * (8 - j) ∧ s < 18446744073709551616 ∧ Blk wr g 72 #[.slice a n c, .int .i64 i, .int .u64 s]) ∧ Hid (∀ i, i < 16 → Wd (cur i))) (fun i _ => (intOf i).toNat)
  case atStart => exact ⟨k, r, hk, rfl, hb, hZ, hO, hS1, Hr⟩
  case round =>
    clear hb hZ hO hS1
    obtain ⟨j, cur, hj, rfl, hb, hZ, hO, hS, HV⟩ := hrel
    have hlt0 := hO.lt
    by_cases h6 : 6 < j
    · have d6 : decide ((6 : Int) < (j : Int)) = true := by simp; omega
      go_wp2_with fail
      refine (pick_any g a n c f (m + 40 + 2 + 8 * (8 - j)) (by omega) 16 (by omega) (by omega) _ (hS0.over hb hS)).mono ?_
      rintro e w3 ⟨q, hq, rfl, hU, hS⟩
      have hb := hb.bar hU.bar (by omega)
      have hZ := hU.blk hZ (by omega)
      have hO := hU.blk hO (by omega)
      clear hU
      go_wp2_with fail
      refine (l01Any_any g a n c f (m + 40 + 2 + 8 * (8 - j) + 2) (by omega) _ hS).mono ?_
      rintro e w4 ⟨x, hx, rfl, hU, hS2⟩
      have hlt2 := hO.lt
      have hb := hb.bar hU.bar (by omega)
      have hZ := hU.blk hZ (by omega)
      have hO := hU.blk hO (by omega)
      have hlt3 := hO.lt
      have c1 := (hO.cell q).trans (get_fA_lt cur hq)
      have f1 := hO.frozen q
      clear hU
      go_wp2
      go_roundw
      case rel =>
        refine ⟨j - 1, _, by omega, by rw [show ((j - 1 : Nat) : Int) = (j : Int) - 1 by omega], hb.setCell (by dsimp only; omega) _, hZ.far (by dsimp only; omega) _, hO.setF q _, ?_, Lib.hid ?_⟩
        · obtain ⟨i, s, h1, h2, h3⟩ := hS2.blk
          exact ⟨i, s, by omega, h2, h3.far (by dsimp only; omega) _⟩
        · intro i hi
          by_cases e : i = q
          · subst e; rw [upd_same]; exact hx
          · rw [upd_other _ _ e]; exact HV.out i hi
      case measure => simp [intOf]; omega
    · have d6 : decide ((6 : Int) < (j : Int)) = false := by simp; omega
      go_wp2_with (first | (refine wpList_load_row rfl 26 _ rfl _ rfl _ _ (0, 0) _ hO Tryz.underlying26 rfl (by kernel_rfl) ?_) | (refine wpList_store_row rfl 26 _ _ rfl _ _ rfl rfl _ _ hZ (by kernel_rfl) (by simp only [size_fA]) (all_fA _ _) ?_))
      have hb := hb.row (Nat.le_refl _) (fA 16 cur)
      exact bodyPost_ret (results_cell_row rfl _ _ w.heap.size _ _ _ _ rfl hZ.setRow Tryz.underlying26 rfl (by kernel_rfl)) rfl ⟨cur, HV.out, rfl, hb, (hS0.over hb (src_row hS (by omega))).more (by omega)⟩
theorem one_any (g : Nat) (a : Option Addr) (n c : Nat) (f : Nat → Nat) (m : Nat) (hm : m ≤ 900000) (k : Nat) (hk : 1 ≤ k) (hk2 : k ≤ 4294967296) (w : World) (hS : Src w g a n c f m) : Calls Tryz.prog 56 #[.pointer (some ⟨g, 0, none⟩), .int .i64 k] w fun e w' => ∃ b : Bool, e = .returned (.bool b) ∧ Upto w w' g ∧ Src w' g a n c f (m + 2) := by
  go_enter Tryz.func56, Tryz.ntmps56
  go_wp2_with fail
  refine (pick_any g a n c f m hm k hk hk2 _ hS).mono ?_
  rintro e w1 ⟨v, hv, rfl, hU, hS⟩
  go_wp2
  go_ret
  exact ⟨_, rfl, hU, hS⟩
set_option maxHeartbeats 4000000 in
theorem l01Wild_any (g : Nat) (a : Option Addr) (n c : Nat) (f : Nat → Nat) (m : Nat) (hm : m ≤ 500000) (w : World) (hS0 : Src w g a n c f m) : Calls Tryz.prog 40 #[.pointer (some ⟨g, 0, none⟩)] w (RetWds w g a n c f (m + 400)) := by
  have hg : g < w.heap.size := by obtain ⟨_, _, _, _, h⟩ := hS0.blk; exact h.lt
  have hb : Below w.heap.size w (w.alloc (.cells (fA 16 fun _ => 0) 26)) := (by repeat (first | assumption | exact Below.refl _ _ | refine bDrew ?_ _ | refine Below.alloc ?_ (by first | omega | (simp; done) | (simp; omega)) _ | refine Below.setCell ?_ (by first | omega | (simp; done) | (simp; omega)) _ | refine bRow ?_ (by first | omega | (simp; done) | (simp; omega)) _))
  have hZ : Blk (w.alloc (.cells (fA 16 fun _ => 0) 26)) w.heap.size 26 (fA 16 fun _ => 0) := Blk.new _ _ _
  have hS := hS0.of hb
  have hb : Bar w.heap.size g w (w.alloc (.cells (fA 16 fun _ => 0) 26)) := Bar.of hb
  have hsz : (w.alloc (.cells (fA 16 fun _ => 0) 26)).heap.size = w.heap.size + 1 := by simp
  go_enter Tryz.func40, Tryz.ntmps40
  go_wp2_with fail
  refine (l01Bent_any g a n c f m (by omega) _ hS).mono ?_
  rintro e w1 ⟨r, hr, rfl, hB, hS⟩
  have hb := hb.bar hB (by omega)
  have hZ := hB.blk hZ (by omega)
  have hsz1 := hB.size
  rw [hsz] at hsz1
  have Hr := Lib.hid hr
  clear hB hr hsz
  have hO : Blk (w1.alloc (.cells (fA 16 r) 26)) w1.heap.size 26 (fA 16 r) := Blk.new _ _ _
  have hS := hS.of ((Below.refl w1.heap.size w1).alloc (Nat.le_refl _) (.cells (fA 16 r) 26))
  have hb := hb.alloc (by omega) (.cells (fA 16 r) 26)
  have hZ := hZ.alloc (.cells (fA 16 r) 26)
  have hlt := hO.lt
  go_wp2_with (first | (refine wpList_store_new rfl 26 _ _ rfl _ rfl rfl (by kernel_rfl) rfl (all_fA _ _) ?_))
  refine (one_any g a n c f (m + 200) (by omega) 3 (by omega) (by omega) _ hS).mono ?_
  rintro e w2 ⟨b1, rfl, hU, hS⟩
  have hb := hb.bar hU.bar (by omega)
  have hZ := hU.blk hZ (by omega)
  have hO := hU.blk hO (by omega)
  have hlt := hO.lt
  clear hU
  have hS1 := (hS.more (show m + 200 + 2 ≤ m + 200 + 2 + 6 * 16 by omega)).blk
  have hS0' := (hS.more (show m + 200 + 2 ≤ m + 200 + 2 + 6 * 0 by omega)).blk
  clear hS
  dsimp only
  go_upto_if 8 with fail
  go_cut [] from 5 (fun wc => ∃ (cur : Nat → Nat), Bar w.heap.size g w wc ∧ Blk wc w.heap.size 26 (fA 16 fun _ => 0) ∧ Blk wc w1.heap.size 26 (fA 16 cur) ∧ (∃ i s : Nat, i ≤ m + 200 + 2 + 6 * 16 ∧ s < 18446744073709551616 ∧ Blk wc g 72 #[.slice a n c, .int .i64 i, .int .u64 s]) ∧ Hid (∀ i, i < 16 → Wd (cur i)))
  case first =>
    cases b1 with
    | false =>
      go_wp2_with fail
      go_meet
      case rel => exact ⟨r, hb, hZ, hO, hS1, Hr⟩
    | true =>
      go_wp2_with fail
      go_loopw [4] (fun i wr => ∃ (j : Nat) (cur : Nat → Nat), j ≤ 16 ∧ i = .int .i64 j ∧ Bar w.heap.size g w wr ∧ Blk wr w.heap.size 26 (fA 16 fun _ => 0) ∧ Blk wr w1.heap.size 26 (fA 16 cur) ∧ (∃ i s : Nat, i ≤ m + 200 + 2 + 6 * j ∧ s < 18446744073709551616 ∧ Blk wr g 72 #[.slice a n c, .int .i64 i, .int .u64 s]) ∧ Hid (∀ i, i < 16 → Wd (cur i))) (fun i _ => 16 - (intOf i).toNat)
      case atStart => exact ⟨0, r, by omega, rfl, hb, hZ, hO, hS0', Hr⟩
      case round =>
        clear hb hZ hO hS1 hS0'
        obtain ⟨j, cur, hj, rfl, hb, hZ, hO, hS, HV⟩ := hrel
        have hlt0 := hO.lt
        by_cases h6 : j < 16
        · go_wp2_with fail
          refine (l01Any_any g a n c f (m + 200 + 2 + 6 * j) (by omega) _ (hS0.over hb hS)).mono ?_
          rintro e w4 ⟨x, hx, rfl, hU, hS2⟩
          have hb := hb.bar hU.bar (by omega)
          have hZ := hU.blk hZ (by omega)
          have hO := hU.blk hO (by omega)
          have hlt3 := hO.lt
          have c1 := (hO.cell j).trans (get_fA_lt cur h6)
          have f1 := hO.frozen j
          clear hU
          go_wp2
          go_roundw
          case rel =>
            refine ⟨j + 1, _, by omega, by go_num, hb.setCell (by dsimp only; omega) _, hZ.far (by dsimp only; omega) _, hO.setF j _, ?_, Lib.hid ?_⟩
            · obtain ⟨i, s, h1, h2, h3⟩ := hS2.blk
              exact ⟨i, s, by omega, h2, h3.far (by dsimp only; omega) _⟩
            · intro i hi
              by_cases e : i = j
              · subst e; rw [upd_same]; exact hx
              · rw [upd_other _ _ e]; exact HV.out i hi
          case measure => simp [intOf]; omega
        · obtain rfl : j = 16 := by omega
          go_wp2_with fail
          go_meet
          case rel => exact ⟨cur, hb, hZ, hO, hS, HV⟩
  case rest =>
  clear hb hZ hO hS1 hS0' Hr hlt
  obtain ⟨cur, hb, hZ, hO, hS, HV⟩ := hcut
  have hlt := hO.lt
  go_wp2_with fail
  refine (one_any g a n c f (m + 200 + 2 + 6 * 16) (by omega) 16 (by omega) (by omega) _ (hS0.over hb hS)).mono ?_
  rintro e w5 ⟨b2, rfl, hU, hS⟩
  have hb := hb.bar hU.bar (by omega)
  have hZ := hU.blk hZ (by omega)
  have hO := hU.blk hO (by omega)
  have hlt := hO.lt
  clear hU
  cases b2 with
  | false =>
    go_wp2_with (first | (refine wpList_load_row rfl 26 _ rfl _ rfl _ _ (0, 0) _ hO Tryz.underlying26 rfl (by kernel_rfl) ?_) | (refine wpList_store_row rfl 26 _ _ rfl _ _ rfl rfl _ _ hZ (by kernel_rfl) (by simp only [size_fA]) (all_fA _ _) ?_))
    have hb := hb.row (Nat.le_refl _) (fA 16 cur)
    exact bodyPost_ret (results_cell_row rfl _ _ w.heap.size _ _ _ _ rfl hZ.setRow Tryz.underlying26 rfl (by kernel_rfl)) rfl ⟨cur, HV.out, rfl, hb, (hS0.over hb (src_row hS.blk (by omega))).more (by omega)⟩
  | true =>
    go_wp2_with fail
    refine (nan_any _).mono ?_
    rintro e w6 ⟨rfl, k, rfl⟩
    have hS := hS.drawn k
    have hb := hb.draw k
    have hZ := hZ.drewN k
    have hlt2 : w1.heap.size < (w5.drewN k).heap.size := hlt
    generalize w5.drewN k = w7 at *
    go_wp2_with fail
    have hS := hS.drawn (ccnt .f64 .f32 9221120237041090561)
    have hb := hb.draw (ccnt .f64 .f32 9221120237041090561)
    have hZ := hZ.drewN (ccnt .f64 .f32 9221120237041090561)
    have Hn : Hid (canon .f32 (cval .f64 .f32 9221120237041090561 w7) = none) := Lib.hid (nan_short _)
    generalize cval .f64 .f32 9221120237041090561 w7 = nn at *
    have hlt3 : w1.heap.size < (w7.drewN (ccnt .f64 .f32 9221120237041090561)).heap.size := hlt2
    generalize w7.drewN (ccnt .f64 .f32 9221120237041090561) = w8 at *
    refine (l01Flat_any nn _).mono ?_
    rintro e w9 ⟨r2, rfl, hr2, hb3⟩
    have hS := hS.of hb3
    have hb := hb.call hb3 (by omega)
    have hZ := hZ.below hb3 hZ.lt
    have Hr := Lib.hid hr2
    clear hr2 hb3
    go_wp2_with (first | (refine wpList_store_row rfl 26 _ _ rfl _ _ rfl rfl _ _ hZ (by kernel_rfl) (by simp only [size_fA]) (all_fA _ _) ?_))
    have hb := hb.row (Nat.le_refl _) (fA 16 r2)
    exact bodyPost_ret (results_cell_row rfl _ _ w.heap.size _ _ _ _ rfl hZ.setRow Tryz.underlying26 rfl (by kernel_rfl)) rfl ⟨r2, fun i hi => wd_none (by rw [Hr.out i hi, Hn.out]), rfl, hb, (hS0.over hb (src_row hS.blk (by omega))).more (by omega)⟩
end Go.Proofs.YtafbolnkohebjaaGreatDoor
