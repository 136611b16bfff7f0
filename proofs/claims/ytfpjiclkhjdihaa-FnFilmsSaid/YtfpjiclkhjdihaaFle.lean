/- A contract: films that are drawn from bytes, of all three kinds. -/
import Derived.Test.YtfpjiclkhjdihaaFld
namespace Go.Proofs.Ytfpjiclkhjdihaa
open Go.RowKit
set_option maxRecDepth 100000

/-- The numbers so far. -/
def Mixed (cur : Nat → Nat) (k : Nat) : Prop := ∀ j, j < k → Flw (canon .f32 (cur j)) (canon .f32 (cur (16 + j))) (canon .f32 (cur (32 + j)))
theorem mixed_next {cur : Nat → Nat} {k v R B x y : Nat} (h : Mixed cur k) (hk : k < 16) (hv : v < 65) (hx : x < 17) (hy : y < 17) (hR : canon .f32 R = fmul (fdiv (fint x) (canon .f32 1098907648)) (fsub (canon .f32 1065353216) (canon .f32 (pw v))))
    (hB : canon .f32 B = fmul (fdiv (fint y) (canon .f32 1098907648)) (fsub (canon .f32 1065353216) (canon .f32 (pw v)))) : Mixed (upd (upd (upd cur (32 + k) (pw v)) k R) (16 + k) B) (k + 1) := by
  intro j hj
  by_cases e : j = k
  · subst e
    rw [show upd (upd (upd cur (32 + j) (pw v)) j R) (16 + j) B j = R by simp only [upd]; rw [if_neg (by omega), if_pos trivial], show upd (upd (upd cur (32 + j) (pw v)) j R) (16 + j) B (16 + j) = B by simp [upd], show upd (upd (upd cur (32 + j) (pw v)) j R) (16 + j) B (32 + j) = pw v by simp only [upd]; rw [if_neg (by omega), if_neg (by omega), if_pos trivial], hR, hB]
    exact mixed_flw hv hx hy
  · have := h j (by omega)
    rw [show upd (upd (upd cur (32 + k) (pw v)) k R) (16 + k) B j = cur j by simp only [upd]; rw [if_neg (by omega), if_neg (by omega), if_neg (by omega)], show upd (upd (upd cur (32 + k) (pw v)) k R) (16 + k) B (16 + j) = cur (16 + j) by simp only [upd]; rw [if_neg (by omega), if_neg (by omega), if_neg (by omega)], show upd (upd (upd cur (32 + k) (pw v)) k R) (16 + k) B (32 + j) = cur (32 + j) by simp only [upd]; rw [if_neg (by omega), if_neg (by omega), if_neg (by omega)]]
    exact this
set_option maxHeartbeats 8000000 in
theorem film_any (g : Nat) (a : Option Addr) (n c : Nat) (f : Nat → Nat) (m : Nat) (hm : m ≤ 500000) (w : World) (hS0 : Src w g a n c f m) : Calls Try.prog 27 #[.pointer (some ⟨g, 0, none⟩)] w (RetFlm w g a n c f (m + 200)) := by
  have hg : g < w.heap.size := by obtain ⟨_, _, _, _, h⟩ := hS0.blk; exact h.lt
  have hb : Below w.heap.size w (w.alloc (.cells (fA 48 fun _ => 0) 28)) := (by repeat (first | assumption | exact Below.refl _ _ | refine bDrew ?_ _ | refine Below.alloc ?_ (by first | omega | (simp; done) | (simp; omega)) _ | refine Below.setCell ?_ (by first | omega | (simp; done) | (simp; omega)) _ | refine bRow ?_ (by first | omega | (simp; done) | (simp; omega)) _))
  have hZ : Blk (w.alloc (.cells (fA 48 fun _ => 0) 28)) w.heap.size 28 (fA 48 fun _ => 0) := Blk.new _ _ _
  have hS := hS0.of hb
  have hb : Bar w.heap.size g w (w.alloc (.cells (fA 48 fun _ => 0) 28)) := Bar.of hb
  have hsz : (w.alloc (.cells (fA 48 fun _ => 0) 28)).heap.size = w.heap.size + 1 := by simp
  go_enter Try.func27, Try.ntmps27
  go_wp2_with fail
  refine (pick_any g a n c f m (by omega) 3 (by omega) (by omega) _ hS).mono ?_
  rintro e w1 ⟨kd, hkd, rfl, hU, hS⟩
  have hb := hb.bar hU.bar (by omega)
  have hZ := hU.blk hZ (by omega)
  have hsz1 := hU.size
  rw [hsz] at hsz1
  clear hU hsz
  by_cases k0 : kd = 0
  · subst k0
    go_wp2_with fail
    refine (l01Plain_any g a n c f (m + 2) (by omega) _ hS).mono ?_
    rintro e w2 ⟨v, hv, rfl, hU, hS⟩
    have hb := hb.bar hU.bar (by omega)
    have hZ := hU.blk hZ (by omega)
    have hsz2 := hU.size
    clear hU
    go_wp2_with fail
    refine (sMirrorFilm_any (pw v) _).mono ?_
    rintro e w3 h
    obtain ⟨r, rfl, hr, hb3⟩ := h.ok (mirror_res hv) (fun i _ => rfl)
    clear h
    have hS := hS.of hb3
    have hb := hb.call hb3 (by omega)
    have hZ := hZ.below hb3 hZ.lt
    have hsz4 := hb3.size
    have Hr := Lib.hid hr
    clear hr hb3
    have hM : Blk (w3.alloc (.cells (fA 48 r) 28)) w3.heap.size 28 (fA 48 r) := Blk.new _ _ _
    have hS := hS.of ((Below.refl w3.heap.size w3).alloc (Nat.le_refl _) (.cells (fA 48 r) 28))
    have hb := hb.alloc (by omega) (.cells (fA 48 r) 28)
    have hZ := hZ.alloc (.cells (fA 48 r) 28)
    go_wp2_with (first | (refine wpList_store_new rfl 28 _ _ rfl _ rfl rfl (by kernel_rfl) rfl (all_fA _ _) ?_) | (refine wpList_load_row rfl 28 _ rfl _ rfl _ _ (0, 0) _ hM Try.underlying28 rfl (by kernel_rfl) ?_) | (refine wpList_store_row rfl 28 _ _ rfl _ _ rfl rfl _ _ hZ (by kernel_rfl) (by simp only [size_fA]) (all_fA _ _) ?_))
    have hb := hb.row (Nat.le_refl _) (fA 48 r)
    exact bodyPost_ret (results_cell_row rfl _ _ w.heap.size _ _ _ _ rfl hZ.setRow Try.underlying28 rfl (by kernel_rfl)) rfl ⟨r, mirror_flm hv Hr.out, rfl, hb, hS0.over hb (src_row (hS.more (by omega)).blk (by omega))⟩
  by_cases k2 : kd = 2
  · subst k2
    go_wp2_with fail
    refine (l02Drawn_any g a n c f (m + 2) (by omega) _ hS).mono ?_
    rintro e w2 ⟨A, K, S, k, hk, hL, hx, rfl, hB, hS⟩
    have hb := hb.bar hB (by omega)
    have hZ := hB.blk hZ (by omega)
    have hsz2 := hB.size
    have HL := Lib.hid hL
    have Hk := Lib.hid hk
    clear hB hL hk hx
    have hA : Blk (w2.alloc (.cells (fA 33 A) 41)) w2.heap.size 41 (fA 33 A) := Blk.new _ _ _
    have hS := hS.of ((Below.refl w2.heap.size w2).alloc (Nat.le_refl _) (.cells (fA 33 A) 41))
    have hb := hb.alloc (by omega) (.cells (fA 33 A) 41)
    have hZ := hZ.alloc (.cells (fA 33 A) 41)
    have hsz3 : (w2.alloc (.cells (fA 33 A) 41)).heap.size = w2.heap.size + 1 := by simp
    go_wp2_with (first | (refine wpList_store_new rfl 41 _ _ rfl _ rfl rfl (by kernel_rfl) rfl (all_fA _ _) ?_))
    refine (l02FilmOf_any w2.heap.size 41 A _ hA).mono ?_
    rintro e w3 h
    obtain ⟨r, rfl, hr, hb3⟩ := h.ok (layer_flm HL.out Hk.out).1 (fun i _ => rfl)
    clear h hA
    have hS := hS.of hb3
    have hb := hb.call hb3 (by omega)
    have hZ := hZ.below hb3 hZ.lt
    have hsz4 := hb3.size
    have Hr := Lib.hid hr
    clear hr hb3
    have hM : Blk (w3.alloc (.cells (fA 48 r) 28)) w3.heap.size 28 (fA 48 r) := Blk.new _ _ _
    have hS := hS.of ((Below.refl w3.heap.size w3).alloc (Nat.le_refl _) (.cells (fA 48 r) 28))
    have hb := hb.alloc (by omega) (.cells (fA 48 r) 28)
    have hZ := hZ.alloc (.cells (fA 48 r) 28)
    go_wp2_with (first | (refine wpList_store_new rfl 28 _ _ rfl _ rfl rfl (by kernel_rfl) rfl (all_fA _ _) ?_) | (refine wpList_load_row rfl 28 _ rfl _ rfl _ _ (0, 0) _ hM Try.underlying28 rfl (by kernel_rfl) ?_) | (refine wpList_store_row rfl 28 _ _ rfl _ _ rfl rfl _ _ hZ (by kernel_rfl) (by simp only [size_fA]) (all_fA _ _) ?_))
    have hb := hb.row (Nat.le_refl _) (fA 48 r)
    exact bodyPost_ret (results_cell_row rfl _ _ w.heap.size _ _ _ _ rfl hZ.setRow Try.underlying28 rfl (by kernel_rfl)) rfl ⟨r, (layer_flm HL.out Hk.out).2.1.to Hr.out, rfl, hb, hS0.over hb (src_row (hS.more (by omega)).blk (by omega))⟩
  obtain rfl : kd = 1 := by omega
  clear k0 k2 hkd
  have hsz : w.heap.size < w1.heap.size := by omega
  clear hsz1
  have hF : Blk (w1.alloc (.cells (fA 48 fun _ => 0) 28)) w1.heap.size 28 (fA 48 fun _ => 0) := Blk.new _ _ _
  have hS := hS.of ((Below.refl w1.heap.size w1).alloc (Nat.le_refl _) (.cells (fA 48 fun _ => 0) 28))
  have hb := hb.alloc (by omega) (.cells (fA 48 fun _ => 0) 28)
  have hZ := hZ.alloc (.cells (fA 48 fun _ => 0) 28)
  go_wp2_with (first | (refine wpList_build_as rfl 28 _ rfl (fA 48 fun _ => 0) (by kernel_rfl) ?_) | (refine wpList_store_new rfl 28 _ _ rfl _ rfl rfl (by kernel_rfl) rfl (all_fA _ _) ?_))
  have hS1 := (hS.more (show m + 2 ≤ m + 2 + 6 * 0 by omega)).blk
  clear hS
  go_loopw [6] (fun i wr => ∃ (k : Nat) (cur : Nat → Nat), k ≤ 16 ∧ i = .int .i64 k ∧ Bar w.heap.size g w wr ∧ Blk wr w.heap.size 28 (fA 48 fun _ => 0) ∧ Blk wr w1.heap.size 28 (fA 48 cur) ∧ (∃ i s : Nat, i ≤ m + 2 + 6 * k ∧ s < 18446744073709551616 ∧ Blk wr g 83 #[.slice a n c, .int .i64 i, .int .u64 s]) ∧ Hid (Mixed cur k)) (fun i _ => 16 - (intOf i).toNat)
  case atStart => exact ⟨0, fun _ => 0, by omega, rfl, hb, hZ, hF, hS1, Lib.hid fun j h => absurd h (by omega)⟩
  case round =>
    clear hb hZ hF hS1
    obtain ⟨k, cur, hk, rfl, hb, hZ, hF, hS, HV⟩ := hrel
    by_cases hlt : k < 16
    · go_wp2_with fail
      refine (l01Plain_any g a n c f (m + 2 + 6 * k) (by omega) _ (hS0.over hb hS)).mono ?_
      rintro e w2 ⟨v, hv, rfl, hU, hS⟩
      have hlt2 := hF.lt
      have hb := hb.bar hU.bar (by omega)
      have hZ := hU.blk hZ (by omega)
      have hF := hU.blk hF (by omega)
      have c1 := (hF.cell (32 + k)).trans (get_fA_lt cur (by omega))
      have f1 := hF.frozen (32 + k)
      clear hU
      go_wp2_with fail
      have hb := hb.setCell (p := ⟨w1.heap.size, 32 + k, none⟩) (by dsimp only; omega) (.float .f32 (pw v))
      have hZ := hZ.far (p := ⟨w1.heap.size, 32 + k, none⟩) (by dsimp only; omega) (.float .f32 (pw v))
      have hF := hF.setF (32 + k) (pw v)
      have hS : ∃ i s : Nat, i ≤ m + 2 + 6 * k + 2 ∧ s < 18446744073709551616 ∧ Blk (World.setCell w2 ⟨w1.heap.size, 32 + k, none⟩ (.float .f32 (pw v))) g 83 #[.slice a n c, .int .i64 i, .int .u64 s] := by obtain ⟨i, s, h1, h2, h3⟩ := hS.blk; exact ⟨i, s, h1, h2, h3.far (by dsimp only; omega) _⟩
      clear c1 f1
      generalize World.setCell w2 ⟨w1.heap.size, 32 + k, none⟩ (.float .f32 (pw v)) = w3 at *
      obtain ⟨Y, qY, nY, hY⟩ := op_word (op := .sub) (x := 1065353216) (y := pw v) (left_is hv).some
      have HY : Hid (canon .f32 Y = fsub (canon .f32 1065353216) (canon .f32 (pw v))) := Lib.hid hY
      clear hY
      have hlt2 := hF.lt
      refine wp_region_any (by kernel_rfl) ?_
      change wpAny _ _ _ _ _ _ _ (World.drew _)
      have hb := hb.drew
      have hZ : Blk (World.drew w3) w.heap.size 28 (fA 48 fun _ => 0) := hZ
      have hF : Blk (World.drew w3) w1.heap.size 28 (fA 48 (upd cur (32 + k) (pw v))) := hF
      have hS : ∃ i s : Nat, i ≤ m + 2 + 6 * k + 2 ∧ s < 18446744073709551616 ∧ Blk (World.drew w3) g 83 #[.slice a n c, .int .i64 i, .int .u64 s] := hS
      have hlt2 : w1.heap.size < (World.drew w3).heap.size := hlt2
      generalize World.drew w3 = w3d at *
      have c1 := (hF.cell (32 + k)).trans (get_fA_lt (upd cur (32 + k) (pw v)) (by omega))
      rw [show (upd cur (32 + k) (pw v)) (32 + k) = pw v by simp only [upd, if_true]] at c1
      refine wpAny_take (i := 0) (v := ?_) rfl (by kernel_rfl) (by kernel_rfl) (by kernel_rfl) (fun _ _ _ h => h) (Or.inl ⟨by rfl, ?_⟩) ?_
      rotate_left
      · intro w; go_simp; try with_reducible rfl
      refine wpAny_take (i := 1) (v := ?_) rfl (by kernel_rfl) (by kernel_rfl) (by kernel_rfl) (fun _ _ _ h => h) (Or.inl ⟨by rfl, ?_⟩) ?_
      rotate_left
      · intro w; go_simp; try with_reducible rfl
      refine wpAny_take (i := 5) (v := ?_) rfl (by kernel_rfl) (by kernel_rfl) (by kernel_rfl) (fun _ _ _ h => h) (Or.inl ⟨by rfl, ?_⟩) ?_
      rotate_left
      · intro w; go_simp; try with_reducible rfl
      refine wpAny_take (i := 6) (v := ?_) rfl (by kernel_rfl) (by kernel_rfl) (by kernel_rfl) (fun _ _ _ h => h) (Or.inl ⟨by rfl, ?_⟩) ?_
      rotate_left
      · intro w; go_simp; try with_reducible rfl
      refine wpAny_take (i := 7) (v := ?_) rfl (by kernel_rfl) (by kernel_rfl) (by kernel_rfl) (fun _ _ _ h => h) (Or.inl ⟨by rfl, ?_⟩) ?_
      rotate_left
      · intro w; go_simp; try with_reducible rfl
      refine wpAny_take (i := 11) (v := ?_) rfl (by kernel_rfl) (by kernel_rfl) (by kernel_rfl) (fun _ _ _ h => h) (Or.inl ⟨by rfl, ?_⟩) ?_
      rotate_left
      · intro w; go_simp; try with_reducible rfl
      refine wpAny_ready (rs := [2, 8]) (by kernel_rfl) (by simp) ?_
      refine AllReady.cons rfl (fun K hK => ?_) ?_
      · rw [if_pos (by kernel_rfl)]
        go_simp
        refine (pick_any g a n c f (m + 2 + 6 * k + 2) (by omega) 17 (by omega) (by omega) _ (hS0.over hb hS)).mono ?_
        rintro e w3x ⟨x, hx, rfl, hU, hS⟩
        have hb := hb.bar hU.bar (by omega)
        have hZ := hU.blk hZ (by omega)
        have hF := hU.blk hF (by omega)
        have hlt2 := hF.lt
        clear hU c1
        have hS := hS.blk
        have c1 := (hF.cell (32 + k)).trans (get_fA_lt (upd cur (32 + k) (pw v)) (by omega))
        rw [show (upd cur (32 + k) (pw v)) (32 + k) = pw v by simp only [upd, if_true]] at c1
        obtain ⟨X, qX, nX, hX⟩ := op_word (op := .quo) (x := floatOfInt .f32 (x : Int)) (y := 1098907648) (sixt_is hx).some
        have HX : Hid (canon .f32 X = fdiv (fint x) (canon .f32 1098907648)) := Lib.hid hX
        clear hX
        refine hK _ _ ?_
        clear hK K
        refine wpAny_take (i := 3) (v := ?_) rfl (by kernel_rfl) (by kernel_rfl) (by kernel_rfl) (fun _ _ _ h => h) (Or.inl ⟨by rfl, ?_⟩) ?_
        rotate_left
        · intro w; go_simp; try with_reducible rfl
        refine wpAny_take (i := 4) (v := ?_) rfl (by kernel_rfl) (by kernel_rfl) (by kernel_rfl) (fun _ _ _ h => h) (Or.inl ⟨by rfl, ?_⟩) ?_
        rotate_left
        · intro w; go_simp; refine ⟨?_, World.drewN_zero w⟩; with_reducible rfl
        refine wpAny_ready (rs := [8]) (by kernel_rfl) (by simp) ?_
        refine AllReady.cons rfl (fun K hK => ?_) ?_
        · rw [if_pos (by kernel_rfl)]
          go_simp
          refine hK _ _ ?_
          clear hK K
          refine wpAny_take (i := 9) (v := ?_) rfl (by kernel_rfl) (by kernel_rfl) (by kernel_rfl) (fun _ _ _ h => h) (Or.inl ⟨by rfl, ?_⟩) ?_
          rotate_left
          · intro w; go_simp; refine ⟨?_, World.drewN_zero w⟩; with_reducible rfl
          obtain ⟨R, qR, nR, hR⟩ := op_word (op := .mul) (x := X) (y := Y) (by show (fmul (canon .f32 X) (canon .f32 Y)).isSome = true; rw [HX.out, HY.out]; exact (mix_is hv hx).some)
          have HR : Hid (canon .f32 R = fmul (fdiv (fint x) (canon .f32 1098907648)) (fsub (canon .f32 1065353216) (canon .f32 (pw v)))) := Lib.hid (by rw [hR, HX.out, HY.out]; rfl)
          clear hR
          refine wpAny_take (i := 10) (v := ?_) rfl (by kernel_rfl) (by kernel_rfl) (by kernel_rfl) (fun _ _ _ h => h) (Or.inl ⟨by rfl, ?_⟩) ?_
          rotate_left
          · intro w; go_simp; refine ⟨?_, World.drewN_zero w⟩; with_reducible rfl
          refine wpAny_take (i := 12) (v := ?_) rfl (by kernel_rfl) (by kernel_rfl) (by kernel_rfl) (fun _ _ _ h => h) (Or.inl ⟨by rfl, ?_⟩) ?_
          rotate_left
          · intro w; go_simp; try with_reducible rfl
          have f1 := hF.frozen (k)
          have c2 := (hF.cell (k)).trans (get_fA_lt (upd cur (32 + k) (pw v)) (by omega))
          refine wpAny_ready (rs := [13]) (by kernel_rfl) (by simp) ?_
          refine AllReady.cons rfl (fun K hK => ?_) ?_
          · rw [if_pos (by kernel_rfl)]
            go_simp
            refine hK _ _ ?_
            clear hK K c1 c2 f1
            refine wpAny_done (by kernel_rfl) ?_ _
            have hb := hb.setCell (p := ⟨w1.heap.size, k, none⟩) (by dsimp only; omega) (.float .f32 R)
            have hZ := hZ.far (p := ⟨w1.heap.size, k, none⟩) (by dsimp only; omega) (.float .f32 R)
            have hF := hF.setF (k) R
            have hS : ∃ i s : Nat, i ≤ m + 2 + 6 * k + 2 + 2 ∧ s < 18446744073709551616 ∧ Blk (World.setCell w3x ⟨w1.heap.size, k, none⟩ (.float .f32 R)) g 83 #[.slice a n c, .int .i64 i, .int .u64 s] := by obtain ⟨i, s, h1, h2, h3⟩ := hS; exact ⟨i, s, h1, h2, h3.far (by dsimp only; omega) _⟩
            generalize World.setCell w3x ⟨w1.heap.size, k, none⟩ (.float .f32 R) = w3y at *
            clear qX nX qR nR
            go_wp2_with fail
            have hlt2 := hF.lt
            refine wp_region_any (by kernel_rfl) ?_
            change wpAny _ _ _ _ _ _ _ (World.drew _)
            have hb := hb.drew
            have hZ : Blk (World.drew w3y) w.heap.size 28 (fA 48 fun _ => 0) := hZ
            have hF : Blk (World.drew w3y) w1.heap.size 28 (fA 48 (upd (upd cur (32 + k) (pw v)) k R)) := hF
            have hS : ∃ i s : Nat, i ≤ m + 2 + 6 * k + 2 + 2 ∧ s < 18446744073709551616 ∧ Blk (World.drew w3y) g 83 #[.slice a n c, .int .i64 i, .int .u64 s] := hS
            have hlt2 : w1.heap.size < (World.drew w3y).heap.size := hlt2
            generalize World.drew w3y = w3yd at *
            have c1 := (hF.cell (32 + k)).trans (get_fA_lt (upd (upd cur (32 + k) (pw v)) k R) (by omega))
            rw [show (upd (upd cur (32 + k) (pw v)) k R) (32 + k) = pw v by simp only [upd]; rw [if_neg (by omega), if_pos trivial]] at c1
            refine wpAny_take (i := 0) (v := ?_) rfl (by kernel_rfl) (by kernel_rfl) (by kernel_rfl) (fun _ _ _ h => h) (Or.inl ⟨by rfl, ?_⟩) ?_
            rotate_left
            · intro w; go_simp; try with_reducible rfl
            refine wpAny_take (i := 1) (v := ?_) rfl (by kernel_rfl) (by kernel_rfl) (by kernel_rfl) (fun _ _ _ h => h) (Or.inl ⟨by rfl, ?_⟩) ?_
            rotate_left
            · intro w; go_simp; try with_reducible rfl
            refine wpAny_take (i := 5) (v := ?_) rfl (by kernel_rfl) (by kernel_rfl) (by kernel_rfl) (fun _ _ _ h => h) (Or.inl ⟨by rfl, ?_⟩) ?_
            rotate_left
            · intro w; go_simp; try with_reducible rfl
            refine wpAny_take (i := 6) (v := ?_) rfl (by kernel_rfl) (by kernel_rfl) (by kernel_rfl) (fun _ _ _ h => h) (Or.inl ⟨by rfl, ?_⟩) ?_
            rotate_left
            · intro w; go_simp; try with_reducible rfl
            refine wpAny_take (i := 7) (v := ?_) rfl (by kernel_rfl) (by kernel_rfl) (by kernel_rfl) (fun _ _ _ h => h) (Or.inl ⟨by rfl, ?_⟩) ?_
            rotate_left
            · intro w; go_simp; try with_reducible rfl
            refine wpAny_take (i := 11) (v := ?_) rfl (by kernel_rfl) (by kernel_rfl) (by kernel_rfl) (fun _ _ _ h => h) (Or.inl ⟨by rfl, ?_⟩) ?_
            rotate_left
            · intro w; go_simp; try with_reducible rfl
            refine wpAny_ready (rs := [2, 8]) (by kernel_rfl) (by simp) ?_
            refine AllReady.cons rfl (fun K hK => ?_) ?_
            · rw [if_pos (by kernel_rfl)]
              go_simp
              refine (pick_any g a n c f (m + 2 + 6 * k + 2 + 2) (by omega) 17 (by omega) (by omega) _ (hS0.over hb hS)).mono ?_
              rintro e w3yx ⟨y, hy, rfl, hU, hS⟩
              have hb := hb.bar hU.bar (by omega)
              have hZ := hU.blk hZ (by omega)
              have hF := hU.blk hF (by omega)
              have hlt2 := hF.lt
              clear hU c1
              have hS := hS.blk
              have c1 := (hF.cell (32 + k)).trans (get_fA_lt (upd (upd cur (32 + k) (pw v)) k R) (by omega))
              rw [show (upd (upd cur (32 + k) (pw v)) k R) (32 + k) = pw v by simp only [upd]; rw [if_neg (by omega), if_pos trivial]] at c1
              obtain ⟨X2, qX2, nX2, hX2⟩ := op_word (op := .quo) (x := floatOfInt .f32 (y : Int)) (y := 1098907648) (sixt_is hy).some
              have HX2 : Hid (canon .f32 X2 = fdiv (fint y) (canon .f32 1098907648)) := Lib.hid hX2
              clear hX2
              refine hK _ _ ?_
              clear hK K
              refine wpAny_take (i := 3) (v := ?_) rfl (by kernel_rfl) (by kernel_rfl) (by kernel_rfl) (fun _ _ _ h => h) (Or.inl ⟨by rfl, ?_⟩) ?_
              rotate_left
              · intro w; go_simp; try with_reducible rfl
              refine wpAny_take (i := 4) (v := ?_) rfl (by kernel_rfl) (by kernel_rfl) (by kernel_rfl) (fun _ _ _ h => h) (Or.inl ⟨by rfl, ?_⟩) ?_
              rotate_left
              · intro w; go_simp; refine ⟨?_, World.drewN_zero w⟩; with_reducible rfl
              refine wpAny_ready (rs := [8]) (by kernel_rfl) (by simp) ?_
              refine AllReady.cons rfl (fun K hK => ?_) ?_
              · rw [if_pos (by kernel_rfl)]
                go_simp
                refine hK _ _ ?_
                clear hK K
                refine wpAny_take (i := 9) (v := ?_) rfl (by kernel_rfl) (by kernel_rfl) (by kernel_rfl) (fun _ _ _ h => h) (Or.inl ⟨by rfl, ?_⟩) ?_
                rotate_left
                · intro w; go_simp; refine ⟨?_, World.drewN_zero w⟩; with_reducible rfl
                obtain ⟨B, qB, nB, hB⟩ := op_word (op := .mul) (x := X2) (y := Y) (by show (fmul (canon .f32 X2) (canon .f32 Y)).isSome = true; rw [HX2.out, HY.out]; exact (mix_is hv hy).some)
                have HB : Hid (canon .f32 B = fmul (fdiv (fint y) (canon .f32 1098907648)) (fsub (canon .f32 1065353216) (canon .f32 (pw v)))) := Lib.hid (by rw [hB, HX2.out, HY.out]; rfl)
                clear hB
                refine wpAny_take (i := 10) (v := ?_) rfl (by kernel_rfl) (by kernel_rfl) (by kernel_rfl) (fun _ _ _ h => h) (Or.inl ⟨by rfl, ?_⟩) ?_
                rotate_left
                · intro w; go_simp; refine ⟨?_, World.drewN_zero w⟩; with_reducible rfl
                refine wpAny_take (i := 12) (v := ?_) rfl (by kernel_rfl) (by kernel_rfl) (by kernel_rfl) (fun _ _ _ h => h) (Or.inl ⟨by rfl, ?_⟩) ?_
                rotate_left
                · intro w; go_simp; try with_reducible rfl
                have f1 := hF.frozen (16 + k)
                have c2 := (hF.cell (16 + k)).trans (get_fA_lt (upd (upd cur (32 + k) (pw v)) k R) (by omega))
                refine wpAny_ready (rs := [13]) (by kernel_rfl) (by simp) ?_
                refine AllReady.cons rfl (fun K hK => ?_) ?_
                · rw [if_pos (by kernel_rfl)]
                  go_simp
                  refine hK _ _ ?_
                  clear hK K c1 c2 f1
                  refine wpAny_done (by kernel_rfl) ?_ _
                  have hb := hb.setCell (p := ⟨w1.heap.size, 16 + k, none⟩) (by dsimp only; omega) (.float .f32 B)
                  have hZ := hZ.far (p := ⟨w1.heap.size, 16 + k, none⟩) (by dsimp only; omega) (.float .f32 B)
                  have hF := hF.setF (16 + k) B
                  have hS : ∃ i s : Nat, i ≤ m + 2 + 6 * k + 2 + 2 + 2 ∧ s < 18446744073709551616 ∧ Blk (World.setCell w3yx ⟨w1.heap.size, 16 + k, none⟩ (.float .f32 B)) g 83 #[.slice a n c, .int .i64 i, .int .u64 s] := by obtain ⟨i, s, h1, h2, h3⟩ := hS; exact ⟨i, s, h1, h2, h3.far (by dsimp only; omega) _⟩
                  generalize World.setCell w3yx ⟨w1.heap.size, 16 + k, none⟩ (.float .f32 B) = w3yy at *
                  clear qX2 nX2 qB nB
                  go_wp2
                  go_roundw
                  case rel => exact ⟨k + 1, _, by omega, by go_num, hb, hZ, hF, by obtain ⟨i, s, h1, h2, h3⟩ := hS; exact ⟨i, s, by omega, h2, h3⟩, Lib.hid (mixed_next HV.out hlt hv hx hy HR.out HB.out)⟩
                  case measure => simp [intOf]; omega
                exact AllReady.nil
              exact AllReady.nil
            refine AllReady.cons rfl (fun K hK => ?_) ?_
            · rw [if_pos (by kernel_rfl)]
              go_simp
              refine hK _ _ ?_
              clear hK K
              refine wpAny_take (i := 9) (v := ?_) rfl (by kernel_rfl) (by kernel_rfl) (by kernel_rfl) (fun _ _ _ h => h) (Or.inl ⟨by rfl, ?_⟩) ?_
              rotate_left
              · intro w; go_simp; refine ⟨?_, World.drewN_zero w⟩; with_reducible rfl
              refine wpAny_ready (rs := [2]) (by kernel_rfl) (by simp) ?_
              refine AllReady.cons rfl (fun K hK => ?_) ?_
              · rw [if_pos (by kernel_rfl)]
                go_simp
                refine (pick_any g a n c f (m + 2 + 6 * k + 2 + 2) (by omega) 17 (by omega) (by omega) _ (hS0.over hb hS)).mono ?_
                rintro e w3yx ⟨y, hy, rfl, hU, hS⟩
                have hb := hb.bar hU.bar (by omega)
                have hZ := hU.blk hZ (by omega)
                have hF := hU.blk hF (by omega)
                have hlt2 := hF.lt
                clear hU c1
                have hS := hS.blk
                have c1 := (hF.cell (32 + k)).trans (get_fA_lt (upd (upd cur (32 + k) (pw v)) k R) (by omega))
                rw [show (upd (upd cur (32 + k) (pw v)) k R) (32 + k) = pw v by simp only [upd]; rw [if_neg (by omega), if_pos trivial]] at c1
                obtain ⟨X2, qX2, nX2, hX2⟩ := op_word (op := .quo) (x := floatOfInt .f32 (y : Int)) (y := 1098907648) (sixt_is hy).some
                have HX2 : Hid (canon .f32 X2 = fdiv (fint y) (canon .f32 1098907648)) := Lib.hid hX2
                clear hX2
                refine hK _ _ ?_
                clear hK K
                refine wpAny_take (i := 3) (v := ?_) rfl (by kernel_rfl) (by kernel_rfl) (by kernel_rfl) (fun _ _ _ h => h) (Or.inl ⟨by rfl, ?_⟩) ?_
                rotate_left
                · intro w; go_simp; try with_reducible rfl
                refine wpAny_take (i := 4) (v := ?_) rfl (by kernel_rfl) (by kernel_rfl) (by kernel_rfl) (fun _ _ _ h => h) (Or.inl ⟨by rfl, ?_⟩) ?_
                rotate_left
                · intro w; go_simp; refine ⟨?_, World.drewN_zero w⟩; with_reducible rfl
                obtain ⟨B, qB, nB, hB⟩ := op_word (op := .mul) (x := X2) (y := Y) (by show (fmul (canon .f32 X2) (canon .f32 Y)).isSome = true; rw [HX2.out, HY.out]; exact (mix_is hv hy).some)
                have HB : Hid (canon .f32 B = fmul (fdiv (fint y) (canon .f32 1098907648)) (fsub (canon .f32 1065353216) (canon .f32 (pw v)))) := Lib.hid (by rw [hB, HX2.out, HY.out]; rfl)
                clear hB
                refine wpAny_take (i := 10) (v := ?_) rfl (by kernel_rfl) (by kernel_rfl) (by kernel_rfl) (fun _ _ _ h => h) (Or.inl ⟨by rfl, ?_⟩) ?_
                rotate_left
                · intro w; go_simp; refine ⟨?_, World.drewN_zero w⟩; with_reducible rfl
                refine wpAny_take (i := 12) (v := ?_) rfl (by kernel_rfl) (by kernel_rfl) (by kernel_rfl) (fun _ _ _ h => h) (Or.inl ⟨by rfl, ?_⟩) ?_
                rotate_left
                · intro w; go_simp; try with_reducible rfl
                have f1 := hF.frozen (16 + k)
                have c2 := (hF.cell (16 + k)).trans (get_fA_lt (upd (upd cur (32 + k) (pw v)) k R) (by omega))
                refine wpAny_ready (rs := [13]) (by kernel_rfl) (by simp) ?_
                refine AllReady.cons rfl (fun K hK => ?_) ?_
                · rw [if_pos (by kernel_rfl)]
                  go_simp
                  refine hK _ _ ?_
                  clear hK K c1 c2 f1
                  refine wpAny_done (by kernel_rfl) ?_ _
                  have hb := hb.setCell (p := ⟨w1.heap.size, 16 + k, none⟩) (by dsimp only; omega) (.float .f32 B)
                  have hZ := hZ.far (p := ⟨w1.heap.size, 16 + k, none⟩) (by dsimp only; omega) (.float .f32 B)
                  have hF := hF.setF (16 + k) B
                  have hS : ∃ i s : Nat, i ≤ m + 2 + 6 * k + 2 + 2 + 2 ∧ s < 18446744073709551616 ∧ Blk (World.setCell w3yx ⟨w1.heap.size, 16 + k, none⟩ (.float .f32 B)) g 83 #[.slice a n c, .int .i64 i, .int .u64 s] := by obtain ⟨i, s, h1, h2, h3⟩ := hS; exact ⟨i, s, h1, h2, h3.far (by dsimp only; omega) _⟩
                  generalize World.setCell w3yx ⟨w1.heap.size, 16 + k, none⟩ (.float .f32 B) = w3yy at *
                  clear qX2 nX2 qB nB
                  go_wp2
                  go_roundw
                  case rel => exact ⟨k + 1, _, by omega, by go_num, hb, hZ, hF, by obtain ⟨i, s, h1, h2, h3⟩ := hS; exact ⟨i, s, by omega, h2, h3⟩, Lib.hid (mixed_next HV.out hlt hv hx hy HR.out HB.out)⟩
                  case measure => simp [intOf]; omega
                exact AllReady.nil
              exact AllReady.nil
            exact AllReady.nil
          exact AllReady.nil
        exact AllReady.nil
      refine AllReady.cons rfl (fun K hK => ?_) ?_
      · rw [if_pos (by kernel_rfl)]
        go_simp
        refine hK _ _ ?_
        clear hK K
        refine wpAny_take (i := 9) (v := ?_) rfl (by kernel_rfl) (by kernel_rfl) (by kernel_rfl) (fun _ _ _ h => h) (Or.inl ⟨by rfl, ?_⟩) ?_
        rotate_left
        · intro w; go_simp; refine ⟨?_, World.drewN_zero w⟩; with_reducible rfl
        refine wpAny_ready (rs := [2]) (by kernel_rfl) (by simp) ?_
        refine AllReady.cons rfl (fun K hK => ?_) ?_
        · rw [if_pos (by kernel_rfl)]
          go_simp
          refine (pick_any g a n c f (m + 2 + 6 * k + 2) (by omega) 17 (by omega) (by omega) _ (hS0.over hb hS)).mono ?_
          rintro e w3x ⟨x, hx, rfl, hU, hS⟩
          have hb := hb.bar hU.bar (by omega)
          have hZ := hU.blk hZ (by omega)
          have hF := hU.blk hF (by omega)
          have hlt2 := hF.lt
          clear hU c1
          have hS := hS.blk
          have c1 := (hF.cell (32 + k)).trans (get_fA_lt (upd cur (32 + k) (pw v)) (by omega))
          rw [show (upd cur (32 + k) (pw v)) (32 + k) = pw v by simp only [upd, if_true]] at c1
          obtain ⟨X, qX, nX, hX⟩ := op_word (op := .quo) (x := floatOfInt .f32 (x : Int)) (y := 1098907648) (sixt_is hx).some
          have HX : Hid (canon .f32 X = fdiv (fint x) (canon .f32 1098907648)) := Lib.hid hX
          clear hX
          refine hK _ _ ?_
          clear hK K
          refine wpAny_take (i := 3) (v := ?_) rfl (by kernel_rfl) (by kernel_rfl) (by kernel_rfl) (fun _ _ _ h => h) (Or.inl ⟨by rfl, ?_⟩) ?_
          rotate_left
          · intro w; go_simp; try with_reducible rfl
          refine wpAny_take (i := 4) (v := ?_) rfl (by kernel_rfl) (by kernel_rfl) (by kernel_rfl) (fun _ _ _ h => h) (Or.inl ⟨by rfl, ?_⟩) ?_
          rotate_left
          · intro w; go_simp; refine ⟨?_, World.drewN_zero w⟩; with_reducible rfl
          obtain ⟨R, qR, nR, hR⟩ := op_word (op := .mul) (x := X) (y := Y) (by show (fmul (canon .f32 X) (canon .f32 Y)).isSome = true; rw [HX.out, HY.out]; exact (mix_is hv hx).some)
          have HR : Hid (canon .f32 R = fmul (fdiv (fint x) (canon .f32 1098907648)) (fsub (canon .f32 1065353216) (canon .f32 (pw v)))) := Lib.hid (by rw [hR, HX.out, HY.out]; rfl)
          clear hR
          refine wpAny_take (i := 10) (v := ?_) rfl (by kernel_rfl) (by kernel_rfl) (by kernel_rfl) (fun _ _ _ h => h) (Or.inl ⟨by rfl, ?_⟩) ?_
          rotate_left
          · intro w; go_simp; refine ⟨?_, World.drewN_zero w⟩; with_reducible rfl
          refine wpAny_take (i := 12) (v := ?_) rfl (by kernel_rfl) (by kernel_rfl) (by kernel_rfl) (fun _ _ _ h => h) (Or.inl ⟨by rfl, ?_⟩) ?_
          rotate_left
          · intro w; go_simp; try with_reducible rfl
          have f1 := hF.frozen (k)
          have c2 := (hF.cell (k)).trans (get_fA_lt (upd cur (32 + k) (pw v)) (by omega))
          refine wpAny_ready (rs := [13]) (by kernel_rfl) (by simp) ?_
          refine AllReady.cons rfl (fun K hK => ?_) ?_
          · rw [if_pos (by kernel_rfl)]
            go_simp
            refine hK _ _ ?_
            clear hK K c1 c2 f1
            refine wpAny_done (by kernel_rfl) ?_ _
            have hb := hb.setCell (p := ⟨w1.heap.size, k, none⟩) (by dsimp only; omega) (.float .f32 R)
            have hZ := hZ.far (p := ⟨w1.heap.size, k, none⟩) (by dsimp only; omega) (.float .f32 R)
            have hF := hF.setF (k) R
            have hS : ∃ i s : Nat, i ≤ m + 2 + 6 * k + 2 + 2 ∧ s < 18446744073709551616 ∧ Blk (World.setCell w3x ⟨w1.heap.size, k, none⟩ (.float .f32 R)) g 83 #[.slice a n c, .int .i64 i, .int .u64 s] := by obtain ⟨i, s, h1, h2, h3⟩ := hS; exact ⟨i, s, h1, h2, h3.far (by dsimp only; omega) _⟩
            generalize World.setCell w3x ⟨w1.heap.size, k, none⟩ (.float .f32 R) = w3y at *
            clear qX nX qR nR
            go_wp2_with fail
            have hlt2 := hF.lt
            refine wp_region_any (by kernel_rfl) ?_
            change wpAny _ _ _ _ _ _ _ (World.drew _)
            have hb := hb.drew
            have hZ : Blk (World.drew w3y) w.heap.size 28 (fA 48 fun _ => 0) := hZ
            have hF : Blk (World.drew w3y) w1.heap.size 28 (fA 48 (upd (upd cur (32 + k) (pw v)) k R)) := hF
            have hS : ∃ i s : Nat, i ≤ m + 2 + 6 * k + 2 + 2 ∧ s < 18446744073709551616 ∧ Blk (World.drew w3y) g 83 #[.slice a n c, .int .i64 i, .int .u64 s] := hS
            have hlt2 : w1.heap.size < (World.drew w3y).heap.size := hlt2
            generalize World.drew w3y = w3yd at *
            have c1 := (hF.cell (32 + k)).trans (get_fA_lt (upd (upd cur (32 + k) (pw v)) k R) (by omega))
            rw [show (upd (upd cur (32 + k) (pw v)) k R) (32 + k) = pw v by simp only [upd]; rw [if_neg (by omega), if_pos trivial]] at c1
            refine wpAny_take (i := 0) (v := ?_) rfl (by kernel_rfl) (by kernel_rfl) (by kernel_rfl) (fun _ _ _ h => h) (Or.inl ⟨by rfl, ?_⟩) ?_
            rotate_left
            · intro w; go_simp; try with_reducible rfl
            refine wpAny_take (i := 1) (v := ?_) rfl (by kernel_rfl) (by kernel_rfl) (by kernel_rfl) (fun _ _ _ h => h) (Or.inl ⟨by rfl, ?_⟩) ?_
            rotate_left
            · intro w; go_simp; try with_reducible rfl
            refine wpAny_take (i := 5) (v := ?_) rfl (by kernel_rfl) (by kernel_rfl) (by kernel_rfl) (fun _ _ _ h => h) (Or.inl ⟨by rfl, ?_⟩) ?_
            rotate_left
            · intro w; go_simp; try with_reducible rfl
            refine wpAny_take (i := 6) (v := ?_) rfl (by kernel_rfl) (by kernel_rfl) (by kernel_rfl) (fun _ _ _ h => h) (Or.inl ⟨by rfl, ?_⟩) ?_
            rotate_left
            · intro w; go_simp; try with_reducible rfl
            refine wpAny_take (i := 7) (v := ?_) rfl (by kernel_rfl) (by kernel_rfl) (by kernel_rfl) (fun _ _ _ h => h) (Or.inl ⟨by rfl, ?_⟩) ?_
            rotate_left
            · intro w; go_simp; try with_reducible rfl
            refine wpAny_take (i := 11) (v := ?_) rfl (by kernel_rfl) (by kernel_rfl) (by kernel_rfl) (fun _ _ _ h => h) (Or.inl ⟨by rfl, ?_⟩) ?_
            rotate_left
            · intro w; go_simp; try with_reducible rfl
            refine wpAny_ready (rs := [2, 8]) (by kernel_rfl) (by simp) ?_
            refine AllReady.cons rfl (fun K hK => ?_) ?_
            · rw [if_pos (by kernel_rfl)]
              go_simp
              refine (pick_any g a n c f (m + 2 + 6 * k + 2 + 2) (by omega) 17 (by omega) (by omega) _ (hS0.over hb hS)).mono ?_
              rintro e w3yx ⟨y, hy, rfl, hU, hS⟩
              have hb := hb.bar hU.bar (by omega)
              have hZ := hU.blk hZ (by omega)
              have hF := hU.blk hF (by omega)
              have hlt2 := hF.lt
              clear hU c1
              have hS := hS.blk
              have c1 := (hF.cell (32 + k)).trans (get_fA_lt (upd (upd cur (32 + k) (pw v)) k R) (by omega))
              rw [show (upd (upd cur (32 + k) (pw v)) k R) (32 + k) = pw v by simp only [upd]; rw [if_neg (by omega), if_pos trivial]] at c1
              obtain ⟨X2, qX2, nX2, hX2⟩ := op_word (op := .quo) (x := floatOfInt .f32 (y : Int)) (y := 1098907648) (sixt_is hy).some
              have HX2 : Hid (canon .f32 X2 = fdiv (fint y) (canon .f32 1098907648)) := Lib.hid hX2
              clear hX2
              refine hK _ _ ?_
              clear hK K
              refine wpAny_take (i := 3) (v := ?_) rfl (by kernel_rfl) (by kernel_rfl) (by kernel_rfl) (fun _ _ _ h => h) (Or.inl ⟨by rfl, ?_⟩) ?_
              rotate_left
              · intro w; go_simp; try with_reducible rfl
              refine wpAny_take (i := 4) (v := ?_) rfl (by kernel_rfl) (by kernel_rfl) (by kernel_rfl) (fun _ _ _ h => h) (Or.inl ⟨by rfl, ?_⟩) ?_
              rotate_left
              · intro w; go_simp; refine ⟨?_, World.drewN_zero w⟩; with_reducible rfl
              refine wpAny_ready (rs := [8]) (by kernel_rfl) (by simp) ?_
              refine AllReady.cons rfl (fun K hK => ?_) ?_
              · rw [if_pos (by kernel_rfl)]
                go_simp
                refine hK _ _ ?_
                clear hK K
                refine wpAny_take (i := 9) (v := ?_) rfl (by kernel_rfl) (by kernel_rfl) (by kernel_rfl) (fun _ _ _ h => h) (Or.inl ⟨by rfl, ?_⟩) ?_
                rotate_left
                · intro w; go_simp; refine ⟨?_, World.drewN_zero w⟩; with_reducible rfl
                obtain ⟨B, qB, nB, hB⟩ := op_word (op := .mul) (x := X2) (y := Y) (by show (fmul (canon .f32 X2) (canon .f32 Y)).isSome = true; rw [HX2.out, HY.out]; exact (mix_is hv hy).some)
                have HB : Hid (canon .f32 B = fmul (fdiv (fint y) (canon .f32 1098907648)) (fsub (canon .f32 1065353216) (canon .f32 (pw v)))) := Lib.hid (by rw [hB, HX2.out, HY.out]; rfl)
                clear hB
                refine wpAny_take (i := 10) (v := ?_) rfl (by kernel_rfl) (by kernel_rfl) (by kernel_rfl) (fun _ _ _ h => h) (Or.inl ⟨by rfl, ?_⟩) ?_
                rotate_left
                · intro w; go_simp; refine ⟨?_, World.drewN_zero w⟩; with_reducible rfl
                refine wpAny_take (i := 12) (v := ?_) rfl (by kernel_rfl) (by kernel_rfl) (by kernel_rfl) (fun _ _ _ h => h) (Or.inl ⟨by rfl, ?_⟩) ?_
                rotate_left
                · intro w; go_simp; try with_reducible rfl
                have f1 := hF.frozen (16 + k)
                have c2 := (hF.cell (16 + k)).trans (get_fA_lt (upd (upd cur (32 + k) (pw v)) k R) (by omega))
                refine wpAny_ready (rs := [13]) (by kernel_rfl) (by simp) ?_
                refine AllReady.cons rfl (fun K hK => ?_) ?_
                · rw [if_pos (by kernel_rfl)]
                  go_simp
                  refine hK _ _ ?_
                  clear hK K c1 c2 f1
                  refine wpAny_done (by kernel_rfl) ?_ _
                  have hb := hb.setCell (p := ⟨w1.heap.size, 16 + k, none⟩) (by dsimp only; omega) (.float .f32 B)
                  have hZ := hZ.far (p := ⟨w1.heap.size, 16 + k, none⟩) (by dsimp only; omega) (.float .f32 B)
                  have hF := hF.setF (16 + k) B
                  have hS : ∃ i s : Nat, i ≤ m + 2 + 6 * k + 2 + 2 + 2 ∧ s < 18446744073709551616 ∧ Blk (World.setCell w3yx ⟨w1.heap.size, 16 + k, none⟩ (.float .f32 B)) g 83 #[.slice a n c, .int .i64 i, .int .u64 s] := by obtain ⟨i, s, h1, h2, h3⟩ := hS; exact ⟨i, s, h1, h2, h3.far (by dsimp only; omega) _⟩
                  generalize World.setCell w3yx ⟨w1.heap.size, 16 + k, none⟩ (.float .f32 B) = w3yy at *
                  clear qX2 nX2 qB nB
                  go_wp2
                  go_roundw
                  case rel => exact ⟨k + 1, _, by omega, by go_num, hb, hZ, hF, by obtain ⟨i, s, h1, h2, h3⟩ := hS; exact ⟨i, s, by omega, h2, h3⟩, Lib.hid (mixed_next HV.out hlt hv hx hy HR.out HB.out)⟩
                  case measure => simp [intOf]; omega
                exact AllReady.nil
              exact AllReady.nil
            refine AllReady.cons rfl (fun K hK => ?_) ?_
            · rw [if_pos (by kernel_rfl)]
              go_simp
              refine hK _ _ ?_
              clear hK K
              refine wpAny_take (i := 9) (v := ?_) rfl (by kernel_rfl) (by kernel_rfl) (by kernel_rfl) (fun _ _ _ h => h) (Or.inl ⟨by rfl, ?_⟩) ?_
              rotate_left
              · intro w; go_simp; refine ⟨?_, World.drewN_zero w⟩; with_reducible rfl
              refine wpAny_ready (rs := [2]) (by kernel_rfl) (by simp) ?_
              refine AllReady.cons rfl (fun K hK => ?_) ?_
              · rw [if_pos (by kernel_rfl)]
                go_simp
                refine (pick_any g a n c f (m + 2 + 6 * k + 2 + 2) (by omega) 17 (by omega) (by omega) _ (hS0.over hb hS)).mono ?_
                rintro e w3yx ⟨y, hy, rfl, hU, hS⟩
                have hb := hb.bar hU.bar (by omega)
                have hZ := hU.blk hZ (by omega)
                have hF := hU.blk hF (by omega)
                have hlt2 := hF.lt
                clear hU c1
                have hS := hS.blk
                have c1 := (hF.cell (32 + k)).trans (get_fA_lt (upd (upd cur (32 + k) (pw v)) k R) (by omega))
                rw [show (upd (upd cur (32 + k) (pw v)) k R) (32 + k) = pw v by simp only [upd]; rw [if_neg (by omega), if_pos trivial]] at c1
                obtain ⟨X2, qX2, nX2, hX2⟩ := op_word (op := .quo) (x := floatOfInt .f32 (y : Int)) (y := 1098907648) (sixt_is hy).some
                have HX2 : Hid (canon .f32 X2 = fdiv (fint y) (canon .f32 1098907648)) := Lib.hid hX2
                clear hX2
                refine hK _ _ ?_
                clear hK K
                refine wpAny_take (i := 3) (v := ?_) rfl (by kernel_rfl) (by kernel_rfl) (by kernel_rfl) (fun _ _ _ h => h) (Or.inl ⟨by rfl, ?_⟩) ?_
                rotate_left
                · intro w; go_simp; try with_reducible rfl
                refine wpAny_take (i := 4) (v := ?_) rfl (by kernel_rfl) (by kernel_rfl) (by kernel_rfl) (fun _ _ _ h => h) (Or.inl ⟨by rfl, ?_⟩) ?_
                rotate_left
                · intro w; go_simp; refine ⟨?_, World.drewN_zero w⟩; with_reducible rfl
                obtain ⟨B, qB, nB, hB⟩ := op_word (op := .mul) (x := X2) (y := Y) (by show (fmul (canon .f32 X2) (canon .f32 Y)).isSome = true; rw [HX2.out, HY.out]; exact (mix_is hv hy).some)
                have HB : Hid (canon .f32 B = fmul (fdiv (fint y) (canon .f32 1098907648)) (fsub (canon .f32 1065353216) (canon .f32 (pw v)))) := Lib.hid (by rw [hB, HX2.out, HY.out]; rfl)
                clear hB
                refine wpAny_take (i := 10) (v := ?_) rfl (by kernel_rfl) (by kernel_rfl) (by kernel_rfl) (fun _ _ _ h => h) (Or.inl ⟨by rfl, ?_⟩) ?_
                rotate_left
                · intro w; go_simp; refine ⟨?_, World.drewN_zero w⟩; with_reducible rfl
                refine wpAny_take (i := 12) (v := ?_) rfl (by kernel_rfl) (by kernel_rfl) (by kernel_rfl) (fun _ _ _ h => h) (Or.inl ⟨by rfl, ?_⟩) ?_
                rotate_left
                · intro w; go_simp; try with_reducible rfl
                have f1 := hF.frozen (16 + k)
                have c2 := (hF.cell (16 + k)).trans (get_fA_lt (upd (upd cur (32 + k) (pw v)) k R) (by omega))
                refine wpAny_ready (rs := [13]) (by kernel_rfl) (by simp) ?_
                refine AllReady.cons rfl (fun K hK => ?_) ?_
                · rw [if_pos (by kernel_rfl)]
                  go_simp
                  refine hK _ _ ?_
                  clear hK K c1 c2 f1
                  refine wpAny_done (by kernel_rfl) ?_ _
                  have hb := hb.setCell (p := ⟨w1.heap.size, 16 + k, none⟩) (by dsimp only; omega) (.float .f32 B)
                  have hZ := hZ.far (p := ⟨w1.heap.size, 16 + k, none⟩) (by dsimp only; omega) (.float .f32 B)
                  have hF := hF.setF (16 + k) B
                  have hS : ∃ i s : Nat, i ≤ m + 2 + 6 * k + 2 + 2 + 2 ∧ s < 18446744073709551616 ∧ Blk (World.setCell w3yx ⟨w1.heap.size, 16 + k, none⟩ (.float .f32 B)) g 83 #[.slice a n c, .int .i64 i, .int .u64 s] := by obtain ⟨i, s, h1, h2, h3⟩ := hS; exact ⟨i, s, h1, h2, h3.far (by dsimp only; omega) _⟩
                  generalize World.setCell w3yx ⟨w1.heap.size, 16 + k, none⟩ (.float .f32 B) = w3yy at *
                  clear qX2 nX2 qB nB
                  go_wp2
                  go_roundw
                  case rel => exact ⟨k + 1, _, by omega, by go_num, hb, hZ, hF, by obtain ⟨i, s, h1, h2, h3⟩ := hS; exact ⟨i, s, by omega, h2, h3⟩, Lib.hid (mixed_next HV.out hlt hv hx hy HR.out HB.out)⟩
                  case measure => simp [intOf]; omega
                exact AllReady.nil
              exact AllReady.nil
            exact AllReady.nil
          exact AllReady.nil
        exact AllReady.nil
      exact AllReady.nil
    · obtain rfl : k = 16 := by omega
      go_wp2_with (first | (refine wpList_load_row rfl 28 _ rfl _ rfl _ _ (0, 0) _ hF Try.underlying28 rfl (by kernel_rfl) ?_) | (refine wpList_store_row rfl 28 _ _ rfl _ _ rfl rfl _ _ hZ (by kernel_rfl) (by simp only [size_fA]) (all_fA _ _) ?_))
      have hb := hb.row (Nat.le_refl _) (fA 48 cur)
      exact bodyPost_ret (results_cell_row rfl _ _ w.heap.size _ _ _ _ rfl hZ.setRow Try.underlying28 rfl (by kernel_rfl)) rfl ⟨cur, HV.out, rfl, hb, (hS0.over hb (src_row hS (by omega))).more (by omega)⟩
end Go.Proofs.Ytfpjiclkhjdihaa
