/- Contracts: films that are drawn from bytes. -/
import Derived.Test.YtfpjiclkhjdihaaDrm
import Derived.Test.YtfpjiclkhjdihaaFmC
import Derived.Test.YtfpjiclkhjdihaaDM
import Derived.Test.YtfpjiclkhjdihaaGen
namespace Go.Proofs.Ytfpjiclkhjdihaa
open Go.RowKit
set_option maxRecDepth 100000

/-- The first byte is read. -/
def RetFst (w : World) (g : Nat) (a : Option Addr) (n c : Nat) (f : Nat → Nat) (v m : Nat) (e : Ending) (w' : World) : Prop := e = .returned (.int .i64 v) ∧ Upto w w' g ∧ Src w' g a n c f m
theorem next_first (g : Nat) (a : Option Addr) (n c : Nat) (f : Nat → Nat) (w : World) (hS : Src w g a n c f 0) (h0 : 0 < n) : Calls Try.prog 84 #[.pointer (some ⟨g, 0, none⟩)] w (RetFst w g a n c f (f 0) 1) := by
  obtain ⟨i, s, hi, hs, hB⟩ := hS.blk
  have c0 : w.cell? ⟨g, 0, none⟩ = some (.slice a n c) := by rw [hB.cell 0]; rfl
  have c1 : w.cell? ⟨g, 1, none⟩ = some (.int .i64 i) := by rw [hB.cell 1]; rfl
  have c2 : w.cell? ⟨g, 2, none⟩ = some (.int .u64 s) := by rw [hB.cell 2]; rfl
  have hn := hS.byt.small
  unfold maxLen at hn
  have f1 := hB.frozen 1
  have f2 := hB.frozen 2
  have h : i < n := by omega
  have e0 : f i = f 0 := by congr 1; omega
  obtain ⟨x, hx, hxb, hxc, hf⟩ := hS.byt.cell i h
  have hne := hS.far (by omega) x hx
  subst hx
  have E0 := Lib.hid e0
  clear e0
  go_enter Try.func84, Try.ntmps84
  go_wp2_with fail
  go_quiet (fail)
  go_wp2_with fail
  go_quiet (fail)
  go_wp2_with fail
  obtain ⟨S, hS1, hS2⟩ := u64_wrap (IntKind.u64.wrap (IntKind.u64.wrap ((s : Int) * 6364136223846793005) + (f i : Int)) + 1442695040888963407)
  rw [hS2]
  clear hS2
  go_quiet (fail)
  go_wp2
  go_ret
  obtain ⟨hU, hN⟩ := src_step hS hB hi hS1 _ _
  exact ⟨by rw [E0.out]; rfl, hU, hN⟩
theorem pick_first (g : Nat) (a : Option Addr) (n c : Nat) (f : Nat → Nat) (h0 : 0 < n) (k : Nat) (hk : 1 < k) (hk2 : k ≤ 200) (w : World) (hS : Src w g a n c f 0) : Calls Try.prog 57 #[.pointer (some ⟨g, 0, none⟩), .int .i64 k] w (RetFst w g a n c f (f 0 % k) 2) := by
  have h2 : decide ((k : Int) ≤ 1) = false := by simp; omega
  have h4 : decide ((200 : Int) < (k : Int)) = false := by simp; omega
  have hk' : 1 ≤ k := by omega
  go_enter Try.func57, Try.ntmps57
  go_wp2_with fail
  refine (next_first g a n c f _ hS h0).mono ?_
  rintro e w1 ⟨rfl, hU1, hS1⟩
  have hlt := mod_lt_k (x := f 0) hk'
  go_wp2
  go_ret
  exact ⟨by simp, hU1, hS1.more (by omega)⟩
/-- A film, drawn. -/
def RetFlm (w : World) (g : Nat) (a : Option Addr) (n c : Nat) (f : Nat → Nat) (m : Nat) (e : Ending) (w' : World) : Prop := ∃ r : Nat → Nat, Flm (fun i => canon .f32 (r i)) ∧ e = .returned (.agg (fA 48 r)) ∧ Bar w.heap.size g w w' ∧ Src w' g a n c f m
def RetLow (w : World) (g : Nat) (a : Option Addr) (n c : Nat) (f : Nat → Nat) (m : Nat) (e : Ending) (w' : World) : Prop := ∃ r : Nat → Nat, Flm (fun i => canon .f32 (r i)) ∧ Low (fun i => canon .f32 (r i)) ∧ e = .returned (.agg (fA 48 r)) ∧ Bar w.heap.size g w w' ∧ Src w' g a n c f m
set_option maxHeartbeats 4000000 in
theorem film_first (g : Nat) (a : Option Addr) (n c : Nat) (f : Nat → Nat) (h0 : 0 < n) (h2 : f 0 % 3 = 2) (w : World) (hS0 : Src w g a n c f 0) : Calls Try.prog 27 #[.pointer (some ⟨g, 0, none⟩)] w (RetLow w g a n c f 100) := by
  have hg : g < w.heap.size := by obtain ⟨_, _, _, _, h⟩ := hS0.blk; exact h.lt
  have hb : Below w.heap.size w (w.alloc (.cells (fA 48 fun _ => 0) 28)) := (by repeat (first | assumption | exact Below.refl _ _ | refine bDrew ?_ _ | refine Below.alloc ?_ (by first | omega | (simp; done) | (simp; omega)) _ | refine Below.setCell ?_ (by first | omega | (simp; done) | (simp; omega)) _ | refine bRow ?_ (by first | omega | (simp; done) | (simp; omega)) _))
  have hZ : Blk (w.alloc (.cells (fA 48 fun _ => 0) 28)) w.heap.size 28 (fA 48 fun _ => 0) := Blk.new _ _ _
  have hS := hS0.of hb
  have hb : Bar w.heap.size g w (w.alloc (.cells (fA 48 fun _ => 0) 28)) := Bar.of hb
  have hsz : (w.alloc (.cells (fA 48 fun _ => 0) 28)).heap.size = w.heap.size + 1 := by simp
  go_enter Try.func27, Try.ntmps27
  go_wp2_with fail
  refine (pick_first g a n c f h0 3 (by omega) (by omega) _ hS).mono ?_
  rintro e w1 ⟨rfl, hU, hS⟩
  rw [h2]
  have hb := hb.bar hU.bar (by omega)
  have hZ := hU.blk hZ (by omega)
  have hsz1 := hU.size
  rw [hsz] at hsz1
  clear hU hsz
  go_wp2_with fail
  refine (l02Drawn_any g a n c f 2 (by omega) _ hS).mono ?_
  rintro e w2 ⟨A, K, S, k, hk, hL, hx, rfl, hB, hS⟩
  have hb := hb.bar hB (by omega)
  have hZ := hB.blk hZ (by omega)
  have hsz2 := hB.size
  have HL := Lib.hid hL
  have Hk := Lib.hid hk
  clear hB hL hk hx
  have hA : Blk (w2.alloc (.cells (fA 33 A) 41)) w2.heap.size 41 (fA 33 A) := Blk.new _ _ _
  have hS := hS.of ((Below.refl w2.heap.size w2).alloc (Nat.le_refl _) (.cells (fA 33 A) 41))
  have hb := hb.alloc (by omega) (.cells (fA 33 A) 41)
  have hZ := hZ.alloc (.cells (fA 33 A) 41)
  have hsz3 : (w2.alloc (.cells (fA 33 A) 41)).heap.size = w2.heap.size + 1 := by simp
  go_wp2_with (first | (refine wpList_store_new rfl 41 _ _ rfl _ rfl rfl (by kernel_rfl) rfl (all_fA _ _) ?_))
  refine (l02FilmOf_any w2.heap.size 41 A _ hA).mono ?_
  rintro e w3 h
  obtain ⟨r, rfl, hr, hb3⟩ := h.ok (layer_flm HL.out Hk.out).1 (fun i _ => rfl)
  clear h hA
  have hS := hS.of hb3
  have hb := hb.call hb3 (by omega)
  have hZ := hZ.below hb3 hZ.lt
  have hsz4 := hb3.size
  have Hr := Lib.hid hr
  clear hr hb3
  have hM : Blk (w3.alloc (.cells (fA 48 r) 28)) w3.heap.size 28 (fA 48 r) := Blk.new _ _ _
  have hS := hS.of ((Below.refl w3.heap.size w3).alloc (Nat.le_refl _) (.cells (fA 48 r) 28))
  have hb := hb.alloc (by omega) (.cells (fA 48 r) 28)
  have hZ := hZ.alloc (.cells (fA 48 r) 28)
  go_wp2_with (first | (refine wpList_store_new rfl 28 _ _ rfl _ rfl rfl (by kernel_rfl) rfl (all_fA _ _) ?_) | (refine wpList_load_row rfl 28 _ rfl _ rfl _ _ (0, 0) _ hM Try.underlying28 rfl (by kernel_rfl) ?_) | (refine wpList_store_row rfl 28 _ _ rfl _ _ rfl rfl _ _ hZ (by kernel_rfl) (by simp only [size_fA]) (all_fA _ _) ?_))
  have hb := hb.row (Nat.le_refl _) (fA 48 r)
  exact bodyPost_ret (results_cell_row rfl _ _ w.heap.size _ _ _ _ rfl hZ.setRow Try.underlying28 rfl (by kernel_rfl)) rfl ⟨r, (layer_flm HL.out Hk.out).2.1.to Hr.out, (layer_flm HL.out Hk.out).2.2.to Hr.out, rfl, hb, hS0.over hb (src_row (hS.more (by omega)).blk (by omega))⟩
end Go.Proofs.Ytfpjiclkhjdihaa
