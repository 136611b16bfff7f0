/- Contracts: smooth curves that are drawn from bytes. A call may write the source's own block, nothing else of the old memory. Contracts: layers that are drawn from bytes. A contract: the layer that the laws draw. -/
import Derived.Test.YtfpjiclkhjdihaaCA
import Derived.Test.YtfpjiclkhjdihaaFlF
import Derived.Deep.RegionWith
import Derived.Test.YtfpjiclkhjdihaaCN
import Derived.Test.YtfpjiclkhjdihaaCR
namespace Go.Proofs.Ytfpjiclkhjdihaa
open Go.RowKit
set_option maxRecDepth 100000

/-- Below block number B the world is as it was, but for the block g. -/
structure Bar (B g : Nat) (w w' : World) : Prop where
  os : w'.os = w.os
  tape : w'.tape = w.tape
  output : w'.output = w.output
  size : w.heap.size ≤ w'.heap.size
  block : ∀ k, k < B → k ≠ g → w'.heap[k]? = w.heap[k]?
section
variable {B g : Nat} {a w w' : World}
theorem Bar.refl (B g : Nat) (w : World) : Bar B g w w := ⟨rfl, rfl, rfl, Nat.le_refl _, fun _ _ _ => rfl⟩
theorem Bar.of (h : Below B w w') : Bar B g w w' := ⟨h.os, h.tape, h.output, h.size, fun k hk _ => h.block k hk⟩
theorem Bar.trans {c : World} (h : Bar B g a w) (k : Bar B g w c) : Bar B g a c :=
  ⟨k.os.trans h.os, k.tape.trans h.tape, k.output.trans h.output, Nat.le_trans h.size k.size, fun i hi hg => (k.block i hi hg).trans (h.block i hi hg)⟩
theorem Bar.mono {B' : Nat} (h : Bar B g w w') (hB : B' ≤ B) : Bar B' g w w' := ⟨h.os, h.tape, h.output, h.size, fun k hk => h.block k (Nat.lt_of_lt_of_le hk hB)⟩
theorem Bar.alloc (h : Bar B g a w) (hB : B ≤ w.heap.size) (o : Obj) : Bar B g a (w.alloc o) := h.trans (Bar.of ((Below.refl B w).alloc hB o))
theorem Bar.setCell (h : Bar B g a w) {p : Addr} (hp : B ≤ p.block) (u : Value) : Bar B g a (w.setCell p u) := h.trans (Bar.of ((Below.refl B w).setCell hp u))
theorem Bar.draw (h : Bar B g a w) (n : Nat) : Bar B g a (w.drewN n) := h.trans (Bar.of (bDrew (Below.refl B w) n))
theorem Bar.drew (h : Bar B g a w) : Bar B g a w.drew := h.trans (Bar.of ((Below.refl B w).drew))
theorem Bar.row (h : Bar B g a w) {k : Nat} (hk : B ≤ k) (cs : Array Value) : Bar B g a (w.setRow k cs) := h.trans (Bar.of (bRow (Below.refl B w) hk cs))
theorem Bar.call (h : Bar B g a w) (hb : Below w.heap.size w w') (hB : B ≤ w.heap.size) : Bar B g a w' := h.trans (Bar.of (hb.mono hB))
theorem Bar.bar (h : Bar B g a w) (hb : Bar w.heap.size g w w') (hB : B ≤ w.heap.size) : Bar B g a w' := h.trans (hb.mono hB)
theorem Upto.bar (h : Upto w w' g) : Bar w.heap.size g w w' := by
  obtain ⟨cs, q, rfl⟩ := h
  have h1 : Bar w.heap.size g w (w.setRow g cs) := ⟨rfl, rfl, rfl, by simp, fun k _ hg => setRow_other w g k cs hg⟩
  exact h1.draw q
theorem Bar.blk {g' : Nat} {t : TypeId} {cs : Array Value} (h : Bar w.heap.size g w w') (hB : Blk w g' t cs) (hne : g' ≠ g) : Blk w' g' t cs := by
  have hlt := hB.lt
  unfold Blk at *
  rw [h.block g' hlt hne]
  exact hB
/-- What a source's own block holds is of nobody's concern who was there before it. -/
theorem Bar.below (h : Bar B g a w) (hg : B ≤ g) : Below B a w := ⟨h.os, h.tape, h.output, h.size, fun k hk => h.block k hk (by omega)⟩
end
theorem Src.of {w w' : World} {g : Nat} {a : Option Addr} {n c : Nat} {f : Nat → Nat} {m : Nat} (h : Src w g a n c f m) (hb : Below w.heap.size w w') : Src w' g a n c f m := by
  refine ⟨h.byt.below hb, h.far, ?_⟩
  obtain ⟨i, s, h1, h2, h3⟩ := h.blk
  exact ⟨i, s, h1, h2, h3.below hb h3.lt⟩
theorem Src.more {w : World} {g : Nat} {a : Option Addr} {n c : Nat} {f : Nat → Nat} {m m' : Nat} (h : Src w g a n c f m) (hm : m ≤ m') : Src w g a n c f m' := by
  refine ⟨h.byt, h.far, ?_⟩
  obtain ⟨i, s, h1, h2, h3⟩ := h.blk
  exact ⟨i, s, by omega, h2, h3⟩
theorem Src.over {w w' : World} {g : Nat} {a : Option Addr} {n c : Nat} {f : Nat → Nat} {m m' : Nat} (h : Src w g a n c f m) (hb : Bar w.heap.size g w w') (hB : ∃ i s : Nat, i ≤ m' ∧ s < 18446744073709551616 ∧ Blk w' g 83 #[.slice a n c, .int .i64 i, .int .u64 s]) : Src w' g a n c f m' := by
  refine ⟨⟨h.byt.small, fun j hj => ?_⟩, h.far, hB⟩
  obtain ⟨x, h1, h2, h3, h4⟩ := h.byt.cell j hj
  have e3 : (x.add j).block = x.block := by unfold Addr.add; split <;> rfl
  refine ⟨x, h1, Nat.lt_of_lt_of_le h2 hb.size, ?_, h4⟩
  rw [World.cell?_of_block (w := w) (hb.block (x.add j).block (by rw [e3]; exact h2) (by rw [e3]; exact h.far (by omega) x h1))]
  exact h3
theorem src_row {w : World} {g k : Nat} {a : Option Addr} {n c m : Nat} {cs : Array Value} (h : ∃ i s : Nat, i ≤ m ∧ s < 18446744073709551616 ∧ Blk w g 83 #[.slice a n c, .int .i64 i, .int .u64 s]) (hk : g ≠ k) : ∃ i s : Nat, i ≤ m ∧ s < 18446744073709551616 ∧ Blk (w.setRow k cs) g 83 #[.slice a n c, .int .i64 i, .int .u64 s] := by
  obtain ⟨i, s, h1, h2, h3⟩ := h
  exact ⟨i, s, h1, h2, h3.farRow hk⟩
/-- A curve between 0 and 1, drawn. -/
def RetSm (w : World) (g : Nat) (a : Option Addr) (n c : Nat) (f : Nat → Nat) (m : Nat) (e : Ending) (w' : World) : Prop := ∃ r : Nat → Nat, (∀ i, i < 16 → Unit1 (canon .f32 (r i))) ∧ e = .returned (.agg (fA 16 r)) ∧ Bar w.heap.size g w w' ∧ Src w' g a n c f m
theorem l01Smooth_any (g : Nat) (a : Option Addr) (n c : Nat) (f : Nat → Nat) (m : Nat) (hm : m ≤ 700000) (w : World) (hS0 : Src w g a n c f m) : Calls Try.prog 72 #[.pointer (some ⟨g, 0, none⟩)] w (RetSm w g a n c f (m + 40)) := by
  have hg : g < w.heap.size := by obtain ⟨_, _, _, _, h⟩ := hS0.blk; exact h.lt
  have hO0 : Blk ((w.alloc (.cells (fA 16 fun _ => 0) 26)).alloc (.cells (fA 16 fun _ => 0) 26)) (w.heap.size + 1) 26 (fA 16 fun _ => 0) := Blk.new_at _ _ (by simp) rfl
  have hZ : Blk (((w.alloc (.cells (fA 16 fun _ => 0) 26)).alloc (.cells (fA 16 fun _ => 0) 26)).setRow (w.heap.size + 1) (fA 16 fun _ => 0)) w.heap.size 26 (fA 16 fun _ => 0) := Blk.farRow (by first | assumption | (repeat (first | assumption | (apply Blk.new_at; (focus (simp; done)); rfl) | apply Blk.alloc | apply Blk.drewN))) (by omega)
  have hO : Blk (((w.alloc (.cells (fA 16 fun _ => 0) 26)).alloc (.cells (fA 16 fun _ => 0) 26)).setRow (w.heap.size + 1) (fA 16 fun _ => 0)) (w.heap.size + 1) 26 (fA 16 fun _ => 0) := hO0.setRow
  have hb : Below w.heap.size w (((w.alloc (.cells (fA 16 fun _ => 0) 26)).alloc (.cells (fA 16 fun _ => 0) 26)).setRow (w.heap.size + 1) (fA 16 fun _ => 0)) := bRow (by repeat (first | assumption | exact Below.refl _ _ | refine bDrew ?_ _ | refine Below.alloc ?_ (by first | omega | (simp; done) | (simp; omega)) _ | refine Below.setCell ?_ (by first | omega | (simp; done) | (simp; omega)) _ | refine bRow ?_ (by first | omega | (simp; done) | (simp; omega)) _)) (by omega) _
  have hS := hS0.of hb
  have hb : Bar w.heap.size g w (((w.alloc (.cells (fA 16 fun _ => 0) 26)).alloc (.cells (fA 16 fun _ => 0) 26)).setRow (w.heap.size + 1) (fA 16 fun _ => 0)) := Bar.of hb
  go_enter Try.func72, Try.ntmps72
  go_wp2_with (first | (refine wpList_build_as rfl 26 _ rfl (fA 16 fun _ => 0) (by kernel_rfl) ?_) | (refine wpList_store_row rfl 26 _ _ rfl _ _ rfl rfl _ _ hO0 (by kernel_rfl) (by simp only [size_fA]) (all_fA _ _) ?_))
  refine (pick_any g a n c f m (by omega) 4 (by omega) (by omega) _ hS).mono ?_
  rintro e w1 ⟨k, hk, rfl, hU, hS⟩
  have hb := (hb.bar hU.bar (by simp; omega))
  have hZ := hU.blk hZ (by omega)
  have hO := hU.blk hO (by omega)
  have hsz : w1.heap.size = w.heap.size + 2 := by rw [hU.size]; simp
  clear hU
  by_cases h0 : k = 0
  · subst h0
    go_wp2_with fail
    refine (l01Plain_any g a n c f (m + 2) (by omega) _ hS).mono ?_
    rintro e w2 ⟨v, hv, rfl, hU, hS⟩
    have hb := hb.bar hU.bar (by omega)
    have hZ := hU.blk hZ (by omega)
    have hsz2 := hU.size
    clear hU hO
    go_wp2_with fail
    refine (l01Flat_any (pw v) _).mono ?_
    rintro e w3 ⟨r, rfl, hr, hb3⟩
    have hS := hS.of hb3
    have hb := hb.call hb3 (by omega)
    have hZ := hZ.below hb3 hZ.lt
    have Hr := Lib.hid hr
    clear hr hb3
    go_wp2_with (first | (refine wpList_store_row rfl 26 _ _ rfl _ _ rfl rfl _ _ hZ (by kernel_rfl) (by simp only [size_fA]) (all_fA _ _) ?_))
    have hb := hb.row (Nat.le_refl _) (fA 16 r)
    exact bodyPost_ret (results_cell_row rfl _ _ w.heap.size _ _ _ _ rfl hZ.setRow Try.underlying26 rfl (by kernel_rfl)) rfl ⟨r, fun i hi => by rw [Hr.out i hi]; exact pw_unit hv, rfl, hb, hS0.over hb (src_row (hS.more (by omega)).blk (by omega))⟩
  by_cases h1 : k = 1
  · subst h1
    go_wp2_with fail
    refine (pick_any g a n c f (m + 2) (by omega) 33 (by omega) (by omega) _ hS).mono ?_
    rintro e w2 ⟨v, hv, rfl, hU, hS⟩
    have hb := hb.bar hU.bar (by omega)
    have hZ := hU.blk hZ (by omega)
    have hsz2 := hU.size
    clear hU hO
    obtain ⟨P, ip, P0, P1⟩ := place_is v hv
    have Hp : Hid (canon .f32 (fval .quo .f32 (floatOfInt .f32 (v : Int)) 1073741824 w2) = fdiv (fint v) (canon .f32 1073741824)) := Lib.hid (c_div ..)
    go_wp2_with fail
    generalize fval .quo .f32 (floatOfInt .f32 (v : Int)) 1073741824 w2 = pp at *
    generalize fcnt .quo .f32 (floatOfInt .f32 (v : Int)) 1073741824 = n1 at *
    have hS := hS.of (bDrew (Below.refl _ _) n1)
    have hb := hb.draw n1
    have hZ := hZ.drewN n1
    have hsz3 : (w2.drewN n1).heap.size = w2.heap.size := rfl
    generalize w2.drewN n1 = w3 at *
    refine (pick_any g a n c f (m + 2 + 2) (by omega) 8 (by omega) (by omega) _ hS).mono ?_
    rintro e w4 ⟨u, hu, rfl, hU, hS⟩
    have hb := hb.bar hU.bar (by omega)
    have hZ := hU.blk hZ (by omega)
    have hsz4 := hU.size
    clear hU
    have eu : IntKind.i64.wrap (1 + (u : Int)) = 1 + (u : Int) := IntWalk.i64_in _ (by omega)
    obtain ⟨Q, iq, Q0⟩ := width_is u hu
    have Hq : Hid (canon .f32 (fval .quo .f32 (floatOfInt .f32 (1 + (u : Int))) 1073741824 w4) = fdiv (fint (1 + (u : Int))) (canon .f32 1073741824)) := Lib.hid (c_div ..)
    go_wp2_with fail
    generalize fval .quo .f32 (floatOfInt .f32 (1 + (u : Int))) 1073741824 w4 = qq at *
    generalize fcnt .quo .f32 (floatOfInt .f32 (1 + (u : Int))) 1073741824 = n2 at *
    have hS := hS.of (bDrew (Below.refl _ _) n2)
    have hb := hb.draw n2
    have hZ := hZ.drewN n2
    have hsz5 : (w4.drewN n2).heap.size = w4.heap.size := rfl
    generalize w4.drewN n2 = w5 at *
    refine (l01Bump_any pp qq _).mono ?_
    rintro e w6 ⟨r, rfl, hr, hb3⟩
    have hS := hS.of hb3
    have hb := hb.call hb3 (by omega)
    have hZ := hZ.below hb3 hZ.lt
    have Hr : Hid (∀ i, i < 16 → Unit1 (canon .f32 (r i))) := Lib.hid fun i hi => by
      rw [hr i hi, Hp.out, Hq.out]
      exact bump_unit ip iq P0 P1 Q0 hi
    clear hr hb3 ip iq Hp Hq
    go_wp2_with (first | (refine wpList_store_row rfl 26 _ _ rfl _ _ rfl rfl _ _ hZ (by kernel_rfl) (by simp only [size_fA]) (all_fA _ _) ?_))
    have hb := hb.row (Nat.le_refl _) (fA 16 r)
    exact bodyPost_ret (results_cell_row rfl _ _ w.heap.size _ _ _ _ rfl hZ.setRow Try.underlying26 rfl (by kernel_rfl)) rfl ⟨r, Hr.out, rfl, hb, hS0.over hb (src_row (hS.more (by omega)).blk (by omega))⟩
  have d0 : ((k : Int) == 0) = false := by simp; omega
  have d1 : ((k : Int) == 1) = false := by simp; omega
  go_wp2_with fail
  have hS1 := (hS.more (show m + 2 ≤ m + 2 + 2 * 0 by omega)).blk
  clear hS
  go_loopw [4] (fun i wr => ∃ (k : Nat) (cur : Nat → Nat), k ≤ 16 ∧ i = .int .i64 k ∧ Bar w.heap.size g w wr ∧ Blk wr w.heap.size 26 (fA 16 fun _ => 0) ∧ Blk wr (w.heap.size + 1) 26 (fA 16 cur) ∧ (∃ i s : Nat, i ≤ m + 2 + 2 * k ∧ s < 18446744073709551616 ∧ Blk wr g 83 #[.slice a n c, .int .i64 i, .int .u64 s]) ∧ Hid (∀ j, j < k → Unit1 (canon .f32 (cur j)))) (fun i _ => 16 - (intOf i).toNat)
  case atStart => exact ⟨0, fun _ => 0, by omega, rfl, hb, hZ, hO, hS1, Lib.hid fun j h => absurd h (by omega)⟩
  case round =>
    clear hb hZ hO hS1 hO0
    obtain ⟨k, cur, hk, rfl, hb, hZ, hO, hS, HV⟩ := hrel
    by_cases hlt : k < 16
    · go_wp2_with fail
      refine (l01Plain_any g a n c f (m + 2 + 2 * k) (by omega) _ (hS0.over hb hS)).mono ?_
      rintro e w2 ⟨v, hv, rfl, hU, hS2⟩
      have hlt2 := hO.lt
      have hb := hb.bar hU.bar (by omega)
      have hZ := hU.blk hZ (by omega)
      have hO := hU.blk hO (by omega)
      have c1 := (hO.cell k).trans (get_fA_lt cur hlt)
      have f1 := hO.frozen k
      clear hU
      go_wp2
      go_roundw
      case rel =>
        refine ⟨k + 1, _, by omega, by go_num, hb.setCell (by dsimp only; omega) _, hZ.far (by dsimp only; omega) _, hO.setF k _, ?_, Lib.hid ?_⟩
        · obtain ⟨i, s, h1, h2, h3⟩ := hS2.blk
          exact ⟨i, s, by omega, h2, h3.far (by dsimp only; omega) _⟩
        · exact upd_to (Q := fun j u => Unit1 (canon .f32 u)) HV.out (pw_unit hv)
      case measure => simp [intOf]; omega
    · obtain rfl : k = 16 := by omega
      go_wp2_with (first | (refine wpList_load_row rfl 26 _ rfl _ rfl _ _ (0, 0) _ hO Try.underlying26 rfl (by kernel_rfl) ?_) | (refine wpList_store_row rfl 26 _ _ rfl _ _ rfl rfl _ _ hZ (by kernel_rfl) (by simp only [size_fA]) (all_fA _ _) ?_))
      have hb := hb.row (Nat.le_refl _) (fA 16 cur)
      exact bodyPost_ret (results_cell_row rfl _ _ w.heap.size _ _ _ _ rfl hZ.setRow Try.underlying26 rfl (by kernel_rfl)) rfl ⟨cur, HV.out, rfl, hb, (hS0.over hb (src_row hS (by omega))).more (by omega)⟩
end Go.Proofs.Ytfpjiclkhjdihaa

namespace Go.Proofs.Ytfpjiclkhjdihaa
open Go.RowKit
set_option maxRecDepth 100000

theorem wp_load_rowA {P : Program} {o : Oper} {a : Act} {w : World} {Q : Exit → Act → World → Prop} {K : Act → World → Prop} {ty : TypeId} {x : Operand} (ho : o.op = .load ty x) (g : Nat) (hx : a.eval x = .pointer (some ⟨g, 0, none⟩)) (t : TypeId) (cs : Array Value) (fr : Nat × Nat) (d : TypeDesc) (hg : w.heap[g]? = some (.cells cs t fr))
    (hu : P.underlying ty = some d) (hd : (match d with | .struct _ | .array _ _ => true | _ => false) = true) (hi : (P.info? ty).map (·.size) = some cs.size) (h : K (a.put o.dst (.agg cs)) w) : Oper.wp P o a w K Q := by
  unfold Oper.wp execOp
  simp only [ho, hx, Instr.loadAt, Instr.sureAddr, Sem.run_bind, Sem.run_pure, Result.andThen_ok, run_loadVar_row w g t ty cs fr d hg hu hd hi]
  exact h
theorem wp_build_asA {P : Program} {o : Oper} {a : Act} {w : World} {Q : Exit → Act → World → Prop} {K : Act → World → Prop} (t : TypeId) (parts : Array (Nat × Operand)) (ho : o.op = .build t parts)
    (cells : Array Value) (hc : P.built t (parts.map fun (i, x) => (i, a.eval x)).toList = some cells) (h : K (a.put o.dst (.agg cells)) w) : Oper.wp P o a w K Q :=
  wp_build t parts ho (by rw [hc]; rfl) (by rw [hc]; exact h)
/-- A layer of eighths, drawn. -/
def RetLay (w : World) (g : Nat) (a : Option Addr) (n c : Nat) (f : Nat → Nat) (m : Nat) (e : Ending) (w' : World) : Prop := ∃ (r : Nat → Nat) (K S : Nat → Rat) (k : Nat), k < 33 ∧ Lay (fun i => canon .f32 (r i)) K S k ∧ canon .f32 (r 32) = eighth k ∧ e = .returned (.agg (fA 33 r)) ∧ Bar w.heap.size g w w' ∧ Src w' g a n c f m
theorem drl_end {w w' : World} {g : Nat} {a : Option Addr} {n c : Nat} {f : Nat → Nat} {m : Nat} (hS0 : Src w g a n c f m) (hb : Bar w.heap.size g w w') (hB : ∃ i s : Nat, i ≤ m + 40 + 40 + 2 + 2 ∧ s < 18446744073709551616 ∧ Blk w' g 83 #[.slice a n c, .int .i64 i, .int .u64 s]) (hg : g < w.heap.size)
    {k s t : Nat → Nat} {u x q : Nat} (hk : ∀ i, i < 16 → Unit1 (canon .f32 (k i))) (hs : ∀ i, i < 16 → Unit1 (canon .f32 (s i))) (ht : ∀ i, i < 16 → canon .f32 (t i) = fmul (canon .f32 (s i)) (canon .f32 (floatOfInt .f32 (1 + (u : Int))))) (hu : u < 8) (hx : x < 33) (hq : canon .f32 q = eighth x) :
    RetLay w g a n c f (m + 90) (.returned (.agg (fA 33 (layer3 k t q)))) (w'.setRow w.heap.size (fA 33 (layer3 k t q))) := by
  have hb := hb.row (Nat.le_refl _) (fA 33 (layer3 k t q))
  have h1 : ∀ i, i < 16 → ∃ v, Is .f32 (canon .f32 (t i)) v ∧ 0 ≤ v ∧ v ≤ 8 := fun i hi => by rw [ht i hi]; exact scale_eight (hs i hi) u hu
  obtain ⟨K, S, hL⟩ := lay_drawn (a := fun i => canon .f32 (layer3 k t q i)) hk h1 hx hq (fun i hi => by simp [layer3, hi]) (fun i hi => by simp [layer3]; rw [if_neg (by omega), if_pos (by omega)]) (by simp [layer3])
  refine ⟨layer3 k t q, K, S, x, hx, hL, by simpa [layer3] using hq, rfl, hb, ?_⟩
  obtain ⟨i, s', h2, h3, h4⟩ := hB
  exact hS0.over hb (src_row ⟨i, s', by omega, h3, h4⟩ (by omega))
set_option maxHeartbeats 4000000 in
theorem l02Drawn_any (g : Nat) (a : Option Addr) (n c : Nat) (f : Nat → Nat) (m : Nat) (hm : m ≤ 600000) (w : World) (hS0 : Src w g a n c f m) : Calls Try.prog 39 #[.pointer (some ⟨g, 0, none⟩)] w (RetLay w g a n c f (m + 90)) := by
  have hg : g < w.heap.size := by obtain ⟨_, _, _, _, h⟩ := hS0.blk; exact h.lt
  have hb : Below w.heap.size w (w.alloc (.cells (fA 33 fun _ => 0) 41)) := (by repeat (first | assumption | exact Below.refl _ _ | refine bDrew ?_ _ | refine Below.alloc ?_ (by first | omega | (simp; done) | (simp; omega)) _ | refine Below.setCell ?_ (by first | omega | (simp; done) | (simp; omega)) _ | refine bRow ?_ (by first | omega | (simp; done) | (simp; omega)) _))
  have hZ : Blk (w.alloc (.cells (fA 33 fun _ => 0) 41)) w.heap.size 41 (fA 33 fun _ => 0) := Blk.new _ _ _
  have hS := hS0.of hb
  have hb : Bar w.heap.size g w (w.alloc (.cells (fA 33 fun _ => 0) 41)) := Bar.of hb
  have hsz : (w.alloc (.cells (fA 33 fun _ => 0) 41)).heap.size = w.heap.size + 1 := by simp
  go_enter Try.func39, Try.ntmps39
  go_wp2_with fail
  refine (l01Smooth_any g a n c f m (by omega) _ hS).mono ?_
  rintro e w1 ⟨k, hk, rfl, hB, hS⟩
  have hb := hb.bar hB (by omega)
  have hZ := hB.blk hZ (by omega)
  have hsz1 := hB.size
  rw [hsz] at hsz1
  clear hB hsz
  go_wp2_with (first | (refine wpList_store_new rfl 26 _ _ rfl _ rfl rfl (by kernel_rfl) rfl (all_fA _ _) ?_))
  have hK : Blk (w1.alloc (.cells (fA 16 k) 26)) w1.heap.size 26 (fA 16 k) := Blk.new _ _ _
  have Hk := Lib.hid hk
  clear hk
  have hS := hS.of ((Below.refl w1.heap.size w1).alloc (Nat.le_refl _) (.cells (fA 16 k) 26))
  have hb := hb.alloc (by omega) (.cells (fA 16 k) 26)
  have hZ := hZ.alloc (.cells (fA 16 k) 26)
  have hsz2 : (w1.alloc (.cells (fA 16 k) 26)).heap.size = w1.heap.size + 1 := by simp
  generalize hG : w1.heap.size = G at *
  generalize w1.alloc (.cells (fA 16 k) 26) = w2 at *
  refine wp_region_any (by kernel_rfl) ?_
  change wpAny _ _ _ _ _ _ _ (World.drew _)
  have hS := hS.of ((Below.refl _ w2).drew)
  have hb := hb.drew
  have hZ : Blk w2.drew w.heap.size 41 (fA 33 fun _ => 0) := hZ
  have hR : Blk w2.drew G 26 (fA 16 k) := hK
  have hz : G + 1 ≤ w2.drew.heap.size := by have : w2.drew.heap.size = w2.heap.size := rfl; omega
  generalize w2.drew = w3 at *
  refine wpAny_take (i := 1) (v := ?_) rfl (by kernel_rfl) (by kernel_rfl) (by kernel_rfl) (fun _ _ _ h => h) (Or.inl ⟨by rfl, ?_⟩) ?_
  rotate_left
  · intro w; go_simp; try with_reducible rfl
  refine wpAny_take (i := 3) (v := ?_) rfl (by kernel_rfl) (by kernel_rfl) (by kernel_rfl) (fun _ _ _ h => h) (Or.inl ⟨by rfl, ?_⟩) ?_
  rotate_left
  · intro w; go_simp; try with_reducible rfl
  refine wpAny_take (i := 8) (v := ?_) rfl (by kernel_rfl) (by kernel_rfl) (by kernel_rfl) (fun _ _ _ h => h) (Or.inl ⟨by rfl, ?_⟩) ?_
  rotate_left
  · intro w; go_simp; try with_reducible rfl
  refine wpAny_ready (rs := [0, 2]) (by kernel_rfl) (by simp) ?_
  refine AllReady.cons rfl (fun K hK => ?_) ?_
  · rw [if_pos (by kernel_rfl)]
    refine wp_load_rowA rfl _ rfl _ _ _ _ hR Try.underlying26 rfl (by kernel_rfl) (hK _ _ ?_)
    clear hK K
    refine wpAny_ready (rs := [2]) (by kernel_rfl) (by simp) ?_
    refine AllReady.cons rfl (fun K hK => ?_) ?_
    · rw [if_pos (by kernel_rfl)]
      go_simp
      refine (l01Smooth_any g a n c f (m + 40) (by omega) _ hS).mono ?_
      rintro e wx ⟨s, hs, rfl, hB, hS⟩
      have hb := hb.bar hB (by omega)
      have hZ := hB.blk hZ (by omega)
      have hR := hB.blk hR (by omega)
      have hz := Nat.le_trans hz hB.size
      clear hB
      have Hs := Lib.hid hs
      clear hs
      refine hK _ _ ?_
      clear hK K
      refine wpAny_ready (rs := [4]) (by kernel_rfl) (by simp) ?_
      refine AllReady.cons rfl (fun K hK => ?_) ?_
      · rw [if_pos (by kernel_rfl)]
        go_simp
        refine (pick_any g a n c f (m + 40 + 40) (by omega) 8 (by omega) (by omega) _ hS).mono ?_
        rintro e wx ⟨u, hu, rfl, hU, hS⟩
        have hB := hU.bar
        clear hU
        have hb := hb.bar hB (by omega)
        have hZ := hB.blk hZ (by omega)
        have hR := hB.blk hR (by omega)
        have hz := Nat.le_trans hz hB.size
        clear hB
        have eu : IntKind.i64.wrap (1 + (u : Int)) = 1 + (u : Int) := IntWalk.i64_in _ (by omega)
        refine hK _ _ ?_
        clear hK K
        refine wpAny_take (i := 5) (v := ?_) rfl (by kernel_rfl) (by kernel_rfl) (by kernel_rfl) (fun _ _ _ h => h) (Or.inl ⟨by rfl, ?_⟩) ?_
        rotate_left
        · intro w; go_simp; try with_reducible rfl
        refine wpAny_take (i := 6) (v := ?_) rfl (by kernel_rfl) (by kernel_rfl) (by kernel_rfl) (fun _ _ _ h => h) (Or.inl ⟨by rfl, ?_⟩) ?_
        rotate_left
        · intro w; go_simp; try with_reducible rfl
        refine wpAny_ready (rs := [7]) (by kernel_rfl) (by simp) ?_
        refine AllReady.cons rfl (fun K hK => ?_) ?_
        · rw [if_pos (by kernel_rfl)]
          go_simp
          refine (sScaleCurve_any s (floatOfInt .f32 (1 + (u : Int))) _).mono ?_
          rintro e wx ⟨t, rfl, ht, hB⟩
          have hS := hS.of hB
          have hB : Bar _ g _ _ := Bar.of hB
          have hb := hb.bar hB (by omega)
          have hZ := hB.blk hZ (by omega)
          have hR := hB.blk hR (by omega)
          have hz := Nat.le_trans hz hB.size
          clear hB
          have Ht := Lib.hid ht
          clear ht
          refine hK _ _ ?_
          clear hK K
          refine wpAny_ready (rs := [9]) (by kernel_rfl) (by simp) ?_
          refine AllReady.cons rfl (fun K hK => ?_) ?_
          · rw [if_pos (by kernel_rfl)]
            go_simp
            refine (pick_any g a n c f (m + 40 + 40 + 2) (by omega) 33 (by omega) (by omega) _ hS).mono ?_
            rintro e wx ⟨x, hx, rfl, hU, hS⟩
            have hB := hU.bar
            clear hU
            have hb := hb.bar hB (by omega)
            have hZ := hB.blk hZ (by omega)
            have hR := hB.blk hR (by omega)
            have hz := Nat.le_trans hz hB.size
            clear hB
            refine hK _ _ ?_
            clear hK K
            refine wpAny_take (i := 10) (v := ?_) rfl (by kernel_rfl) (by kernel_rfl) (by kernel_rfl) (fun _ _ _ h => h) (Or.inl ⟨by rfl, ?_⟩) ?_
            rotate_left
            · intro w; go_simp; try with_reducible rfl
            refine wpAny_ready (rs := [11]) (by kernel_rfl) (by simp) ?_
            refine AllReady.cons rfl (fun K hK => ?_) ?_
            · rw [if_pos (by kernel_rfl)]
              have Hq : Hid (canon .f32 (fval .quo .f32 (floatOfInt .f32 (x : Int)) 1090519040 wx) = eighth x) := Lib.hid (c_div ..)
              go_simp
              generalize fval .quo .f32 (floatOfInt .f32 (x : Int)) 1090519040 wx = q at *
              have hS := hS.of (bDrew (Below.refl _ wx) (fcnt .quo .f32 (floatOfInt .f32 (x : Int)) 1090519040))
              have hb := hb.draw (fcnt .quo .f32 (floatOfInt .f32 (x : Int)) 1090519040)
              have hZ := hZ.drewN (fcnt .quo .f32 (floatOfInt .f32 (x : Int)) 1090519040)
              have hR := hR.drewN (fcnt .quo .f32 (floatOfInt .f32 (x : Int)) 1090519040)
              refine hK _ _ ?_
              clear hK K
              have hB0 := hS.blk
              refine wpAny_ready (rs := [12]) (by kernel_rfl) (by simp) ?_
              refine AllReady.cons rfl (fun K hK => ?_) ?_
              · rw [if_pos (by kernel_rfl)]
                refine wp_build_asA 41 _ rfl (fA 33 (layer3 k t q)) (by kernel_rfl) (hK _ _ ?_)
                clear hK K
                refine wpAny_ready (rs := [13]) (by kernel_rfl) (by simp) ?_
                refine AllReady.cons rfl (fun K hK => ?_) ?_
                · rw [if_pos (by kernel_rfl)]
                  refine wp_store_row 41 _ _ rfl _ _ rfl rfl _ _ hZ (by kernel_rfl) (by simp only [size_fA]) (all_fA _ _) (hK _ _ ?_)
                  clear hK K
                  refine wpAny_done (by kernel_rfl) ?_ _
                  go_wp2
                  exact bodyPost_ret (results_cell_row rfl _ _ w.heap.size _ _ _ _ rfl hZ.setRow Try.underlying41 rfl (by kernel_rfl)) rfl (drl_end hS0 hb hB0 hg Hk.out Hs.out Ht.out hu hx Hq.out)
                exact AllReady.nil
              exact AllReady.nil
            exact AllReady.nil
          exact AllReady.nil
        exact AllReady.nil
      exact AllReady.nil
    exact AllReady.nil
  refine AllReady.cons rfl (fun K hK => ?_) ?_
  · rw [if_pos (by kernel_rfl)]
    go_simp
    refine (l01Smooth_any g a n c f (m + 40) (by omega) _ hS).mono ?_
    rintro e wx ⟨s, hs, rfl, hB, hS⟩
    have hb := hb.bar hB (by omega)
    have hZ := hB.blk hZ (by omega)
    have hR := hB.blk hR (by omega)
    have hz := Nat.le_trans hz hB.size
    clear hB
    have Hs := Lib.hid hs
    clear hs
    refine hK _ _ ?_
    clear hK K
    refine wpAny_ready (rs := [0, 4]) (by kernel_rfl) (by simp) ?_
    refine AllReady.cons rfl (fun K hK => ?_) ?_
    · rw [if_pos (by kernel_rfl)]
      refine wp_load_rowA rfl _ rfl _ _ _ _ hR Try.underlying26 rfl (by kernel_rfl) (hK _ _ ?_)
      clear hK K
      refine wpAny_ready (rs := [4]) (by kernel_rfl) (by simp) ?_
      refine AllReady.cons rfl (fun K hK => ?_) ?_
      · rw [if_pos (by kernel_rfl)]
        go_simp
        refine (pick_any g a n c f (m + 40 + 40) (by omega) 8 (by omega) (by omega) _ hS).mono ?_
        rintro e wx ⟨u, hu, rfl, hU, hS⟩
        have hB := hU.bar
        clear hU
        have hb := hb.bar hB (by omega)
        have hZ := hB.blk hZ (by omega)
        have hR := hB.blk hR (by omega)
        have hz := Nat.le_trans hz hB.size
        clear hB
        have eu : IntKind.i64.wrap (1 + (u : Int)) = 1 + (u : Int) := IntWalk.i64_in _ (by omega)
        refine hK _ _ ?_
        clear hK K
        refine wpAny_take (i := 5) (v := ?_) rfl (by kernel_rfl) (by kernel_rfl) (by kernel_rfl) (fun _ _ _ h => h) (Or.inl ⟨by rfl, ?_⟩) ?_
        rotate_left
        · intro w; go_simp; try with_reducible rfl
        refine wpAny_take (i := 6) (v := ?_) rfl (by kernel_rfl) (by kernel_rfl) (by kernel_rfl) (fun _ _ _ h => h) (Or.inl ⟨by rfl, ?_⟩) ?_
        rotate_left
        · intro w; go_simp; try with_reducible rfl
        refine wpAny_ready (rs := [7]) (by kernel_rfl) (by simp) ?_
        refine AllReady.cons rfl (fun K hK => ?_) ?_
        · rw [if_pos (by kernel_rfl)]
          go_simp
          refine (sScaleCurve_any s (floatOfInt .f32 (1 + (u : Int))) _).mono ?_
          rintro e wx ⟨t, rfl, ht, hB⟩
          have hS := hS.of hB
          have hB : Bar _ g _ _ := Bar.of hB
          have hb := hb.bar hB (by omega)
          have hZ := hB.blk hZ (by omega)
          have hR := hB.blk hR (by omega)
          have hz := Nat.le_trans hz hB.size
          clear hB
          have Ht := Lib.hid ht
          clear ht
          refine hK _ _ ?_
          clear hK K
          refine wpAny_ready (rs := [9]) (by kernel_rfl) (by simp) ?_
          refine AllReady.cons rfl (fun K hK => ?_) ?_
          · rw [if_pos (by kernel_rfl)]
            go_simp
            refine (pick_any g a n c f (m + 40 + 40 + 2) (by omega) 33 (by omega) (by omega) _ hS).mono ?_
            rintro e wx ⟨x, hx, rfl, hU, hS⟩
            have hB := hU.bar
            clear hU
            have hb := hb.bar hB (by omega)
            have hZ := hB.blk hZ (by omega)
            have hR := hB.blk hR (by omega)
            have hz := Nat.le_trans hz hB.size
            clear hB
            refine hK _ _ ?_
            clear hK K
            refine wpAny_take (i := 10) (v := ?_) rfl (by kernel_rfl) (by kernel_rfl) (by kernel_rfl) (fun _ _ _ h => h) (Or.inl ⟨by rfl, ?_⟩) ?_
            rotate_left
            · intro w; go_simp; try with_reducible rfl
            refine wpAny_ready (rs := [11]) (by kernel_rfl) (by simp) ?_
            refine AllReady.cons rfl (fun K hK => ?_) ?_
            · rw [if_pos (by kernel_rfl)]
              have Hq : Hid (canon .f32 (fval .quo .f32 (floatOfInt .f32 (x : Int)) 1090519040 wx) = eighth x) := Lib.hid (c_div ..)
              go_simp
              generalize fval .quo .f32 (floatOfInt .f32 (x : Int)) 1090519040 wx = q at *
              have hS := hS.of (bDrew (Below.refl _ wx) (fcnt .quo .f32 (floatOfInt .f32 (x : Int)) 1090519040))
              have hb := hb.draw (fcnt .quo .f32 (floatOfInt .f32 (x : Int)) 1090519040)
              have hZ := hZ.drewN (fcnt .quo .f32 (floatOfInt .f32 (x : Int)) 1090519040)
              have hR := hR.drewN (fcnt .quo .f32 (floatOfInt .f32 (x : Int)) 1090519040)
              refine hK _ _ ?_
              clear hK K
              have hB0 := hS.blk
              refine wpAny_ready (rs := [12]) (by kernel_rfl) (by simp) ?_
              refine AllReady.cons rfl (fun K hK => ?_) ?_
              · rw [if_pos (by kernel_rfl)]
                refine wp_build_asA 41 _ rfl (fA 33 (layer3 k t q)) (by kernel_rfl) (hK _ _ ?_)
                clear hK K
                refine wpAny_ready (rs := [13]) (by kernel_rfl) (by simp) ?_
                refine AllReady.cons rfl (fun K hK => ?_) ?_
                · rw [if_pos (by kernel_rfl)]
                  refine wp_store_row 41 _ _ rfl _ _ rfl rfl _ _ hZ (by kernel_rfl) (by simp only [size_fA]) (all_fA _ _) (hK _ _ ?_)
                  clear hK K
                  refine wpAny_done (by kernel_rfl) ?_ _
                  go_wp2
                  exact bodyPost_ret (results_cell_row rfl _ _ w.heap.size _ _ _ _ rfl hZ.setRow Try.underlying41 rfl (by kernel_rfl)) rfl (drl_end hS0 hb hB0 hg Hk.out Hs.out Ht.out hu hx Hq.out)
                exact AllReady.nil
              exact AllReady.nil
            exact AllReady.nil
          exact AllReady.nil
        exact AllReady.nil
      exact AllReady.nil
    refine AllReady.cons rfl (fun K hK => ?_) ?_
    · rw [if_pos (by kernel_rfl)]
      go_simp
      refine (pick_any g a n c f (m + 40 + 40) (by omega) 8 (by omega) (by omega) _ hS).mono ?_
      rintro e wx ⟨u, hu, rfl, hU, hS⟩
      have hB := hU.bar
      clear hU
      have hb := hb.bar hB (by omega)
      have hZ := hB.blk hZ (by omega)
      have hR := hB.blk hR (by omega)
      have hz := Nat.le_trans hz hB.size
      clear hB
      have eu : IntKind.i64.wrap (1 + (u : Int)) = 1 + (u : Int) := IntWalk.i64_in _ (by omega)
      refine hK _ _ ?_
      clear hK K
      refine wpAny_take (i := 5) (v := ?_) rfl (by kernel_rfl) (by kernel_rfl) (by kernel_rfl) (fun _ _ _ h => h) (Or.inl ⟨by rfl, ?_⟩) ?_
      rotate_left
      · intro w; go_simp; try with_reducible rfl
      refine wpAny_take (i := 6) (v := ?_) rfl (by kernel_rfl) (by kernel_rfl) (by kernel_rfl) (fun _ _ _ h => h) (Or.inl ⟨by rfl, ?_⟩) ?_
      rotate_left
      · intro w; go_simp; try with_reducible rfl
      refine wpAny_ready (rs := [0, 7]) (by kernel_rfl) (by simp) ?_
      refine AllReady.cons rfl (fun K hK => ?_) ?_
      · rw [if_pos (by kernel_rfl)]
        refine wp_load_rowA rfl _ rfl _ _ _ _ hR Try.underlying26 rfl (by kernel_rfl) (hK _ _ ?_)
        clear hK K
        refine wpAny_ready (rs := [7]) (by kernel_rfl) (by simp) ?_
        refine AllReady.cons rfl (fun K hK => ?_) ?_
        · rw [if_pos (by kernel_rfl)]
          go_simp
          refine (sScaleCurve_any s (floatOfInt .f32 (1 + (u : Int))) _).mono ?_
          rintro e wx ⟨t, rfl, ht, hB⟩
          have hS := hS.of hB
          have hB : Bar _ g _ _ := Bar.of hB
          have hb := hb.bar hB (by omega)
          have hZ := hB.blk hZ (by omega)
          have hR := hB.blk hR (by omega)
          have hz := Nat.le_trans hz hB.size
          clear hB
          have Ht := Lib.hid ht
          clear ht
          refine hK _ _ ?_
          clear hK K
          refine wpAny_ready (rs := [9]) (by kernel_rfl) (by simp) ?_
          refine AllReady.cons rfl (fun K hK => ?_) ?_
          · rw [if_pos (by kernel_rfl)]
            go_simp
            refine (pick_any g a n c f (m + 40 + 40 + 2) (by omega) 33 (by omega) (by omega) _ hS).mono ?_
            rintro e wx ⟨x, hx, rfl, hU, hS⟩
            have hB := hU.bar
            clear hU
            have hb := hb.bar hB (by omega)
            have hZ := hB.blk hZ (by omega)
            have hR := hB.blk hR (by omega)
            have hz := Nat.le_trans hz hB.size
            clear hB
            refine hK _ _ ?_
            clear hK K
            refine wpAny_take (i := 10) (v := ?_) rfl (by kernel_rfl) (by kernel_rfl) (by kernel_rfl) (fun _ _ _ h => h) (Or.inl ⟨by rfl, ?_⟩) ?_
            rotate_left
            · intro w; go_simp; try with_reducible rfl
            refine wpAny_ready (rs := [11]) (by kernel_rfl) (by simp) ?_
            refine AllReady.cons rfl (fun K hK => ?_) ?_
            · rw [if_pos (by kernel_rfl)]
              have Hq : Hid (canon .f32 (fval .quo .f32 (floatOfInt .f32 (x : Int)) 1090519040 wx) = eighth x) := Lib.hid (c_div ..)
              go_simp
              generalize fval .quo .f32 (floatOfInt .f32 (x : Int)) 1090519040 wx = q at *
              have hS := hS.of (bDrew (Below.refl _ wx) (fcnt .quo .f32 (floatOfInt .f32 (x : Int)) 1090519040))
              have hb := hb.draw (fcnt .quo .f32 (floatOfInt .f32 (x : Int)) 1090519040)
              have hZ := hZ.drewN (fcnt .quo .f32 (floatOfInt .f32 (x : Int)) 1090519040)
              have hR := hR.drewN (fcnt .quo .f32 (floatOfInt .f32 (x : Int)) 1090519040)
              refine hK _ _ ?_
              clear hK K
              have hB0 := hS.blk
              refine wpAny_ready (rs := [12]) (by kernel_rfl) (by simp) ?_
              refine AllReady.cons rfl (fun K hK => ?_) ?_
              · rw [if_pos (by kernel_rfl)]
                refine wp_build_asA 41 _ rfl (fA 33 (layer3 k t q)) (by kernel_rfl) (hK _ _ ?_)
                clear hK K
                refine wpAny_ready (rs := [13]) (by kernel_rfl) (by simp) ?_
                refine AllReady.cons rfl (fun K hK => ?_) ?_
                · rw [if_pos (by kernel_rfl)]
                  refine wp_store_row 41 _ _ rfl _ _ rfl rfl _ _ hZ (by kernel_rfl) (by simp only [size_fA]) (all_fA _ _) (hK _ _ ?_)
                  clear hK K
                  refine wpAny_done (by kernel_rfl) ?_ _
                  go_wp2
                  exact bodyPost_ret (results_cell_row rfl _ _ w.heap.size _ _ _ _ rfl hZ.setRow Try.underlying41 rfl (by kernel_rfl)) rfl (drl_end hS0 hb hB0 hg Hk.out Hs.out Ht.out hu hx Hq.out)
                exact AllReady.nil
              exact AllReady.nil
            exact AllReady.nil
          exact AllReady.nil
        exact AllReady.nil
      refine AllReady.cons rfl (fun K hK => ?_) ?_
      · rw [if_pos (by kernel_rfl)]
        go_simp
        refine (sScaleCurve_any s (floatOfInt .f32 (1 + (u : Int))) _).mono ?_
        rintro e wx ⟨t, rfl, ht, hB⟩
        have hS := hS.of hB
        have hB : Bar _ g _ _ := Bar.of hB
        have hb := hb.bar hB (by omega)
        have hZ := hB.blk hZ (by omega)
        have hR := hB.blk hR (by omega)
        have hz := Nat.le_trans hz hB.size
        clear hB
        have Ht := Lib.hid ht
        clear ht
        refine hK _ _ ?_
        clear hK K
        refine wpAny_ready (rs := [0, 9]) (by kernel_rfl) (by simp) ?_
        refine AllReady.cons rfl (fun K hK => ?_) ?_
        · rw [if_pos (by kernel_rfl)]
          refine wp_load_rowA rfl _ rfl _ _ _ _ hR Try.underlying26 rfl (by kernel_rfl) (hK _ _ ?_)
          clear hK K
          refine wpAny_ready (rs := [9]) (by kernel_rfl) (by simp) ?_
          refine AllReady.cons rfl (fun K hK => ?_) ?_
          · rw [if_pos (by kernel_rfl)]
            go_simp
            refine (pick_any g a n c f (m + 40 + 40 + 2) (by omega) 33 (by omega) (by omega) _ hS).mono ?_
            rintro e wx ⟨x, hx, rfl, hU, hS⟩
            have hB := hU.bar
            clear hU
            have hb := hb.bar hB (by omega)
            have hZ := hB.blk hZ (by omega)
            have hR := hB.blk hR (by omega)
            have hz := Nat.le_trans hz hB.size
            clear hB
            refine hK _ _ ?_
            clear hK K
            refine wpAny_take (i := 10) (v := ?_) rfl (by kernel_rfl) (by kernel_rfl) (by kernel_rfl) (fun _ _ _ h => h) (Or.inl ⟨by rfl, ?_⟩) ?_
            rotate_left
            · intro w; go_simp; try with_reducible rfl
            refine wpAny_ready (rs := [11]) (by kernel_rfl) (by simp) ?_
            refine AllReady.cons rfl (fun K hK => ?_) ?_
            · rw [if_pos (by kernel_rfl)]
              have Hq : Hid (canon .f32 (fval .quo .f32 (floatOfInt .f32 (x : Int)) 1090519040 wx) = eighth x) := Lib.hid (c_div ..)
              go_simp
              generalize fval .quo .f32 (floatOfInt .f32 (x : Int)) 1090519040 wx = q at *
              have hS := hS.of (bDrew (Below.refl _ wx) (fcnt .quo .f32 (floatOfInt .f32 (x : Int)) 1090519040))
              have hb := hb.draw (fcnt .quo .f32 (floatOfInt .f32 (x : Int)) 1090519040)
              have hZ := hZ.drewN (fcnt .quo .f32 (floatOfInt .f32 (x : Int)) 1090519040)
              have hR := hR.drewN (fcnt .quo .f32 (floatOfInt .f32 (x : Int)) 1090519040)
              refine hK _ _ ?_
              clear hK K
              have hB0 := hS.blk
              refine wpAny_ready (rs := [12]) (by kernel_rfl) (by simp) ?_
              refine AllReady.cons rfl (fun K hK => ?_) ?_
              · rw [if_pos (by kernel_rfl)]
                refine wp_build_asA 41 _ rfl (fA 33 (layer3 k t q)) (by kernel_rfl) (hK _ _ ?_)
                clear hK K
                refine wpAny_ready (rs := [13]) (by kernel_rfl) (by simp) ?_
                refine AllReady.cons rfl (fun K hK => ?_) ?_
                · rw [if_pos (by kernel_rfl)]
                  refine wp_store_row 41 _ _ rfl _ _ rfl rfl _ _ hZ (by kernel_rfl) (by simp only [size_fA]) (all_fA _ _) (hK _ _ ?_)
                  clear hK K
                  refine wpAny_done (by kernel_rfl) ?_ _
                  go_wp2
                  exact bodyPost_ret (results_cell_row rfl _ _ w.heap.size _ _ _ _ rfl hZ.setRow Try.underlying41 rfl (by kernel_rfl)) rfl (drl_end hS0 hb hB0 hg Hk.out Hs.out Ht.out hu hx Hq.out)
                exact AllReady.nil
              exact AllReady.nil
            exact AllReady.nil
          exact AllReady.nil
        refine AllReady.cons rfl (fun K hK => ?_) ?_
        · rw [if_pos (by kernel_rfl)]
          go_simp
          refine (pick_any g a n c f (m + 40 + 40 + 2) (by omega) 33 (by omega) (by omega) _ hS).mono ?_
          rintro e wx ⟨x, hx, rfl, hU, hS⟩
          have hB := hU.bar
          clear hU
          have hb := hb.bar hB (by omega)
          have hZ := hB.blk hZ (by omega)
          have hR := hB.blk hR (by omega)
          have hz := Nat.le_trans hz hB.size
          clear hB
          refine hK _ _ ?_
          clear hK K
          refine wpAny_take (i := 10) (v := ?_) rfl (by kernel_rfl) (by kernel_rfl) (by kernel_rfl) (fun _ _ _ h => h) (Or.inl ⟨by rfl, ?_⟩) ?_
          rotate_left
          · intro w; go_simp; try with_reducible rfl
          refine wpAny_ready (rs := [0, 11]) (by kernel_rfl) (by simp) ?_
          refine AllReady.cons rfl (fun K hK => ?_) ?_
          · rw [if_pos (by kernel_rfl)]
            refine wp_load_rowA rfl _ rfl _ _ _ _ hR Try.underlying26 rfl (by kernel_rfl) (hK _ _ ?_)
            clear hK K
            refine wpAny_ready (rs := [11]) (by kernel_rfl) (by simp) ?_
            refine AllReady.cons rfl (fun K hK => ?_) ?_
            · rw [if_pos (by kernel_rfl)]
              have Hq : Hid (canon .f32 (fval .quo .f32 (floatOfInt .f32 (x : Int)) 1090519040 wx) = eighth x) := Lib.hid (c_div ..)
              go_simp
              generalize fval .quo .f32 (floatOfInt .f32 (x : Int)) 1090519040 wx = q at *
              have hS := hS.of (bDrew (Below.refl _ wx) (fcnt .quo .f32 (floatOfInt .f32 (x : Int)) 1090519040))
              have hb := hb.draw (fcnt .quo .f32 (floatOfInt .f32 (x : Int)) 1090519040)
              have hZ := hZ.drewN (fcnt .quo .f32 (floatOfInt .f32 (x : Int)) 1090519040)
              have hR := hR.drewN (fcnt .quo .f32 (floatOfInt .f32 (x : Int)) 1090519040)
              refine hK _ _ ?_
              clear hK K
              have hB0 := hS.blk
              refine wpAny_ready (rs := [12]) (by kernel_rfl) (by simp) ?_
              refine AllReady.cons rfl (fun K hK => ?_) ?_
              · rw [if_pos (by kernel_rfl)]
                refine wp_build_asA 41 _ rfl (fA 33 (layer3 k t q)) (by kernel_rfl) (hK _ _ ?_)
                clear hK K
                refine wpAny_ready (rs := [13]) (by kernel_rfl) (by simp) ?_
                refine AllReady.cons rfl (fun K hK => ?_) ?_
                · rw [if_pos (by kernel_rfl)]
                  refine wp_store_row 41 _ _ rfl _ _ rfl rfl _ _ hZ (by kernel_rfl) (by simp only [size_fA]) (all_fA _ _) (hK _ _ ?_)
                  clear hK K
                  refine wpAny_done (by kernel_rfl) ?_ _
                  go_wp2
                  exact bodyPost_ret (results_cell_row rfl _ _ w.heap.size _ _ _ _ rfl hZ.setRow Try.underlying41 rfl (by kernel_rfl)) rfl (drl_end hS0 hb hB0 hg Hk.out Hs.out Ht.out hu hx Hq.out)
                exact AllReady.nil
              exact AllReady.nil
            exact AllReady.nil
          refine AllReady.cons rfl (fun K hK => ?_) ?_
          · rw [if_pos (by kernel_rfl)]
            have Hq : Hid (canon .f32 (fval .quo .f32 (floatOfInt .f32 (x : Int)) 1090519040 wx) = eighth x) := Lib.hid (c_div ..)
            go_simp
            generalize fval .quo .f32 (floatOfInt .f32 (x : Int)) 1090519040 wx = q at *
            have hS := hS.of (bDrew (Below.refl _ wx) (fcnt .quo .f32 (floatOfInt .f32 (x : Int)) 1090519040))
            have hb := hb.draw (fcnt .quo .f32 (floatOfInt .f32 (x : Int)) 1090519040)
            have hZ := hZ.drewN (fcnt .quo .f32 (floatOfInt .f32 (x : Int)) 1090519040)
            have hR := hR.drewN (fcnt .quo .f32 (floatOfInt .f32 (x : Int)) 1090519040)
            refine hK _ _ ?_
            clear hK K
            refine wpAny_ready (rs := [0]) (by kernel_rfl) (by simp) ?_
            refine AllReady.cons rfl (fun K hK => ?_) ?_
            · rw [if_pos (by kernel_rfl)]
              refine wp_load_rowA rfl _ rfl _ _ _ _ hR Try.underlying26 rfl (by kernel_rfl) (hK _ _ ?_)
              clear hK K
              have hB0 := hS.blk
              refine wpAny_ready (rs := [12]) (by kernel_rfl) (by simp) ?_
              refine AllReady.cons rfl (fun K hK => ?_) ?_
              · rw [if_pos (by kernel_rfl)]
                refine wp_build_asA 41 _ rfl (fA 33 (layer3 k t q)) (by kernel_rfl) (hK _ _ ?_)
                clear hK K
                refine wpAny_ready (rs := [13]) (by kernel_rfl) (by simp) ?_
                refine AllReady.cons rfl (fun K hK => ?_) ?_
                · rw [if_pos (by kernel_rfl)]
                  refine wp_store_row 41 _ _ rfl _ _ rfl rfl _ _ hZ (by kernel_rfl) (by simp only [size_fA]) (all_fA _ _) (hK _ _ ?_)
                  clear hK K
                  refine wpAny_done (by kernel_rfl) ?_ _
                  go_wp2
                  exact bodyPost_ret (results_cell_row rfl _ _ w.heap.size _ _ _ _ rfl hZ.setRow Try.underlying41 rfl (by kernel_rfl)) rfl (drl_end hS0 hb hB0 hg Hk.out Hs.out Ht.out hu hx Hq.out)
                exact AllReady.nil
              exact AllReady.nil
            exact AllReady.nil
          exact AllReady.nil
        exact AllReady.nil
      exact AllReady.nil
    exact AllReady.nil
  exact AllReady.nil
end Go.Proofs.Ytfpjiclkhjdihaa

namespace Go.Proofs.Ytfpjiclkhjdihaa
open Go.RowKit
set_option maxRecDepth 100000

/-- A layer of eighths, drawn from a text. -/
def RetLayer (w : World) (e : Ending) (w' : World) : Prop := ∃ (r : Nat → Nat) (K S : Nat → Rat) (k : Nat), k < 33 ∧ Lay (fun i => canon .f32 (r i)) K S k ∧ canon .f32 (r 32) = eighth k ∧ e = .returned (.agg (fA 33 r)) ∧ Below w.heap.size w w'
theorem A2Layer_any (a : Option Addr) (n c : Nat) (f : Nat → Nat) (w : World) (hB : Byt w a n f) : Calls Try.prog 17 #[.slice a n c] w (RetLayer w) := by
  have hZ : Blk (w.alloc (.cells (fA 33 fun _ => 0) 41)) w.heap.size 41 (fA 33 fun _ => 0) := Blk.new _ _ _
  have hb0 : Below w.heap.size w (w.alloc (.cells (fA 33 fun _ => 0) 41)) := (by repeat (first | assumption | exact Below.refl _ _ | refine bDrew ?_ _ | refine Below.alloc ?_ (by first | omega | (simp; done) | (simp; omega)) _ | refine Below.setCell ?_ (by first | omega | (simp; done) | (simp; omega)) _ | refine bRow ?_ (by first | omega | (simp; done) | (simp; omega)) _))
  have hg : (w.alloc (.cells (fA 33 fun _ => 0) 41)).heap.size = w.heap.size + 1 := by simp
  go_enter Try.func17, Try.ntmps17
  go_wp2_with fail
  refine (l00From_any a n c f _ (hB.below hb0)).mono ?_
  rintro e w1 ⟨rfl, hs, hS, hb⟩
  have hZ := hZ.below hb hZ.lt
  have hb := bCall hb0 hb (by simp)
  rw [hg] at hS ⊢
  go_wp2_with fail
  refine (l02Drawn_any (w.heap.size + 1) a n c f 0 (by omega) _ hS).mono ?_
  rintro e w2 ⟨r, K, S, k, hk, hL, hx, rfl, hB, _⟩
  have hZ := hB.blk hZ (by omega)
  have hb : Below w.heap.size w w2 := hb.trans ((hB.mono (by rw [hs]; omega) : Bar w.heap.size (w.heap.size + 1) w1 w2).below (by omega))
  go_wp2_with (first | (refine wpList_store_row rfl 41 _ _ rfl _ _ rfl rfl _ _ hZ (by kernel_rfl) (by simp only [size_fA]) (all_fA _ _) ?_))
  exact bodyPost_ret (results_cell_row rfl _ _ w.heap.size _ _ _ _ rfl hZ.setRow Try.underlying41 rfl (by kernel_rfl)) rfl ⟨r, K, S, k, hk, hL, hx, rfl, bRow hb (Nat.le_refl _) _⟩
end Go.Proofs.Ytfpjiclkhjdihaa
