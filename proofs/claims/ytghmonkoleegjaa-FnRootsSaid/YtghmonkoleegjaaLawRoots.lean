/- Proved: the statement FnRoots of this seat: for every input the law returns true, and each argument reads as it read. There is no condition. -/
import Derived.Test.YtghmonkoleegjaaRows
import Derived.Test.YtghmonkoleegjaaOpen
import Derived.Test.YtghmonkoleegjaaCA
import Derived.Test.YtghmonkoleegjaaLA
import Derived.Test.YtghmonkoleegjaaPB
import Derived.Test.YtghmonkoleegjaaPC
import Derived.Test.YtghmonkoleegjaaDC
import Derived.Test.YtghmonkoleegjaaFnt
import Derived.Test.YtghmonkoleegjaaPlw
import Derived.Test.YtghmonkoleegjaaHeld
import Derived.WalkKit
import Derived.WalkSpells
import Derived.Outline
import Derived.ProofKit
import Derived.OpenShut
import Derived.ShutString
import Derived.ChangeOld
import Derived.Below
import Derived.IntWalk
import Derived.BigQuiet
namespace Go.Proofs.Ytghmonkoleegjaa.fnRoots
open Go.ChangeShapes Go.WideShapes Go.ChangeAt Go.RowKit
open Go.ChangeMaps (open_string shut_string)

set_option maxRecDepth 100000 in
set_option maxHeartbeats 4000000 in
theorem walk (a0 : Option Addr) (n0 c0 : Nat) (f0 : Nat → Nat) (a1 : Option Addr) (n1 c1 : Nat) (f1 : Nat → Nat) (w : World) (y0 : Byt w a0 n0 f0) (y1 : Byt w a1 n1 f1) : Calls Try.prog 5 #[.slice a0 n0 c0, .slice a1 n1 c1] w (RetB w true) := by
  go_enter Try.func5, Try.ntmps5
  by_cases hlong : 3000 < n0 ∨ 3000 < n1
  · go_wp2_with fail
    refine (a2Long_long a0 a1 n0 n1 c0 c1 hlong w).mono ?_
    rintro e w' ⟨rfl, rfl⟩
    go_wp2
    go_ret
    exact ⟨rfl, Below.refl _ _⟩
  · have hn0 : n0 ≤ 3000 := by omega
    have hn1 : n1 ≤ 3000 := by omega
    clear hlong
    go_wp2_with fail
    refine (a2Long_short a0 a1 n0 n1 c0 c1 hn0 hn1 w).mono ?_
    rintro e w1 ⟨rfl, hw⟩
    subst hw
    go_wp2_with fail
    refine (a2At_any a0 n0 c0 f0 w1 y0 0 256 (by omega) (by omega) (by omega)).mono ?_
    rintro e w ⟨u, hu, rfl, hw⟩
    subst hw
    go_wp2_with fail
    refine (a2At_any a0 n0 c0 f0 w y0 1 256 (by omega) (by omega) (by omega)).mono ?_
    rintro e w1 ⟨v, hv, rfl, hw⟩
    subst hw
    obtain ⟨r, s, hc⟩ := cube_ok ((u : Int) * 256 + v - 32768) (by omega) (by omega)
    obtain ⟨A, qa, qac, hA⟩ := op_word (op := .quo) (x := floatOfInt .f32 ((u : Int) * 256 + v - 32768)) (y := 1115684864) (aOf_is ((u : Int) * 256 + v - 32768) (by omega) (by omega)).some
    have hA' : canon .f32 A = aOf ((u : Int) * 256 + v - 32768) := hA
    clear hA
    rw [← hA'] at hc
    clear hA'
    have ⟨c1, c2, c3, c4, c5⟩ := hc
    obtain ⟨s1, s2, s3⟩ := near_some c5
    have s4 := (cop_some s1).1
    have s5 := (cop_some s3).1
    rw [← canon_neg] at c2
    have Hroot := Lib.hid c1
    have Hother := Lib.hid c2
    have Hsame := Lib.hid c3
    have Hneg := Lib.hid c4
    have Hnear := Lib.hid c5
    have Hs3 := Lib.hid s3
    have Hs1 := Lib.hid s1
    clear hc c1 c2 c3 c4 c5 s1 s2 s3
    go_wp2_with fail
    refine (iCubeRoot_any A _).mono ?_
    rintro e w2 h
    obtain ⟨r1, rfl, hr1, hb1⟩ := h.code Hroot.out
    clear h
    have hb := hb1
    clear hb1
    go_wp2_with fail
    refine (sCubeRoot_any A _).mono ?_
    rintro e w3 h
    obtain ⟨r2, rfl, hr2, hb1⟩ := h.code Hroot.out
    clear h
    have hb := bCall hb hb1 hb.size; clear hb1
    go_wp2_with fail
    refine (iCubeRoot_any (Op.negFloat .f32 A) _).mono ?_
    rintro e w4 h
    obtain ⟨r3, rfl, hr3, hb1⟩ := h.code Hother.out
    clear h
    have hb := bCall hb hb1 hb.size; clear hb1
    subst hr1
    obtain ⟨q2, qb, qbc, hq2⟩ := op_word (op := .mul) (x := r1) (y := r1) s4
    obtain ⟨q3, qd, qdc, hq3⟩ := op_word (op := .mul) (x := q2) (y := r1) (by rw [hq2]; exact Hs1.out)
    have HC : Hid (canon .f32 q3 = fmul (fmul (canon .f32 r1) (canon .f32 r1)) (canon .f32 r1)) := Lib.hid (by rw [hq3, hq2]; rfl)
    clear hq2 hq3 s4 qa qac
    go_upto_if 66 with fail
    go_cut [13] from 31 (fun z wc => (∃ S, z = .float .f32 S ∧ Hid (canon .f32 S = sizeOf' (canon .f32 A))) ∧ wc = w4)
    case first =>
      cases ho : (FloatKind.f32.format.order A 0 == some .lt) with
      | true =>
        have Ho : Hid (canon .f32 (Op.negFloat .f32 A) = sizeOf' (canon .f32 A)) := Lib.hid (by unfold sizeOf'; rw [← o_lt, ho, canon_neg]; rfl)
        go_wp2
        go_meet
        case rel => exact ⟨⟨_, rfl, Ho⟩, rfl⟩
      | false =>
        have Ho : Hid (canon .f32 A = sizeOf' (canon .f32 A)) := Lib.hid (by unfold sizeOf'; rw [← o_lt, ho]; rfl)
        go_wp2
        go_meet
        case rel => exact ⟨⟨_, rfl, Ho⟩, rfl⟩
    case rest =>
      obtain ⟨⟨S, rfl, HS⟩, rfl⟩ := hcut
      clear qb qbc qd qdc
      obtain ⟨q4, qe, qec, hq4⟩ := op_word (op := .mul) (x := S) (y := 925353388) (by rw [HS.out]; exact s5)
      obtain ⟨q5, qg, qgc, hq5⟩ := op_word (op := .add) (x := q4) (y := 925353388) (by rw [hq4, HS.out]; exact Hs3.out)
      have h4 : near (canon .f32 q3) (canon .f32 A) (canon .f32 q5) = true := by rw [HC.out, hq5, hq4, HS.out]; exact Hnear.out
      have o1 : FloatKind.f32.format.order r1 r2 = some .eq := order_eq (by rw [hr2]; exact Hsame.out)
      have o2 : FloatKind.f32.format.order r3 (Op.negFloat .f32 r1) = some .eq := order_eq (by rw [hr3, canon_neg]; exact Hneg.out)
      clear hq4 hq5 hr2 hr3 s5 Hother Hs3 Hroot Hsame Hneg Hnear Hs1 HC HS
      go_wp2_with fail
      refine (a2Near_yes _ _ _ h4 _).mono ?_
      rintro e w5 ⟨rfl, n5, rfl⟩
      clear o1 o2 qe qec qg qgc h4
      have hb : Below w1.heap.size w1 ((wc.drewN 0).drewN n5) := (by repeat (first | assumption | exact Below.refl _ _ | refine bDrew ?_ _ | refine Below.alloc ?_ (by first | omega | (simp; done) | (simp; omega)) _ | refine Below.setCell ?_ (by first | omega | (simp; done) | (simp; omega)) _ | refine bRow ?_ (by first | omega | (simp; done) | (simp; omega)) _))
      generalize hW : (wc.drewN 0).drewN n5 = W at *
      clear hW
      have y1 : Byt W a1 n1 f1 := y1.to hb (Nat.le_refl _)
      clear y0
      go_wp2_with fail
      refine (a2At_any a1 n1 c1 f1 _ y1 0 64 (by omega) (by omega) (by omega)).mono ?_
      rintro e w6 ⟨m, hm, rfl, hw⟩
      subst hw
      obtain ⟨B, qa, qac, hB⟩ := op_word (op := .quo) (x := floatOfInt .f32 (1 + (m : Int))) (y := 1098907648) (bOf_is m hm).some
      have HB : Hid (canon .f32 B = bOf m) := Lib.hid hB
      clear hB
      go_wp2_with fail
      refine (a2At_any a1 n1 c1 f1 _ y1 1 17 (by omega) (by omega) (by omega)).mono ?_
      rintro e w7 ⟨i, hi, rfl, hw⟩
      subst hw
      clear qa qac
      obtain ⟨X, qa, qac, hX⟩ := op_word (op := .quo) (x := floatOfInt .f32 (i : Int)) (y := 1090519040) (xOf_is i hi).some
      have HX : Hid (canon .f32 X = xOf i) := Lib.hid hX
      clear hX
      go_wp2_with fail
      refine (a2At_any a1 n1 c1 f1 _ y1 2 17 (by omega) (by omega) (by omega)).mono ?_
      rintro e w8 ⟨j, hj, rfl, hw⟩
      subst hw
      clear qa qac
      obtain ⟨Y, qa, qac, hY⟩ := op_word (op := .quo) (x := floatOfInt .f32 (j : Int)) (y := 1090519040) (xOf_is j hj).some
      have HY : Hid (canon .f32 Y = xOf j) := Lib.hid hY
      clear hY
      obtain ⟨p, q, ww, s2, nx, hP⟩ := pows_ok m i j hm hi hj
      rw [← HB.out, ← HX.out, ← HY.out] at hP
      have HP := Lib.hid hP
      clear hP HB HX HY
      go_wp2_with fail
      refine (iPowerOf_any B X _).mono ?_
      rintro e w9 h
      obtain ⟨P1, rfl, hp1, hb1⟩ := h.code HP.out.hp
      clear h qa qac
      have hb := bCall hb hb1 hb.size; clear hb1
      subst hp1
      go_wp2_with fail
      refine (iPowerOf_any P1 Y _).mono ?_
      rintro e w10 h
      obtain ⟨P2, rfl, hp2, hb1⟩ := h.code HP.out.hq
      clear h
      have hb := bCall hb hb1 hb.size; clear hb1
      subst hp2
      obtain ⟨XY, qa, qac, hXY⟩ := op_word (op := .mul) (x := X) (y := Y) HP.out.xy
      have hXY' : canon .f32 XY = fmul (canon .f32 X) (canon .f32 Y) := hXY
      go_wp2_with fail
      refine (iPowerOf_any B XY _).mono ?_
      rintro e w11 h
      have eq := HP.out.hw
      rw [← hXY'] at eq
      obtain ⟨P3, rfl, hp3, hb1⟩ := h.code eq
      clear eq
      clear h qa qac hXY hXY'
      have hb := bCall hb hb1 hb.size; clear hb1
      subst hp3
      go_wp2_with fail
      refine (sPowerOf_any B X _).mono ?_
      rintro e w12 h
      obtain ⟨P4, rfl, hp4, hb1⟩ := h.code HP.out.hp
      clear h
      have hb := bCall hb hb1 hb.size; clear hb1
      go_wp2_with fail
      refine (iPowerOf_any B 1073741824 _).mono ?_
      rintro e w13 h
      obtain ⟨P5, rfl, hp5, hb1⟩ := h.code HP.out.hs
      clear h
      have hb := bCall hb hb1 hb.size; clear hb1
      subst hp5
      obtain ⟨B1, qa, qac, hB1⟩ := op_word (op := .add) (x := B) (y := 1065353216) HP.out.b1
      have hB1' : canon .f32 B1 = fadd (canon .f32 B) (canon .f32 1065353216) := hB1
      go_wp2_with fail
      refine (iPowerOf_any B1 X _).mono ?_
      rintro e w14 h
      have eq := HP.out.hn
      rw [← hB1'] at eq
      obtain ⟨P6, rfl, hp6, hb1⟩ := h.code eq
      clear eq
      clear h qa qac hB1 hB1'
      have hb := bCall hb hb1 hb.size; clear hb1
      subst hp6
      have o1 : FloatKind.f32.format.order P1 P4 = some .eq := order_eq (by rw [hp4]; exact HP.out.same)
      obtain ⟨_, _, g1⟩ := near_some HP.out.near1
      obtain ⟨_, g2, g3⟩ := near_some HP.out.near2
      obtain ⟨C1, qa, qac, hC1⟩ := op_word (op := .mul) (x := P3) (y := 953267991) g1
      obtain ⟨C2, qb, qbc, hC2⟩ := op_word (op := .mul) (x := B) (y := B) g2
      obtain ⟨C3, qd, qdc, hC3⟩ := op_word (op := .mul) (x := P5) (y := 925353388) g3
      have h1 : near (canon .f32 P2) (canon .f32 P3) (canon .f32 C1) = true := by rw [hC1]; exact HP.out.near1
      have h2 : near (canon .f32 P5) (canon .f32 C2) (canon .f32 C3) = true := by rw [hC2, hC3]; exact HP.out.near2
      clear hC1 hC2 hC3 g1 g2 g3
      go_wp2_with fail
      refine (a2Near_yes _ _ _ h1 _).mono ?_
      rintro e w15 ⟨rfl, n6, rfl⟩
      go_wp2_with fail
      refine (a2Near_yes _ _ _ h2 _).mono ?_
      rintro e w16 ⟨rfl, n7, rfl⟩
      clear h1 h2 qa qac qb qbc qd qdc o1
      go_wp2_with fail
      refine (iPowerOf_any B 0 _).mono ?_
      rintro e w17 h
      obtain ⟨P7, rfl, hp7, hb1⟩ := h.code HP.out.ho
      clear h
      have hb : Below w1.heap.size w1 w17 := bCall (bDrew hb (n6 + n7)) hb1 (by simpa using hb.size)
      have o1 : (FloatKind.f32.format.order P6 P1 == some .gt || FloatKind.f32.format.order P6 P1 == some .eq) = true := by rw [o_ge]; exact HP.out.more
      have o2 : FloatKind.f32.format.order P7 1065353216 = some .eq := order_eq (by rw [hp7]; decide +kernel)
      clear hb1
      go_wp2
      go_ret
      exact ⟨rfl, hb⟩

theorem own : ownKnob Try.prog.godebug = none := by kernel_rfl
theorem laidOut : laidOutB Try.prog = true := by kernel_rfl
set_option maxRecDepth 100000 in
theorem lifted (os : Os) (started : os.Started) (H : Type) (enc : TypeId × Value → H) :
    ReturnsInHanded {} Try.checked os 5 .any (Rows.fnRootsSpec.pre6 enc Try.prog Try.f5 Rows.fnRootsRow.domain false) (Rows.fnRootsSpec.post enc Try.prog Try.f5 false true false false) := by
  refine returnsInHanded_of_change (C := Try.checked) own started (by kernel_rfl) Try.func5
    (ChangeSpec.witness6 (enc := enc) (C := Try.checked) false ⟨#[], #[.slice none 0 0, .slice none 0 0], []⟩ 8 (by kernel_rfl) (by kernel_rfl) (by kernel_rfl) (by kernel_rfl)) ?_
  intro W base args ds gs before hval0 hW hcnd _
  have hval : ∀ (j : Nat) t v, Try.f5.params[j]? = some t → args[j]? = some v → Value.okWide Try.prog W .any base t v := hval0
  have hW' := hW
  obtain ⟨p, q, hA0, hV, rfl, hfz, hnd⟩ := hW
  have hA : DataW.TrodAll enc Try.prog W 0 (fun _ => true) true Try.f5.params.toList args.toList ds p := hA0
  rw [Try.params5] at hA hval
  obtain ⟨v0, vs0, d0, ds0, p0, q0, hargs, rfl, rfl, h0, r0⟩ := trodAll_cons hA
  obtain ⟨v1, vs1, d1, ds1, p1, q1, rfl, rfl, rfl, h1, r1⟩ := trodAll_cons r0
  obtain ⟨rfl, rfl, rfl⟩ := trodAll_nil r1
  obtain rfl : args = #[v0, v1] := by cases args; simp_all
  obtain ⟨rfl, rfl⟩ := trodVars_none hV
  have k0 := h0
  have lt0 : ∀ x ∈ p0, x.block < W.heap.size := by obtain ⟨m, hm⟩ := k0; exact DataW.trod_lt m _ _ _ hm
  obtain ⟨a0, n0, c0, rfl⟩ := okWide_slice Try.underlying41 (hval 0 41 v0 rfl rfl)
  obtain ⟨f0, w0⟩ := open_byt Try.underlying41 Try.underlying5 (by kernel_rfl) h0
  have k1 := h1
  have lt1 : ∀ x ∈ p1, x.block < W.heap.size := by obtain ⟨m, hm⟩ := k1; exact DataW.trod_lt m _ _ _ hm
  obtain ⟨a1, n1, c1, rfl⟩ := okWide_slice Try.underlying41 (hval 1 41 v1 rfl rfl)
  obtain ⟨f1, w1⟩ := open_byt Try.underlying41 Try.underlying5 (by kernel_rfl) h1
  clear hA0 hval0
  refine (walk a0 n0 c0 f0 a1 n1 c1 f1 W w0 w1).mono fun e W' ⟨he, bel⟩ => ?_
  subst he
  exact ⟨_, rfl, _, _, _, [], _, [], hW', trodAll_mk1 (shut_bool Try.underlying4 _), (trodAll_cons_mk (Below.trod laidOut (by kernel_rfl) (of_decide_eq_true (by kernel_rfl)) k0 bel lt0) (trodAll_cons_mk (Below.trod laidOut (by kernel_rfl) (of_decide_eq_true (by kernel_rfl)) k1 bel lt1) trodAll_mk0)), rfl, bel.frame _, fun h => by cases h⟩
theorem over : Rows.fnRootsRow.holds Try.pinned (OpenSpec.ofChange Rows.fnRootsSpec) :=
  OpenClaim.holds_of_wide 5 Try.f5 rfl rfl rfl rfl rfl rfl rfl ⟨rfl, rfl, rfl, rfl, rfl⟩ rfl rfl rfl rfl rfl (by kernel_rfl) Try.func5 (by kernel_rfl)
    (of_decide_eq_true (by kernel_rfl)) (by unfold Func.isWrapper; first | (rw [if_pos (by decide +kernel)]; kernel_rfl) | (rw [if_neg (by decide +kernel)]; exact ⟨rfl, rfl⟩))
    (fun os started H enc _ => lifted os started H enc)
theorem proved : Rows.FnRootsSaid := over
#print axioms proved
end Go.Proofs.Ytghmonkoleegjaa.fnRoots
namespace Go.Proofs.Ytghmonkoleegjaa
/-- The row, under a short name, for the claim. -/
theorem fnRoots_holds : Rows.FnRootsSaid := fnRoots.proved
end Go.Proofs.Ytghmonkoleegjaa

