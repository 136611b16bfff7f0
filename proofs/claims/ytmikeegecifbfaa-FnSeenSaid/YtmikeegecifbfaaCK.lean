/- Contracts: names of codes; sameness of looks in the reference. -/
import Derived.Test.YtmikeegecifbfaaCB
namespace Go.Proofs.Ytmikeegecifbfaa
open Go.RowKit
set_option maxRecDepth 100000

/-- The name of a code; the empty text if there is none. -/
def nameOf (c : Int) : ByteArray :=
  if c = 0 then ⟨#[111, 107]⟩ else if c = 1 then ⟨#[105, 110, 118, 97, 108, 105, 100]⟩ else if c = 2 then ⟨#[114, 97, 110, 103, 101]⟩ else if c = 3 then ⟨#[108, 105, 109, 105, 116]⟩
  else if c = 4 then ⟨#[115, 116, 97, 116, 101]⟩ else if c = 5 then ⟨#[115, 121, 110, 116, 97, 120]⟩ else if c = 6 then ⟨#[110, 111, 116, 102, 111, 117, 110, 100]⟩ else if c = 7 then ⟨#[98, 117, 100, 103, 101, 116]⟩
  else if c = 8 then ⟨#[112, 114, 111, 111, 102]⟩ else ⟨#[]⟩
def RetS (w : World) (s : ByteArray) (e : Ending) (w' : World) : Prop := e = .returned (.string s) ∧ Below w.heap.size w w'

def names9 : Array Value := #[.string ⟨#[111, 107]⟩, .string ⟨#[105, 110, 118, 97, 108, 105, 100]⟩, .string ⟨#[114, 97, 110, 103, 101]⟩, .string ⟨#[108, 105, 109, 105, 116]⟩, .string ⟨#[115, 116, 97, 116, 101]⟩, .string ⟨#[115, 121, 110, 116, 97, 120]⟩, .string ⟨#[110, 111, 116, 102, 111, 117, 110, 100]⟩, .string ⟨#[98, 117, 100, 103, 101, 116]⟩, .string ⟨#[112, 114, 111, 111, 102]⟩]
theorem names9_at {c : Int} (h0 : 0 ≤ c) (h8 : c ≤ 8) : names9[c.toNat]? = some (.string (nameOf c)) := by
  have hc : c = 0 ∨ c = 1 ∨ c = 2 ∨ c = 3 ∨ c = 4 ∨ c = 5 ∨ c = 6 ∨ c = 7 ∨ c = 8 := by omega
  rcases hc with rfl | rfl | rfl | rfl | rfl | rfl | rfl | rfl | rfl <;> rfl

theorem sSameThree_any (a b : Nat → Nat) (w : World) :
    Calls Try.prog 24 #[.agg (fA 3 a), .agg (fA 3 b)] w (RetB w (allTo 3 fun i => canon .f32 (a i) == canon .f32 (b i))) := by
  have hA : Blk ((w.alloc (.cells (fA 3 a) 38)).alloc (.cells (fA 3 b) 38)) w.heap.size 38 (fA 3 a) := (Blk.new w _ _).alloc _
  have hB : Blk ((w.alloc (.cells (fA 3 a) 38)).alloc (.cells (fA 3 b) 38)) (w.heap.size + 1) 38 (fA 3 b) := Blk.new_at _ _ (by simp) rfl
  have a0 := (hA.cell 0).trans (get_fA_lt a (by omega))
  have a1 := (hA.cell 1).trans (get_fA_lt a (by omega))
  have a2 := (hA.cell 2).trans (get_fA_lt a (by omega))
  have b0 := (hB.cell 0).trans (get_fA_lt b (by omega))
  have b1 := (hB.cell 1).trans (get_fA_lt b (by omega))
  have b2 := (hB.cell 2).trans (get_fA_lt b (by omega))
  have hb : Below w.heap.size w ((w.alloc (.cells (fA 3 a) 38)).alloc (.cells (fA 3 b) 38)) := (by repeat (first | assumption | exact Below.refl _ _ | refine bDrew ?_ _ | refine Below.alloc ?_ (by first | omega | (simp; done) | (simp; omega)) _ | refine Below.setCell ?_ (by first | omega | (simp; done) | (simp; omega)) _ | refine bRow ?_ (by first | omega | (simp; done) | (simp; omega)) _))
  go_enter Try.func24, Try.ntmps24
  go_wp2_with fail
  refine (l01Same_any _ _ _).mono ?_
  rintro e w1 ⟨rfl, n0, rfl⟩
  cases h0 : (canon .f32 (a 0) == canon .f32 (b 0)) with
  | false =>
    have H0 := Lib.hid h0
    clear h0
    go_wp2
    go_ret
    exact ⟨congrArg (fun x => Ending.returned (Value.bool x)) (allTo_false (j := 0) (by omega) H0.out).symm, (by repeat (first | assumption | exact Below.refl _ _ | refine bDrew ?_ _ | refine Below.alloc ?_ (by first | omega | (simp; done) | (simp; omega)) _ | refine Below.setCell ?_ (by first | omega | (simp; done) | (simp; omega)) _ | refine bRow ?_ (by first | omega | (simp; done) | (simp; omega)) _))⟩
  | true =>
    have H0 := Lib.hid h0
    clear h0
    go_wp2_with fail
    refine (l01Same_any _ _ _).mono ?_
    rintro e w1 ⟨rfl, n1, rfl⟩
    cases h1 : (canon .f32 (a 1) == canon .f32 (b 1)) with
    | false =>
      have H1 := Lib.hid h1
      clear h1
      go_wp2
      go_ret
      exact ⟨congrArg (fun x => Ending.returned (Value.bool x)) (allTo_false (j := 1) (by omega) H1.out).symm, (by repeat (first | assumption | exact Below.refl _ _ | refine bDrew ?_ _ | refine Below.alloc ?_ (by first | omega | (simp; done) | (simp; omega)) _ | refine Below.setCell ?_ (by first | omega | (simp; done) | (simp; omega)) _ | refine bRow ?_ (by first | omega | (simp; done) | (simp; omega)) _))⟩
    | true =>
      have H1 := Lib.hid h1
      clear h1
      go_wp2_with fail
      refine (l01Same_any _ _ _).mono ?_
      rintro e w1 ⟨rfl, n2, rfl⟩
      cases h2 : (canon .f32 (a 2) == canon .f32 (b 2)) with
      | false =>
        have H2 := Lib.hid h2
        clear h2
        go_wp2
        go_ret
        exact ⟨congrArg (fun x => Ending.returned (Value.bool x)) (allTo_false (j := 2) (by omega) H2.out).symm, (by repeat (first | assumption | exact Below.refl _ _ | refine bDrew ?_ _ | refine Below.alloc ?_ (by first | omega | (simp; done) | (simp; omega)) _ | refine Below.setCell ?_ (by first | omega | (simp; done) | (simp; omega)) _ | refine bRow ?_ (by first | omega | (simp; done) | (simp; omega)) _))⟩
      | true =>
        have H2 := Lib.hid h2
        clear h2
        go_wp2
        go_ret
        refine ⟨congrArg (fun x => Ending.returned (Value.bool x)) (allTo_true fun j hj => ?_).symm, (by repeat (first | assumption | exact Below.refl _ _ | refine bDrew ?_ _ | refine Below.alloc ?_ (by first | omega | (simp; done) | (simp; omega)) _ | refine Below.setCell ?_ (by first | omega | (simp; done) | (simp; omega)) _ | refine bRow ?_ (by first | omega | (simp; done) | (simp; omega)) _))⟩
        have hj' : j = 0 ∨ j = 1 ∨ j = 2 := by omega
        rcases hj' with rfl | rfl | rfl
        · exact H0.out
        · exact H1.out
        · exact H2.out
end Go.Proofs.Ytmikeegecifbfaa
