/- One cell of a row of float32: reading, writing, as steps of a walk. No program is named here. -/
import Derived.Test.YtghmonkoleegjaaRow
import Derived.WalkKit
namespace Go.Proofs.Ytghmonkoleegjaa
open Go.RowKit
section
variable {P : Program} {w : World} {g n : Nat} {t : TypeId} {b : Nat → Nat}
theorem wpList_store_f {ops : Array Oper} {rest : List Oper} {o : Oper} {act : Act} {Q : Exit → Act → World → Prop} (hgd : o.guard = none) (ty : TypeId) (x y : Operand) (ho : o.op = .store ty x y)
    (hB : Blk w g t (fA n b)) {off v : Nat} (hx : act.eval x = .pointer (some ⟨g, off, none⟩)) (hy : act.eval y = .float .f32 v) (hoff : off < n) (hi : (P.info? ty).map (·.size) = some 1)
    (h : wpList P ops Q rest (act.put o.dst undef) (w.setCell ⟨g, off, none⟩ (.float .f32 v))) : wpList P ops Q (o :: rest) act w :=
  wpList_plain hgd fun K hK => by
    have h1 := (hB.cell off).trans (get_fA_lt b hoff)
    have h2 := hB.frozen off
    have hk := hK _ _ h
    have hs : ∀ w : World, (sizeOf ty).run P w = .ok 1 w := by
      intro w
      cases hq : P.info? ty with
      | none => simp [hq] at hi
      | some inf =>
        have hz : inf.size = 1 := by simpa [hq] using hi
        simp [sizeOf, typeInfo, hq, hz]
    unfold Oper.wp execOp
    simp only [ho, hx, hy]
    go_simp
    exact hk
end
end Go.Proofs.Ytghmonkoleegjaa
