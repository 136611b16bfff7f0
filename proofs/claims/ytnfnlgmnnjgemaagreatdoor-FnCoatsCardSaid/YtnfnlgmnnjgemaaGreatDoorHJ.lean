/- What the rows of reading lay of the library's errors. -/
import Derived.Test.YtnfnlgmnnjgemaaGreatDoorHD
import Derived.Test.YtnfnlgmnnjgemaaGreatDoorHI
import Derived.LaidLaws
import Derived.LaidHandle
namespace Go.Proofs.YtnfnlgmnnjgemaaGreatDoor
open Go.ChangeShapes Go.WideShapes Go.ChangeAt Go.RowKit

theorem gSyn : Tryz.prog.globalNamed "strconv.ErrSyntax" = some 2 := by kernel_rfl
theorem gRng : Tryz.prog.globalNamed "strconv.ErrRange" = some 3 := by kernel_rfl
theorem gtSyn : (Tryz.prog.globals[2]?).map (·.type) = some 92 := by kernel_rfl
theorem gtRng : (Tryz.prog.globals[3]?).map (·.type) = some 92 := by kernel_rfl
theorem cell_of_var {W : World} {name : String} {g : Nat} {cs : Array Value} {u : TypeId} {v : Value} (hg : Tryz.prog.globalNamed name = some g) (hv : W.var? Tryz.prog name = some cs) (hc : cs.toList = [.iface u v]) : W.cell? ⟨g, 0, none⟩ = some (.iface u v) := by
  have := World.var?_cell hg hv 0
  rw [Array.eq_one_of_toList hc] at this
  simpa using this
/-- What the row's list gives: the two errors lie in their variables. -/
theorem errs_of {W : World} {x0 x1 x2 : String × DataW Unit} {rest : List (String × DataW Unit)}
    (h : laidMet Tryz.prog (x0 :: x1 :: x2 :: ("strconv.ErrRange", Rows.laid_strconv_ErrRange) :: ("strconv.ErrSyntax", Rows.laid_strconv_ErrSyntax) :: rest) W) : Errs W := by
  obtain ⟨ps, ⟨a0, t0, cs0, f0, p0, q0, hg0, ht0, hv0, hd0, ⟨a1, t1, cs1, f1, p1, q1, hg1, ht1, hv1, hd1, ⟨a2, t2, cs2, f2, p2, q2, hg2, ht2, hv2, hd2, ⟨a3, t3, cs3, f3, p3, q3, hg3, ht3, hv3, hd3, ⟨a4, t4, cs4, f4, p4, q4, hg4, ht4, hv4, hd4, _, _⟩, _⟩, _⟩, _⟩, _⟩, _⟩ := h
  obtain rfl := Option.some.inj (gRng.symm.trans hg3)
  obtain rfl := Option.some.inj (gtRng.symm.trans ht3)
  obtain rfl := Option.some.inj (gSyn.symm.trans hg4)
  obtain rfl := Option.some.inj (gtSyn.symm.trans ht4)
  obtain ⟨_, u3, v3, hc3, _, _⟩ := iface_of_trod Tryz.underlying92 hd3
  obtain ⟨_, u4, v4, hc4, _, _⟩ := iface_of_trod Tryz.underlying92 hd4
  exact ⟨⟨u4, v4, cell_of_var gSyn hv4 hc4⟩, u3, v3, cell_of_var gRng hv3 hc3⟩
noncomputable def low : Nat := (World.holding Tryz.prog default ⟨#[], #[], []⟩).heap.size
abbrev rngS : ByteArray := { data := #[118, 97, 108, 117, 101, 32, 111, 117, 116, 32, 111, 102, 32, 114, 97, 110, 103, 101] }
abbrev synS : ByteArray := { data := #[105, 110, 118, 97, 108, 105, 100, 32, 115, 121, 110, 116, 97, 120] }
noncomputable def laidHeapE (h : Array Obj) : Array Obj :=
  ((laidHeap h).modify 2 fun
      | .cells _ t frozen => .cells #[.iface 172 (.pointer (some ⟨low + 1, 0, none⟩))] t frozen
      | o => o).modify 3 fun
      | .cells _ t frozen => .cells #[.iface 172 (.pointer (some ⟨low, 0, none⟩))] t frozen
      | o => o
noncomputable def laidWorldE (os : Os) : World :=
  let w0 := World.holding Tryz.prog os ⟨#[.cells #[.string rngS] 174, .cells #[.string synS] 174], #[], []⟩
  { w0 with heap := laidHeapE w0.heap }
end Go.Proofs.YtnfnlgmnnjgemaaGreatDoor
