/- The arguments of the laws, opened, with the bounds of their words. No program is named here. -/
import Derived.Test.YtnfnlgmnnjgemaaGreatDoorOpen
import Derived.Test.YtnfnlgmnnjgemaaGreatDoorHA
namespace Go.Proofs.YtnfnlgmnnjgemaaGreatDoor
open Go.ChangeShapes Go.WideShapes Go.ChangeAt Go.RowKit

section
variable {P : Program} {w : World}
theorem open_row_lt {r : Reach} {b0 : Nat} {t e : TypeId} {n : Nat} {v : Value} (ha : (match P.underlying t with | some (.struct _) | some (.array _ _) => true | _ => false) = true)
    (hct : P.cellTypes P.depth t = some (List.replicate n e)) (he : P.underlying e = some (.float .f32)) (hc : P.cellsOf t = n)
    (hval : Value.okWide P w r b0 t v) : ∃ b, v = .agg (fA n b) ∧ ∀ i, i < n → b i < 4294967296 := by
  have h : ∃ cs, v = .agg cs ∧ cs.size = P.cellsOf t ∧ Row.okWide P w r b0 t cs := by
    unfold Value.okWide at hval
    split at hval
    · exact hval
    · exact hval
    · simp_all
  obtain ⟨b, hb⟩ := open_row ha hct he hc hval
  refine ⟨b, hb, fun i hi => ?_⟩
  obtain ⟨cs, hv, hsz, ts, h1, _, h2⟩ := h
  rw [hct] at h1
  injection h1 with h1
  subst h1
  rw [hc] at hsz
  rw [hb] at hv
  injection hv with hv
  subst hv
  obtain ⟨u, hu, hok⟩ := h2 i _ (Array.getElem?_eq_getElem (by simpa using hi))
  rw [List.length_replicate, Nat.mod_eq_of_lt hi, List.getElem?_replicate, if_pos hi] at hu
  injection hu with hu
  subst hu
  have hg := get_fA_lt b hi
  rw [Array.getElem?_eq_getElem (by simpa using hi)] at hg
  injection hg with hg
  rw [hg] at hok
  simp only [Cell.okWide, he] at hok
  simpa [Cell.ok, FloatKind.has, he] using hok
theorem open_float_lt {r : Reach} {b0 : Nat} {t : TypeId} {v : Value} (ht : P.underlying t = some (.float .f32)) (h : Value.okWide P w r b0 t v) : ∃ b, v = .float .f32 b ∧ b < 4294967296 := by
  obtain ⟨b, rfl⟩ := okWide_float ht h
  refine ⟨b, rfl, ?_⟩
  simp only [Value.okWide, ht, Cell.okWide] at h
  simpa [Cell.ok, FloatKind.has, ht] using h
end
theorem bits_lt {a : Nat} (h : a < 4294967296) : bitsOf (canon .f32 a) < 4294967296 := by
  cases ha : canon .f32 a with
  | none => decide
  | some y =>
    obtain ⟨rfl, _⟩ := canon_eq_some ha
    exact h
end Go.Proofs.YtnfnlgmnnjgemaaGreatDoor
