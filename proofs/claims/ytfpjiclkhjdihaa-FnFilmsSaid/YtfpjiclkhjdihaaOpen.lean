/- The arguments of the laws, opened: rows of float32, structs of such rows. No program is named here. -/
import Derived.Test.YtfpjiclkhjdihaaKit
import Derived.ProofKit
import Derived.OpenShut
import Derived.Laws.Cover2
namespace Go.Proofs.Ytfpjiclkhjdihaa

section
variable {P : Program} {w : World}

/-- An argument all whose cells are float32: an array of them, a struct of such arrays. -/
theorem open_row {r : Reach} {b0 : Nat} {t e : TypeId} {n : Nat} {v : Value} (ha : (match P.underlying t with | some (.struct _) | some (.array _ _) => true | _ => false) = true)
    (hct : P.cellTypes P.depth t = some (List.replicate n e)) (he : P.underlying e = some (.float .f32)) (hc : P.cellsOf t = n)
    (hval : Value.okWide P w r b0 t v) : ∃ b, v = .agg (fA n b) := by
  have h : ∃ cs, v = .agg cs ∧ cs.size = P.cellsOf t ∧ Row.okWide P w r b0 t cs := by
    unfold Value.okWide at hval
    split at hval
    · exact hval
    · exact hval
    · simp_all
  obtain ⟨cs, rfl, hsz, ts, h1, _, h2⟩ := h
  rw [hct] at h1
  injection h1 with h1
  subst h1
  rw [hc] at hsz
  obtain ⟨b, hb⟩ := fA_of_cells cs (fun i hi => by
    obtain ⟨u, hu, hok⟩ := h2 i _ (Array.getElem?_eq_getElem hi)
    rw [List.length_replicate, Nat.mod_eq_of_lt (by omega), List.getElem?_replicate, if_pos (by omega)] at hu
    injection hu with hu
    subst hu
    rw [Array.getElem?_eq_getElem hi]
    generalize cs[i] = c at hok
    simp only [Cell.okWide, he] at hok
    cases c <;> simp_all [Cell.ok])
  rw [hsz] at hb
  exact ⟨b, by rw [← hb]⟩
end
end Go.Proofs.Ytfpjiclkhjdihaa
