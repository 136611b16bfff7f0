/- The loose walks of a region, held shut: where a goal is a structure, Lean's elaborator does not evaluate it at each step (guards made that dear). No program is named here. -/
import Derived.Test.YtmikeegecifbfaaLooseR
namespace Go.Proofs.Ytmikeegecifbfaa
open Go.RowKit

section
variable {P : Program} {ops : Array Oper} {W : World} {C : World → Prop} {G : FuncId → Array Value → Value → Prop}
/-- A walk over a region that may lay blocks, shut. -/
structure HR (P : Program) (ops : Array Oper) (W : World) (G : FuncId → Array Value → Value → Prop) (Q : Act → (World → Prop) → Prop) (l : List Oper) (a : Act) (S : World → Prop) : Prop where
  out : wpLR P ops W G Q l a S
section
variable {Q : Act → (World → Prop) → Prop} {a : Act} {S : World → Prop} {o : Oper} {rest : List Oper}
theorem hr_nil (h : Q a S) : HR P ops W G Q [] a S := ⟨wpLR_nil h⟩
theorem hr_plain (hg : o.guard = none) (h : ∀ K : Act → (World → Prop) → Prop, (∀ a S, HR P ops W G Q rest a S → K a S) → ∀ w, R W w → lrUpon P G w (fun u N => K (a.put o.dst u) (fun x => S x ∧ N x)) ((execOp a.eval o).run P w)) : HR P ops W G Q (o :: rest) a S :=
  ⟨wpLR_plain hg fun K hK w hw => h K (fun a S x => hK a S x.out) w hw⟩
theorem hr_want (hg : Region.wanted o (yielded ops a.tmps) = true) (h : ∀ K : Act → (World → Prop) → Prop, (∀ a S, HR P ops W G Q rest a S → K a S) → ∀ w, R W w → lrUpon P G w (fun u N => K (a.put o.dst u) (fun x => S x ∧ N x)) ((execOp a.eval o).run P w)) : HR P ops W G Q (o :: rest) a S :=
  ⟨wpLR_want hg fun K hK w hw => h K (fun a S x => hK a S x.out) w hw⟩
theorem hr_skip (hg : Region.wanted o (yielded ops a.tmps) = false) (h : HR P ops W G Q rest (a.put o.dst undef) S) : HR P ops W G Q (o :: rest) a S := ⟨wpLR_skip hg h.out⟩
end
theorem wp_region_hr {id : Nat} {Q : Exit → Act → World → Prop} {a : Act} {w : World} {l : List Oper} (G : FuncId → Array Value → Value → Prop) (hm : P.follows .mixedOrders = true) (hB : Region.lexB .any l.toArray = true)
    (h : HR P l.toArray w G (fun a' S => ∀ w', R w w' → S w' → Q .normal a' w') l a (fun _ => True)) : (Code.region id l.toArray true).wp P Q a w := wp_region_lr G hm hB h.out

/-- A walk over a region that draws alone, shut. -/
structure HL (P : Program) (ops : Array Oper) (C : World → Prop) (G : FuncId → Array Value → Value → Prop) (Q : Act → Prop) (l : List Oper) (a : Act) : Prop where
  out : wpLoose P ops C G Q l a
section
variable {Q : Act → Prop} {a : Act} {o : Oper} {rest : List Oper}
theorem hl_nil (h : Q a) : HL P ops C G Q [] a := ⟨wpLoose_nil h⟩
theorem hl_plain (hg : o.guard = none) (h : ∀ K : Act → Prop, (∀ a, HL P ops C G Q rest a → K a) → ∀ w, C w → looseUpon P C G (fun u => K (a.put o.dst u)) ((execOp a.eval o).run P w)) : HL P ops C G Q (o :: rest) a :=
  ⟨wpLoose_plain hg fun K hK w hw => h K (fun a x => hK a x.out) w hw⟩
theorem hl_want (hg : Region.wanted o (yielded ops a.tmps) = true) (h : ∀ K : Act → Prop, (∀ a, HL P ops C G Q rest a → K a) → ∀ w, C w → looseUpon P C G (fun u => K (a.put o.dst u)) ((execOp a.eval o).run P w)) : HL P ops C G Q (o :: rest) a :=
  ⟨wpLoose_want hg fun K hK w hw => h K (fun a x => hK a x.out) w hw⟩
theorem hl_skipE {a' : Act} (hg : Region.wanted o (yielded ops a.tmps) = false) (ha : a.put o.dst undef = a') (h : HL P ops C G Q rest a') : HL P ops C G Q (o :: rest) a := ⟨wpLoose_skip hg (ha ▸ h.out)⟩
theorem hl_skip (hg : Region.wanted o (yielded ops a.tmps) = false) (h : HL P ops C G Q rest (a.put o.dst undef)) : HL P ops C G Q (o :: rest) a := ⟨wpLoose_skip hg h.out⟩
end
theorem wp_region_hl {id : Nat} {Q : Exit → Act → World → Prop} {a : Act} {w : World} {l : List Oper} (C : World → Prop) (G : FuncId → Array Value → Value → Prop) (hm : P.follows .mixedOrders = true) (hB : Region.lexB .any l.toArray = true) (hC : C w.drew)
    (h : HL P l.toArray C G (fun a' => ∀ w', C w' → Q .normal a' w') l a) : (Code.region id l.toArray true).wp P Q a w := wp_region_loose_lit C G hm hB hC h.out
end
end Go.Proofs.Ytmikeegecifbfaa
