/- A region that draws its order, whose operations leave the world in a class of worlds (they read, make memory, draw): one walk in the order of the text serves every order, also where what an operation gives is known only up to a contract (a NaN's bits). The road is the guide's text on quiet regions; here values need not be the same in every world. No program is named here. -/
import Derived.Deep.Quiet
import Derived.Deep.QuietTactic
import Derived.BigQuiet
import Derived.StillTail
import Derived.WalkKit
import Derived.Laws.Rows
namespace Go.Proofs.Ytmikeegecifbfaa

section
variable {P : Program} {ops : Array Oper} {md : Region.Mode} {C : World → Prop} {G : FuncId → Array Value → Value → Prop}

def looseUpon (P : Program) (C : World → Prop) (G : FuncId → Array Value → Value → Prop) (next : Value → Prop) : Result Next → Prop
  | .ok (.value u) w' => C w' ∧ next u
  | .ok .skip w' => C w' ∧ next undef
  | .ok (.enter f args) w' => C w' ∧ Calls P f args w' (fun e w'' => ∃ u, e = .returned u ∧ G f args u ∧ C w'') ∧ ∀ u, G f args u → next u
  | _ => False

def loose (P : Program) (o : Oper) (a : Act) (C : World → Prop) (G : FuncId → Array Value → Value → Prop) (next : Act → Prop) : Prop :=
  ∀ w, C w → looseUpon P C G (fun u => next (a.put o.dst u)) ((execOp a.eval o).run P w)

def wpLoose (P : Program) (ops : Array Oper) (C : World → Prop) (G : FuncId → Array Value → Value → Prop) (Q : Act → Prop) : List Oper → Act → Prop
  | [], a => Q a
  | o :: rest, a => if Region.wanted o (yielded ops a.tmps) then loose P o a C G (wpLoose P ops C G Q rest) else wpLoose P ops C G Q rest (a.put o.dst undef)

theorem wpLoose_nil {Q : Act → Prop} {a : Act} (h : Q a) : wpLoose P ops C G Q [] a := h
theorem wpLoose_step {Q : Act → Prop} {a : Act} {o : Oper} {rest : List Oper}
    (h : ∀ K : Act → Prop, (∀ a, wpLoose P ops C G Q rest a → K a) → if Region.wanted o (yielded ops a.tmps) then loose P o a C G K else K (a.put o.dst undef)) : wpLoose P ops C G Q (o :: rest) a :=
  h _ (fun _ h => h)

theorem wpLoose_plain {Q : Act → Prop} {a : Act} {o : Oper} {rest : List Oper} (hg : o.guard = none)
    (h : ∀ K : Act → Prop, (∀ a, wpLoose P ops C G Q rest a → K a) → ∀ w, C w → looseUpon P C G (fun u => K (a.put o.dst u)) ((execOp a.eval o).run P w)) : wpLoose P ops C G Q (o :: rest) a := by
  unfold wpLoose
  rw [if_pos (by simp [Region.wanted, hg])]
  exact h _ (fun _ h => h)
theorem wpLoose_want {Q : Act → Prop} {a : Act} {o : Oper} {rest : List Oper} (hw : Region.wanted o (yielded ops a.tmps) = true)
    (h : ∀ K : Act → Prop, (∀ a, wpLoose P ops C G Q rest a → K a) → ∀ w, C w → looseUpon P C G (fun u => K (a.put o.dst u)) ((execOp a.eval o).run P w)) : wpLoose P ops C G Q (o :: rest) a := by
  unfold wpLoose
  rw [if_pos hw]
  exact h _ (fun _ h => h)
theorem wpLoose_skip {Q : Act → Prop} {a : Act} {o : Oper} {rest : List Oper} (hw : Region.wanted o (yielded ops a.tmps) = false)
    (h : wpLoose P ops C G Q rest (a.put o.dst undef)) : wpLoose P ops C G Q (o :: rest) a := by
  unfold wpLoose
  rw [if_neg (by simp [hw])]
  exact h

def lOp (P : Program) (ops : Array Oper) (C : World → Prop) (G : FuncId → Array Value → Value → Prop) (i : Nat) (K : Act → Prop) (a : Act) : Prop :=
  match ops[i]? with
  | none => K a
  | some o => if Region.wanted o (yielded ops a.tmps) then loose P o a C G K else K (a.put o.dst undef)

theorem looseUpon_mono {K K' : Value → Prop} (h : ∀ u, K u → K' u) {r : Result Next} (hh : looseUpon P C G K r) : looseUpon P C G K' r := by
  cases r with
  | halt x w => exact hh
  | ok n w' => cases n <;> first | exact ⟨hh.1, h _ hh.2⟩ | exact ⟨hh.1, hh.2.1, fun u hu => h _ (hh.2.2 u hu)⟩ | exact hh

theorem loose_mono {o : Oper} {a : Act} {K K' : Act → Prop} (h : ∀ a, K a → K' a) (hh : loose P o a C G K) : loose P o a C G K' :=
  fun w hw => looseUpon_mono (fun _ hu => h _ hu) (hh w hw)

theorem lOp_mono {i : Nat} {a : Act} {K K' : Act → Prop} (h : ∀ a, K a → K' a) (hh : lOp P ops C G i K a) : lOp P ops C G i K' a := by
  unfold lOp at *
  split
  · exact h _ (by simpa [*] using hh)
  · rename_i o ho
    simp only [ho] at hh
    split
    · rename_i hw; simp only [hw, if_true] at hh; exact loose_mono h hh
    · rename_i hw; simp only [hw] at hh; exact h _ hh

/-- Whatever order is picked from here on. -/
def wpAnyL (P : Program) (md : Region.Mode) (ops : Array Oper) (C : World → Prop) (G : FuncId → Array Value → Value → Prop) (Q : Act → Prop) : Nat → Array Bool → Act → Prop
  | 0, listed, a => Region.ready md ops listed = [] ∧ Q a
  | fuel + 1, listed, a =>
    (Region.ready md ops listed = [] → Q a) ∧
    ∀ i ∈ Region.ready md ops listed, lOp P ops C G i (wpAnyL P md ops C G Q fuel (listed.setIfInBounds i true)) a

theorem wp_of_loose {o : Oper} {a : Act} {K : Act → Prop} {K' : Act → World → Prop} {Q' : Exit → Act → World → Prop} {w : World} (hw : C w) (h : ∀ a w', C w' → K a → K' a w') (hh : loose P o a C G K) : o.wp P a w K' Q' := by
  have h3 := hh w hw
  unfold Oper.wp
  generalize (execOp a.eval o).run P w = r at *
  cases r with
  | ok n w' =>
    cases n <;> simp only [looseUpon] at h3 <;> simp only [Oper.upon]
    case value u => exact h _ _ h3.1 h3.2
    case skip => exact h _ _ h3.1 h3.2
    case enter f args =>
      exact h3.2.1.mono fun e w'' ⟨u, he, hu, hw''⟩ => by subst he; exact h _ _ hw'' (h3.2.2 u hu)
  | halt x w' => simp only [looseUpon] at h3

theorem wpOp_of_lOp {i : Nat} {a : Act} {K : Act → Prop} {K' : Act → World → Prop} {Q' : Exit → Act → World → Prop} {w : World} (hC : C w) (h : ∀ a w', C w' → K a → K' a w') (hh : lOp P ops C G i K a) : wpOp P ops Q' i K' a w := by
  unfold lOp at hh
  unfold wpOp
  split
  · rename_i ho; simp only [ho] at hh; exact h _ _ hC hh
  · rename_i o ho
    simp only [ho] at hh
    split
    · rename_i hw; simp only [hw, if_true] at hh; exact .inl (wp_of_loose hC h hh)
    · rename_i hw; simp only [hw] at hh; exact h _ _ hC hh

theorem wpAny_of_loose {Q : Act → Prop} {Q' : Exit → Act → World → Prop} (hQ : ∀ a w, C w → Q a → Q' .normal a w) : ∀ (fuel : Nat) (listed : Array Bool) (a : Act) (w : World), C w →
    wpAnyL P md ops C G Q fuel listed a → wpAny P md ops Q' fuel listed a w
  | 0, _, _, _, hw, h => ⟨h.1, hQ _ _ hw h.2⟩
  | fuel + 1, _, _, _, hw, h => ⟨fun h0 => hQ _ _ hw (h.1 h0), fun i hi => wpOp_of_lOp hw (fun a' w' hw' => wpAny_of_loose hQ fuel _ a' w' hw') (h.2 i hi)⟩

/-- What a loose operation asks holds of some value that it may give. -/
theorem loose_some (hne : ∃ w, C w) {o : Oper} {a : Act} {K : Act → Prop} (hh : loose P o a C G K) : ∃ v, K (a.put o.dst v) := by
  obtain ⟨w, hw⟩ := hne
  have h := hh w hw
  generalize (execOp a.eval o).run P w = r at h
  cases r with
  | halt x w' => exact h.elim
  | ok n w' =>
    cases n <;> simp only [looseUpon] at h
    case value u => exact ⟨u, h.2⟩
    case skip => exact ⟨undef, h.2⟩
    case enter f args =>
      obtain ⟨e, w1, fr, ⟨u, _, hu, _⟩, _⟩ := h.2.1 []
      exact ⟨u, h.2.2 u hu⟩

theorem lOp_some (hne : ∃ w, C w) {i : Nat} {a : Act} {K : Act → Prop} (hh : lOp P ops C G i K a) : ∃ a', K a' := by
  unfold lOp at hh
  split at hh
  · exact ⟨_, hh⟩
  · split at hh
    · obtain ⟨v, hv⟩ := loose_some hne hh; exact ⟨_, hv⟩
    · exact ⟨_, hh⟩

/-- Two operations that are apart: the one or the other first. -/
theorem lOp_swap (hne : ∃ w, C w) {i j : Nat} {oi oj : Oper} (hi : ops[i]? = some oi) (hj : ops[j]? = some oj) (hap : oi.apart ops oj = true)
    (hsi : ∀ cs b, oi.op ≠ .select cs b) (hsj : ∀ cs b, oj.op ≠ .select cs b) {K : Act → Prop} {a : Act}
    (h : lOp P ops C G i (fun a1 => lOp P ops C G j K a1) a) : lOp P ops C G j (fun a2 => lOp P ops C G i K a2) a := by
  obtain ⟨h1, h2, h3⟩ := Oper.apart_spec hap
  have wj : ∀ v, Region.wanted oj (yielded ops (a.put oi.dst v).tmps) = Region.wanted oj (yielded ops a.tmps) := fun v => wanted_put oj a oi.dst v h1
  have wi : ∀ u, Region.wanted oi (yielded ops (a.put oj.dst u).tmps) = Region.wanted oi (yielded ops a.tmps) := fun u => wanted_put oi a oj.dst u h3
  have ej : ∀ v, execOp (a.put oi.dst v).eval oj = execOp a.eval oj := fun v => execOp_put oj hsj a oi.dst v h1
  have ei : ∀ u, execOp (a.put oj.dst u).eval oi = execOp a.eval oi := fun u => execOp_put oi hsi a oj.dst u h3
  have pc : ∀ v u, (a.put oi.dst v).put oj.dst u = (a.put oj.dst u).put oi.dst v := fun v u => Act.put_comm a v u h2
  unfold lOp at h ⊢
  simp only [hi, hj, wi, wj] at h ⊢
  by_cases bi : Region.wanted oi (yielded ops a.tmps) = true
  · by_cases bj : Region.wanted oj (yielded ops a.tmps) = true
    · simp only [bi, bj, if_true] at h ⊢
      -- what 'oj' does in a world, whatever 'oi' has given
      have key : ∀ w, C w → looseUpon P C G (fun u => ∀ w1, C w1 → looseUpon P C G (fun v => K ((a.put oj.dst u).put oi.dst v)) ((execOp a.eval oi).run P w1)) ((execOp a.eval oj).run P w) := by
        intro w hw
        obtain ⟨v0, hv0⟩ := loose_some hne h
        simp only [wj, bj, if_true] at hv0
        have hj0 := hv0 w hw
        rw [ej] at hj0
        have all : ∀ w1, C w1 → looseUpon P C G (fun v => looseUpon P C G (fun u => K ((a.put oj.dst u).put oi.dst v)) ((execOp a.eval oj).run P w)) ((execOp a.eval oi).run P w1) := by
          intro w1 hw1
          refine looseUpon_mono (fun v hv => ?_) (h w1 hw1)
          simp only [wj, bj, if_true] at hv
          have := hv w hw
          rw [ej] at this
          exact looseUpon_mono (fun u hu => by rw [← pc]; exact hu) this
        generalize (execOp a.eval oj).run P w = r at hj0 all ⊢
        cases r with
        | halt x w' => exact hj0.elim
        | ok n w' =>
          cases n <;> simp only [looseUpon] at hj0 ⊢
          case value u => exact ⟨hj0.1, fun w1 hw1 => looseUpon_mono (fun v hv => hv.2) (all w1 hw1)⟩
          case skip => exact ⟨hj0.1, fun w1 hw1 => looseUpon_mono (fun v hv => hv.2) (all w1 hw1)⟩
          case enter f args => exact ⟨hj0.1, hj0.2.1, fun u hu w1 hw1 => looseUpon_mono (fun v hv => hv.2.2 u hu) (all w1 hw1)⟩
      intro w hw
      refine looseUpon_mono (fun u hu => ?_) (key w hw)
      simp only [wi, bi, if_true]
      intro w1 hw1
      rw [ei]
      exact hu w1 hw1
    · simp only [bi, bj, if_true] at h ⊢
      intro w hw
      rw [ei]
      exact looseUpon_mono (fun v hv => by simp only [wj, bj] at hv; rw [← pc]; exact hv) (h w hw)
  · by_cases bj : Region.wanted oj (yielded ops a.tmps) = true
    · simp only [bi, bj, if_true] at h ⊢
      intro w hw
      have := h w hw
      rw [ej] at this
      exact looseUpon_mono (fun u hu => by simp only [wi, bi]; rw [← pc]; exact hu) this
    · simp only [bi, bj] at h ⊢
      rw [← pc]
      exact h

theorem wpAnyL_first (hne : ∃ w, C w) {Q : Act → Prop} {i : Nat} {oi : Oper} (hi : ops[i]? = some oi) (hsel : ∀ (j : Nat) (o : Oper) cs b, ops[j]? = some o → o.op ≠ .select cs b) :
    ∀ (fuel : Nat) (listed : Array Bool) (a : Act),
      (∀ j oj, ops[j]? = some oj → j ≠ i → listed.getD j true = false → (∀ e ∈ oj.after, Region.binds md e = true → e.on ≠ i) → oi.apart ops oj = true) →
      i ∈ Region.ready md ops listed → lOp P ops C G i (wpAnyL P md ops C G Q fuel (listed.setIfInBounds i true)) a →
      wpAnyL P md ops C G Q (fuel + 1) listed a := by
  intro fuel
  induction fuel with
  | zero =>
    intro listed a _ hr H
    refine ⟨fun h => (by rw [h] at hr; cases hr), fun j hj => ?_⟩
    by_cases hji : j = i
    · subst hji; exact H
    · obtain ⟨a', ha'⟩ := lOp_some hne H
      have := ready_mono hj hji
      rw [ha'.1] at this
      cases this
  | succ fuel ih =>
    intro listed a hfree hr H
    refine ⟨fun h => (by rw [h] at hr; cases hr), fun j hj => ?_⟩
    by_cases hji : j = i
    · subst hji; exact H
    · have h1 : lOp P ops C G i (fun a1 => lOp P ops C G j (wpAnyL P md ops C G Q fuel ((listed.setIfInBounds i true).setIfInBounds j true)) a1) a :=
        lOp_mono (fun a1 h => h.2 j (ready_mono hj hji)) H
      obtain ⟨hjun, oj, hoj, hall⟩ := mem_ready.1 hj
      have hnot : ∀ e ∈ oj.after, Region.binds md e = true → e.on ≠ i := fun e he hb heq => by
        have h1 := hall e he hb
        have h0 := (mem_ready.1 hr).1
        rw [heq] at h1
        rcases Nat.lt_or_ge i listed.size with h' | h'
        · simp [h'] at h0 h1; rw [h0] at h1; cases h1
        · simp [Array.getElem?_eq_none h'] at h1
      have h2 := lOp_swap hne hi hoj (hfree j oj hoj hji hjun hnot) (fun cs b => hsel i oi cs b hi) (fun cs b => hsel j oj cs b hoj) h1
      have hfree' : ∀ k ok, ops[k]? = some ok → k ≠ i → (listed.setIfInBounds j true).getD k true = false →
          (∀ e ∈ ok.after, Region.binds md e = true → e.on ≠ i) → oi.apart ops ok = true := fun k ok hk hki hun hno => by
        refine hfree k ok hk hki ?_ hno
        by_cases hjk : j = k
        · subst hjk; exact hjun
        · rw [getD_set_ne true hjk] at hun; exact hun
      refine lOp_mono (fun a' h3 => ih (listed.setIfInBounds j true) a' hfree' (ready_mono hr (Ne.symm hji)) ?_) h2
      rw [Array.setIfInBounds_comm _ _ hji]
      exact h3

theorem wpAnyL_lex (hne : ∃ w, C w) {Q : Act → Prop} (hs : Region.noSelect ops = true) : ∀ (l : List Oper) (k : Nat) (listed : Array Bool) (a : Act), (∀ j, l[j]? = ops[k + j]?) →
    Region.lexFrom md ops l.length k listed = true → wpLoose P ops C G Q l a → wpAnyL P md ops C G Q l.length listed a
  | [], _, _, _, _, hB, h => ⟨by simpa [Region.lexFrom] using hB, h⟩
  | o :: l, k, listed, a, hl, hB, h => by
    have h0 : ops[k]? = some o := by simpa using (hl 0).symm
    simp only [List.length_cons, Region.lexFrom, Bool.and_eq_true] at hB
    obtain ⟨⟨hr, hf⟩, hB'⟩ := hB
    have hst : lOp P ops C G k (wpLoose P ops C G Q l) a := by unfold lOp; simp only [h0]; exact h
    exact wpAnyL_first hne h0 (Region.noSelect_spec hs) l.length listed a (Region.free_spec h0 hf) (by simpa using hr)
      (lOp_mono (fun a' h' => wpAnyL_lex hne hs l (k + 1) _ a' (fun j => by have := hl (j + 1); simpa [Nat.add_assoc, Nat.add_comm 1 j] using this) hB' h') hst)

/-- One walk of the lexical order serves every order. -/
theorem wp_region_loose {id : Nat} {Q : Exit → Act → World → Prop} {a : Act} {w : World} (hm : P.follows .mixedOrders = true) (hB : Region.lexB .any ops = true) (hC : C { w with drawn := w.drawn + 1 })
    (h : wpLoose P ops C G (fun a' => ∀ w', C w' → Q .normal a' w') ops.toList a) : (Code.region id ops true).wp P Q a w := by
  simp only [Region.lexB, Bool.and_eq_true] at hB
  refine wp_region_any hm (wpAny_of_loose (G := G) (Q := fun a' => ∀ w', C w' → Q .normal a' w') (fun _ w' hw' h => h w' hw') _ _ _ _ hC ?_)
  have := wpAnyL_lex (C := C) (G := G) (md := .any) ⟨_, hC⟩ hB.1 ops.toList 0 (Array.replicate ops.size false) a (by simp) (by simpa using hB.2) h
  simpa using this

theorem wp_region_loose_lit {id : Nat} {Q : Exit → Act → World → Prop} {a : Act} {w : World} {l : List Oper} (C : World → Prop) (G : FuncId → Array Value → Value → Prop) (hm : P.follows .mixedOrders = true) (hB : Region.lexB .any l.toArray = true) (hC : C w.drew)
    (h : wpLoose P l.toArray C G (fun a' => ∀ w', C w' → Q .normal a' w') l a) : (Code.region id l.toArray true).wp P Q a w :=
  wp_region_loose (C := C) (G := G) hm hB hC (by simpa using h)

/-! ### A region whose last operations come in one forced order (a store at its end) -/

def wpAnyLT (P : Program) (md : Region.Mode) (ops : Array Oper) (C : World → Prop) (G : FuncId → Array Value → Value → Prop) (n : Nat) (L : Array Bool → Act → Prop) : Nat → Array Bool → Act → Prop
  | 0, listed, a => L listed a
  | f + 1, listed, a =>
    Region.ready md ops listed ≠ [] ∧ ∀ i ∈ Region.ready md ops listed, i < n ∧ lOp P ops C G i (wpAnyLT P md ops C G n L f (listed.setIfInBounds i true)) a

theorem wpAny_of_headL {n g : Nat} {L : Array Bool → Act → Prop} {Q' : Exit → Act → World → Prop} (hL : ∀ listed a w, C w → L listed a → wpAny P md ops Q' g listed a w) :
    ∀ (f : Nat) (listed : Array Bool) (a : Act) (w : World), C w → wpAnyLT P md ops C G n L f listed a → wpAny P md ops Q' (f + g) listed a w
  | 0, listed, a, w, hw, h => by rw [Nat.zero_add]; exact hL _ _ _ hw h
  | f + 1, listed, a, w, hw, h => by
    rw [show f + 1 + g = (f + g) + 1 by omega]
    exact ⟨fun h0 => absurd h0 h.1, fun i hi => wpOp_of_lOp hw (fun a' w' hw' h' => wpAny_of_headL hL f _ a' w' hw' h') (h.2 i hi).2⟩

theorem wpAnyLT_first (hne : ∃ w, C w) {n i : Nat} {oi : Oper} {L : Array Bool → Act → Prop} (hi : ops[i]? = some oi) (hsel : ∀ (j : Nat) (o : Oper) cs b, ops[j]? = some o → o.op ≠ .select cs b)
    (hs : Region.sinkB md ops n = true) (hc : Region.chainB md ops n = true) (hn : n < ops.size) (hin : i < n)
    (hdone : ∀ listed a, L listed a → ∀ j ∈ Region.ready md ops listed, n ≤ j) :
    ∀ (f : Nat) (listed : Array Bool) (a : Act), HeadInv md ops n listed →
      (∀ j oj, ops[j]? = some oj → j ≠ i → listed.getD j true = false → (∀ e ∈ oj.after, Region.binds md e = true → e.on ≠ i) → oi.apart ops oj = true) →
      i ∈ Region.ready md ops listed → lOp P ops C G i (wpAnyLT P md ops C G n L f (listed.setIfInBounds i true)) a → wpAnyLT P md ops C G n L (f + 1) listed a := by
  intro f
  induction f with
  | zero =>
    intro listed a inv _ hr H
    have hun := (mem_ready.1 hr).1
    refine ⟨fun h => (by rw [h] at hr; cases hr), fun j hj => ?_⟩
    have hjn : j < n := by
      rcases Nat.lt_or_ge j n with h | h
      · exact h
      · exact absurd hj (tail_waits hs hc hn inv _ i rfl hin hun j h)
    refine ⟨hjn, ?_⟩
    by_cases hji : j = i
    · subst hji; exact H
    · obtain ⟨a', ha'⟩ := lOp_some hne H
      have := hdone _ _ ha' j (ready_mono hj hji)
      omega
  | succ f ih =>
    intro listed a inv hfree hr H
    have hun := (mem_ready.1 hr).1
    refine ⟨fun h => (by rw [h] at hr; cases hr), fun j hj => ?_⟩
    have hjn : j < n := by
      rcases Nat.lt_or_ge j n with h | h
      · exact h
      · exact absurd hj (tail_waits hs hc hn inv _ i rfl hin hun j h)
    refine ⟨hjn, ?_⟩
    by_cases hji : j = i
    · subst hji; exact H
    · have h1 : lOp P ops C G i (fun a1 => lOp P ops C G j (wpAnyLT P md ops C G n L f ((listed.setIfInBounds i true).setIfInBounds j true)) a1) a :=
        lOp_mono (fun a1 h => (h.2 j (ready_mono hj hji)).2) H
      obtain ⟨hjun, oj, hoj, hall⟩ := mem_ready.1 hj
      have hnot : ∀ e ∈ oj.after, Region.binds md e = true → e.on ≠ i := fun e he hb heq => by
        have h1 := hall e he hb
        rw [heq, getD_both hun] at h1
        cases h1
      have h2 := lOp_swap hne hi hoj (hfree j oj hoj hji hjun hnot) (fun cs b => hsel i oi cs b hi) (fun cs b => hsel j oj cs b hoj) h1
      have hfree' : ∀ k ok, ops[k]? = some ok → k ≠ i → (listed.setIfInBounds j true).getD k true = false →
          (∀ e ∈ ok.after, Region.binds md e = true → e.on ≠ i) → oi.apart ops ok = true := fun k ok hk hki hun hno => by
        refine hfree k ok hk hki ?_ hno
        by_cases hjk : j = k
        · subst hjk; exact hjun
        · rw [getD_set_ne true hjk] at hun; exact hun
      refine lOp_mono (fun a' h3 => ih (listed.setIfInBounds j true) a' (inv.set hj hjn) hfree' (ready_mono hr (Ne.symm hji)) ?_) h2
      rw [Array.setIfInBounds_comm _ _ hji]
      exact h3

theorem wpAnyLT_lex (hne : ∃ w, C w) {n g : Nat} {Lq : Act → Prop} (hsel : Region.noSelect ops = true) (hs : Region.sinkB md ops n = true) (hc : Region.chainB md ops n = true) (hn : n < ops.size) :
    ∀ (l : List Oper) (k : Nat) (listed : Array Bool) (a : Act), (∀ j, j < l.length → l[j]? = ops[k + j]?) → k + l.length = n → HeadInv md ops n listed →
    Region.lexHead md ops g l.length k listed = true → wpLoose P ops C G Lq l a →
    wpAnyLT P md ops C G n (fun listed' a' => Region.seqB md ops g n listed' = true ∧ Lq a') l.length listed a
  | [], k, listed, a, _, hk, _, hB, h => by
    have : k = n := by simpa using hk
    subst this
    exact ⟨by simpa [Region.lexHead] using hB, h⟩
  | o :: l, k, listed, a, hl, hk, inv, hB, h => by
    have h0 : ops[k]? = some o := by simpa using (hl 0 (by simp)).symm
    simp only [List.length_cons, Region.lexHead, Bool.and_eq_true] at hB
    obtain ⟨⟨hr, hf⟩, hB'⟩ := hB
    have hkn : k < n := by simp only [List.length_cons] at hk; omega
    have hr' : k ∈ Region.ready md ops listed := by simpa using hr
    have hst : lOp P ops C G k (wpLoose P ops C G Lq l) a := by unfold lOp; simp only [h0]; exact h
    exact wpAnyLT_first hne h0 (Region.noSelect_spec hsel) hs hc hn hkn (fun listed' a' hL => seqB_ready hL.1) l.length listed a inv (Region.free_spec h0 hf) hr'
      (lOp_mono (fun a' h' => wpAnyLT_lex hne hsel hs hc hn l (k + 1) _ a' (fun j hj => by have := hl (j + 1) (by simp; omega); simpa [Nat.add_assoc, Nat.add_comm 1 j] using this) (by simp only [List.length_cons] at hk; omega) (inv.set hr' hkn) hB' h') hst)

theorem wp_region_loose_tail {id : Nat} {Q : Exit → Act → World → Prop} {a : Act} {w : World} {l : List Oper} (n : Nat) (C : World → Prop) (G : FuncId → Array Value → Value → Prop) (hm : P.follows .mixedOrders = true) (hB : Region.lexTailB .any l.toArray n = true) (hC : C w.drew)
    (h : wpLoose P l.toArray C G (fun a' => ∀ w', C w' → wpList P l.toArray Q (l.drop n) a' w') (l.take n) a) : (Code.region id l.toArray true).wp P Q a w := by
  simp only [Region.lexTailB, Bool.and_eq_true, decide_eq_true_eq] at hB
  obtain ⟨⟨⟨⟨hsel, hn⟩, hs⟩, hc⟩, hlex⟩ := hB
  have hn' : n < l.length := by simpa using hn
  have htl : (l.take n).length = n := by simp; omega
  have hdl : (l.drop n).length = l.toArray.size - n := by simp
  have inv0 : HeadInv .any l.toArray n (Array.replicate l.toArray.size false) :=
    ⟨by simp, fun j oj _ hl => (by rw [getD_replicate_false] at hl; cases hl), fun t _ ht => getD_in (by simpa using ht) (getD_replicate_false _ _)⟩
  have H := wpAnyLT_lex (md := .any) (g := l.toArray.size - n) ⟨_, hC⟩ hsel hs hc hn (l.take n) 0 _ a (fun j hj => by
    have hj' : j < n := by rw [htl] at hj; exact hj
    simp [hj']) (by simpa using htl) inv0 (by rw [htl]; exact hlex) h
  refine wp_region_any hm ?_
  have := wpAny_of_headL (Q' := Q) (g := l.toArray.size - n) (fun listed a' w' hw' hL => by
    have := wpAny_of_seq (md := .any) (Q' := Q) (l.drop n) n listed a' w' (fun j => by simp [List.getElem?_drop]) (by rw [hdl]; exact hL.1) (hL.2 w' hw')
    rwa [hdl] at this) _ _ _ _ hC H
  rw [htl, show n + (l.toArray.size - n) = l.toArray.size by omega] at this
  exact this

theorem looseUpon_load {o : Oper} {a : Act} {w : World} {ty : TypeId} {x : Operand} {next : Value → Prop} (ho : o.op = .load ty x) (g : Nat) (hx : a.eval x = .pointer (some ⟨g, 0, none⟩)) (t : TypeId) (cs : Array Value) (fr : Nat × Nat) (d : TypeDesc) (hg : w.heap[g]? = some (.cells cs t fr))
    (hu : P.underlying ty = some d) (hd : (match d with | .struct _ | .array _ _ => true | _ => false) = true) (hi : (P.info? ty).map (·.size) = some cs.size) (hC : C w) (h : next (.agg cs)) : looseUpon P C G next ((execOp a.eval o).run P w) := by
  unfold execOp
  simp only [ho, hx, Instr.loadAt, Instr.sureAddr, Sem.run_bind, Sem.run_pure, Result.andThen_ok, run_loadVar_row w g t ty cs fr d hg hu hd hi]
  exact ⟨hC, h⟩
/-- Operations that yield a value. -/
theorem looseUpon_value {next : Value → Prop} {u : Value} {w' : World} (hC : C w') (h : next u) : looseUpon P C G next (.ok (.value u) w') := ⟨hC, h⟩
theorem looseUpon_enter {next : Value → Prop} {f : FuncId} {args : Array Value} {w' : World} (hC : C w') (hc : Calls P f args w' (fun e w'' => ∃ u, e = .returned u ∧ G f args u ∧ C w'')) (h : ∀ u, G f args u → next u) :
    looseUpon P C G next (.ok (.enter f args) w') := ⟨hC, hc, h⟩

end
end Go.Proofs.Ytmikeegecifbfaa
