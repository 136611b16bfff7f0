/- A region that draws its order, whose last operations come in one forced order, but for one operation (a value taken out of a tuple) that may come among them. No program is named here. -/
import Derived.Test.YtmikeegecifbfaaLooseR
namespace Go.Proofs.Ytmikeegecifbfaa
open Go.RowKit

section
variable {P : Program} {ops : Array Oper} {md : Region.Mode} {W : World} {G : FuncId → Array Value → Value → Prop}

def sinkE (md : Region.Mode) (ops : Array Oper) (n E : Nat) : Bool := (List.range n).all fun i => i == E || (List.range (n + 1)).any fun j => decide (i < j) && j != E && Region.waitsFor md ops j i
/-- The late operation: a value out of a tuple; it waits for earlier ones alone; a last one waits for it or is apart from it. -/
def lateB (md : Region.Mode) (ops : Array Oper) (n E : Nat) : Bool :=
  decide (E < n) && match ops[E]? with
    | some o => (match o.op with | .extract _ _ => true | _ => false) && o.guard.isNone && o.after.all (fun e => !Region.binds md e || (decide (e.on < n) && e.on != E))
        && (List.range ops.size).all fun j => decide (j < n) || Region.waitsFor md ops j E || match ops[j]? with | some oj => o.apart ops oj | none => true
    | none => false

theorem tail_waitsE {n E : Nat} {listed : Array Bool} (hs : sinkE md ops n E = true) (hc : Region.chainB md ops n = true) (hn : n < ops.size) (inv : HeadInv md ops n listed) :
    ∀ (d i : Nat), n - i = d → i < n → i ≠ E → listed.getD i true = false → ∀ t, n ≤ t → t ∉ Region.ready md ops listed := by
  intro d
  induction d using Nat.strongRecOn with
  | _ d ih =>
    intro i hd hi hiE hun t ht hr
    obtain ⟨_, ot, hot, hall⟩ := mem_ready.1 hr
    have htlt : t < ops.size := (Array.getElem?_eq_some_iff.1 hot).1
    by_cases htn : t = n
    · subst htn
      have h1 := List.all_eq_true.1 hs i (List.mem_range.2 hi)
      simp only [Bool.or_eq_true, beq_iff_eq, hiE, false_or] at h1
      obtain ⟨j, hj, hj2⟩ := List.any_eq_true.1 h1
      simp only [Bool.and_eq_true, decide_eq_true_eq, bne_iff_ne, ne_eq] at hj2
      obtain ⟨oj, hoj, e, he, hb, hon⟩ := Region.waitsFor_spec hj2.2
      have hjle : j ≤ t := by have := List.mem_range.1 hj; omega
      by_cases hjt : j = t
      · subst hjt
        have : oj = ot := Option.some.inj (hoj.symm.trans hot)
        subst this
        have h2 := hall e he hb
        rw [hon, getD_both hun] at h2
        cases h2
      · cases hl : listed.getD j false with
        | true =>
          have h2 := inv.closed j oj hoj hl e he hb
          rw [hon, getD_both hun] at h2
          cases h2
        | false =>
          have hjs : j < listed.size := by rw [inv.size]; omega
          exact ih (t - j) (by omega) j rfl (by omega) hj2.1.2 (getD_in hjs hl) t (Nat.le_refl _) hr
    · have h1 := List.all_eq_true.1 hc t (List.mem_range.2 htlt)
      simp only [Bool.or_eq_true, decide_eq_true_eq] at h1
      rcases h1 with h1 | h1
      · omega
      · obtain ⟨o', ho', e, he, hb, hon⟩ := Region.waitsFor_spec h1
        have : o' = ot := Option.some.inj (ho'.symm.trans hot)
        subst this
        have h2 := hall e he hb
        rw [hon, getD_both (inv.tail (t - 1) (by omega) (by omega))] at h2
        cases h2

def Ez (n E : Nat) (listed : Array Bool) : Prop := listed.getD E true = false ∧ ∀ j, j < n → j ≠ E → listed.getD j true = true
theorem ez_of_ready {n E : Nat} {listed : Array Bool} (hs : sinkE md ops n E = true) (hc : Region.chainB md ops n = true) (hn : n < ops.size) (inv : HeadInv md ops n listed) {i : Nat} (hi : i < n) (hun : listed.getD i true = false) {t : Nat} (ht : n ≤ t)
    (hr : t ∈ Region.ready md ops listed) : Ez n E listed := by
  have h : ∀ j, j < n → j ≠ E → listed.getD j true = true := fun j hj hjE => by
    cases hl : listed.getD j true with
    | true => rfl
    | false => exact absurd hr (tail_waitsE hs hc hn inv _ j rfl hj hjE hl t ht)
  refine ⟨?_, h⟩
  by_cases hiE : i = E
  · subst hiE; exact hun
  · rw [h i hi hiE] at hun; cases hun

def wpAnyE (P : Program) (md : Region.Mode) (ops : Array Oper) (W : World) (G : FuncId → Array Value → Value → Prop) (n E : Nat) (L : Array Bool → Act → (World → Prop) → Prop) : Nat → Array Bool → Act → (World → Prop) → Prop
  | 0, listed, a, S => L listed a S
  | f + 1, listed, a, S =>
    Region.ready md ops listed ≠ [] ∧ ∀ i ∈ Region.ready md ops listed, (i < n ∧ rOp P ops W G i (wpAnyE P md ops W G n E L f (listed.setIfInBounds i true)) a S) ∨ (n ≤ i ∧ Ez n E listed)

theorem instr_extract_run (u : Value) (k : Nat) : (∃ v, ∀ w, (Instr.extract u k).run P w = .ok v w) ∨ ∃ m, Instr.extract u k = stuck m := by
  unfold Instr.extract
  split
  · split
    · exact .inl ⟨_, fun _ => rfl⟩
    · exact .inr ⟨_, rfl⟩
  · exact .inr ⟨_, rfl⟩
theorem extract_run {o : Oper} {a : Act} {x : Operand} {k : Nat} (ho : o.op = .extract x k) : (∃ v, ∀ w, (execOp a.eval o).run P w = .ok (.value v) w) ∨ ∀ w m w', (execOp a.eval o).run P w ≠ .ok m w' := by
  have hq : execOp a.eval o = (do pure (.value (← Instr.extract (a.eval x) k))) := by unfold execOp; simp only [ho]
  rw [hq]
  rcases instr_extract_run (P := P) (a.eval x) k with ⟨v, hv⟩ | ⟨m, hm⟩
  · refine .inl ⟨v, fun w => ?_⟩
    rw [Sem.run_bind, hv w]
    rfl
  · refine .inr fun w m' w' h => ?_
    rw [hm, Sem.run_bind] at h
    cases h

theorem wpAny_of_headE {n g E : Nat} {oE : Oper} {x : Operand} {k : Nat} {L : Array Bool → Act → (World → Prop) → Prop} {Q' : Exit → Act → World → Prop} (hn : n < ops.size) (hoE : ops[E]? = some oE) (hEn : E < n) (hx : oE.op = .extract x k) (hg : oE.guard = none)
    (hed : ∀ e ∈ oE.after, Region.binds md e = true → e.on < n ∧ e.on ≠ E) (hfr : ∀ j oj, n ≤ j → ops[j]? = some oj → (∀ e ∈ oj.after, Region.binds md e = true → e.on ≠ E) → oE.apart ops oj = true)
    (hsel : ∀ (j : Nat) (o : Oper) cs b, ops[j]? = some o → o.op ≠ .select cs b) (hQ : ∀ c a v w, Q' (.panic c) (a.put oE.dst v) w → Q' (.panic c) a w)
    (hL : ∀ listed a S w, R W w → S w → L listed a S → wpAny P md ops Q' g listed a w) :
    ∀ (f : Nat) (listed : Array Bool) (a : Act) (S : World → Prop) (w : World), HeadInv md ops n listed → R W w → S w → StableR S → wpAnyE P md ops W G n E L f listed a S → wpAny P md ops Q' (f + g) listed a w
  | 0, listed, a, S, w, _, hw, hS, _, h => by rw [Nat.zero_add]; exact hL _ _ _ _ hw hS h
  | f + 1, listed, a, S, w, inv, hw, hS, hst, h => by
    rw [show f + 1 + g = (f + g) + 1 by omega]
    by_cases hz : Ez n E listed
    · have hlt : ∀ j, j < n → j ≠ E → listed.getD j false = true := fun j hj hjE => by
        cases hl : listed.getD j false with
        | true => rfl
        | false =>
          have hjs : j < listed.size := by rw [inv.size]; omega
          have := getD_in hjs hl
          rw [hz.2 j hj hjE] at this
          cases this
      have hre : E ∈ Region.ready md ops listed := mem_ready.2 ⟨hz.1, oE, hoE, fun e he hb => hlt _ (hed e he hb).1 (hed e he hb).2⟩
      rcases h.2 E hre with ⟨_, hop⟩ | ⟨h1, _⟩
      · unfold rOp at hop
        simp only [hoE] at hop
        have hwant : Region.wanted oE (yielded ops a.tmps) = true := by simp [Region.wanted, hg]
        rw [if_pos hwant] at hop
        have h3 := hop w hw
        rcases extract_run (P := P) (a := a) hx with ⟨v, hv⟩ | hno
        · rw [hv w] at h3
          have h4 := wpAny_of_headE hn hoE hEn hx hg hed hfr hsel hQ hL f _ _ _ w (inv.set hre hEn) hw ⟨hS, R.refl w⟩ (stable_and hst w) h3.2
          refine wpAny_first hoE hsel (fun c a w => hQ c a v w) (f + g) listed a w (fun j oj hj hjE hun hno => ?_) hre (.inl ⟨hwant, hv⟩) h4
          rcases Nat.lt_or_ge j n with hjn | hjn
          · rw [hz.2 j hjn hjE] at hun; cases hun
          · exact hfr j oj hjn hj hno
        · exfalso
          generalize hr : (execOp a.eval oE).run P w = r at h3
          cases r with
          | ok m w' => exact hno w m w' hr
          | halt e w' => exact h3
      · omega
    · exact ⟨fun h0 => absurd h0 h.1, fun i hi => by
        rcases h.2 i hi with ⟨hin, hop⟩ | ⟨_, h1⟩
        · exact wpOp_of_rOp hw hS hst (fun a' S' w' hw' hS' hst' h' => wpAny_of_headE hn hoE hEn hx hg hed hfr hsel hQ hL f _ a' S' w' (inv.set hi hin) hw' hS' hst' h') hop
        · exact absurd h1 hz⟩

theorem wpAnyE_first {n E i : Nat} {oi : Oper} {L : Array Bool → Act → (World → Prop) → Prop} (hi : ops[i]? = some oi) (hsel : ∀ (j : Nat) (o : Oper) cs b, ops[j]? = some o → o.op ≠ .select cs b)
    (hnt : ∀ (listed : Array Bool), HeadInv md ops n listed → ∀ i, i < n → listed.getD i true = false → ∀ t, n ≤ t → t ∈ Region.ready md ops listed → Ez n E listed) (hin : i < n)
    (hdone : ∀ listed a S, L listed a S → ∀ j ∈ Region.ready md ops listed, n ≤ j) :
    ∀ (f : Nat) (listed : Array Bool) (a : Act) (S : World → Prop), HeadInv md ops n listed →
      (∀ j oj, ops[j]? = some oj → j ≠ i → listed.getD j true = false → (∀ e ∈ oj.after, Region.binds md e = true → e.on ≠ i) → oi.apart ops oj = true) →
      i ∈ Region.ready md ops listed → rOp P ops W G i (wpAnyE P md ops W G n E L f (listed.setIfInBounds i true)) a S → wpAnyE P md ops W G n E L (f + 1) listed a S := by
  intro f
  induction f with
  | zero =>
    intro listed a S inv _ hr H
    have hun := (mem_ready.1 hr).1
    refine ⟨fun h => (by rw [h] at hr; cases hr), fun j hj => ?_⟩
    rcases Nat.lt_or_ge j n with hjn | hjn
    · refine .inl ⟨hjn, ?_⟩
      by_cases hji : j = i
      · subst hji; exact H
      · obtain ⟨a', S', ha'⟩ := rOp_some H
        have := hdone _ _ _ ha' j (ready_mono hj hji)
        omega
    · exact .inr ⟨hjn, hnt _ inv i hin hun j hjn hj⟩
  | succ f ih =>
    intro listed a S inv hfree hr H
    have hun := (mem_ready.1 hr).1
    refine ⟨fun h => (by rw [h] at hr; cases hr), fun j hj => ?_⟩
    rcases Nat.lt_or_ge j n with hjn | hjn
    · refine .inl ⟨hjn, ?_⟩
      by_cases hji : j = i
      · subst hji; exact H
      · have h1 : rOp P ops W G i (fun a1 S1 => rOp P ops W G j (wpAnyE P md ops W G n E L f ((listed.setIfInBounds i true).setIfInBounds j true)) a1 S1) a S :=
          rOp_mono (fun a1 S1 h => ((h.2 j (ready_mono hj hji)).resolve_right (fun hr => by omega)).2) H
        obtain ⟨hjun, oj, hoj, hall⟩ := mem_ready.1 hj
        have hnot : ∀ e ∈ oj.after, Region.binds md e = true → e.on ≠ i := fun e he hb heq => by
          have h1 := hall e he hb
          rw [heq, getD_both hun] at h1
          cases h1
        have h2 := rOp_swap hi hoj (hfree j oj hoj hji hjun hnot) (fun cs b => hsel i oi cs b hi) (fun cs b => hsel j oj cs b hoj) h1
        have hfree' : ∀ k ok, ops[k]? = some ok → k ≠ i → (listed.setIfInBounds j true).getD k true = false →
            (∀ e ∈ ok.after, Region.binds md e = true → e.on ≠ i) → oi.apart ops ok = true := fun k ok hk hki hun hno => by
          refine hfree k ok hk hki ?_ hno
          by_cases hjk : j = k
          · subst hjk; exact hjun
          · rw [getD_set_ne true hjk] at hun; exact hun
        refine rOp_mono (fun a' S' h3 => ih (listed.setIfInBounds j true) a' S' (inv.set hj hjn) hfree' (ready_mono hr (Ne.symm hji)) ?_) h2
        rw [Array.setIfInBounds_comm _ _ hji]
        exact h3
    · exact .inr ⟨hjn, hnt _ inv i hin hun j hjn hj⟩

theorem wpAnyE_lex {n E : Nat} (done : Array Bool → Prop) {Lq : Act → (World → Prop) → Prop} (hsel : Region.noSelect ops = true)
    (hnt : ∀ (listed : Array Bool), HeadInv md ops n listed → ∀ i, i < n → listed.getD i true = false → ∀ t, n ≤ t → t ∈ Region.ready md ops listed → Ez n E listed)
    (hdone : ∀ listed, done listed → ∀ j ∈ Region.ready md ops listed, n ≤ j) (lex : Nat → Nat → Array Bool → Bool)
    (hlex0 : ∀ k listed, lex 0 k listed = true → k = n → done listed)
    (hlex : ∀ f k listed, lex (f + 1) k listed = true → (Region.ready md ops listed).contains k = true ∧ Region.free md ops listed k = true ∧ lex f (k + 1) (listed.setIfInBounds k true) = true) :
    ∀ (l : List Oper) (k : Nat) (listed : Array Bool) (a : Act) (S : World → Prop), (∀ j, j < l.length → l[j]? = ops[k + j]?) → k + l.length = n → HeadInv md ops n listed →
    lex l.length k listed = true → wpLR P ops W G Lq l a S →
    wpAnyE P md ops W G n E (fun listed' a' S' => done listed' ∧ Lq a' S') l.length listed a S
  | [], k, listed, a, S, _, hk, _, hB, h => ⟨hlex0 _ _ hB (by simpa using hk), h⟩
  | o :: l, k, listed, a, S, hl, hk, inv, hB, h => by
    have h0 : ops[k]? = some o := by simpa using (hl 0 (by simp)).symm
    obtain ⟨hr, hf, hB'⟩ := hlex _ _ _ hB
    have hkn : k < n := by simp only [List.length_cons] at hk; omega
    have hr' : k ∈ Region.ready md ops listed := by simpa using hr
    have hst : rOp P ops W G k (wpLR P ops W G Lq l) a S := by unfold rOp; simp only [h0]; exact h
    exact wpAnyE_first h0 (Region.noSelect_spec hsel) hnt hkn (fun listed' a' S' hL => hdone _ hL.1) l.length listed a S inv (Region.free_spec h0 hf) hr'
      (rOp_mono (fun a' S' h' => wpAnyE_lex done hsel hnt hdone lex hlex0 hlex l (k + 1) _ a' S' (fun j hj => by have := hl (j + 1) (by simp; omega); simpa [Nat.add_assoc, Nat.add_comm 1 j] using this) (by simp only [List.length_cons] at hk; omega) (inv.set hr' hkn) hB' h') hst)

def lateTailB (md : Region.Mode) (ops : Array Oper) (n E : Nat) : Bool :=
  Region.noSelect ops && decide (n < ops.size) && sinkE md ops n E && Region.chainB md ops n && Region.lexHead md ops (ops.size - n) n 0 (Array.replicate ops.size false) && lateB md ops n E

/-- A region whose last operations, from number n on, come in one forced order, but for number E, which may come among them. -/
theorem wp_region_lr_late {id : Nat} {Q : Exit → Act → World → Prop} {a : Act} {w : World} {l : List Oper} (n E : Nat) (G : FuncId → Array Value → Value → Prop) (hm : P.follows .mixedOrders = true) (hB : lateTailB .any l.toArray n E = true)
    (hQ : ∀ c a d v w, Q (.panic c) (Act.put a d v) w → Q (.panic c) a w)
    (h : wpLR P l.toArray w G (fun a' S => ∀ w', R w w' → S w' → wpList P l.toArray Q (l.drop n) a' w') (l.take n) a (fun _ => True)) : (Code.region id l.toArray true).wp P Q a w := by
  simp only [lateTailB, Bool.and_eq_true, decide_eq_true_eq] at hB
  obtain ⟨⟨⟨⟨⟨hsel, hn⟩, hs⟩, hc⟩, hlex⟩, hlate⟩ := hB
  simp only [lateB, Bool.and_eq_true, decide_eq_true_eq] at hlate
  obtain ⟨hEn, hlate⟩ := hlate
  have hn' : n < l.length := by simpa using hn
  have htl : (l.take n).length = n := by simp; omega
  have hdl : (l.drop n).length = l.toArray.size - n := by simp
  have inv0 : HeadInv .any l.toArray n (Array.replicate l.toArray.size false) :=
    ⟨by simp, fun j oj _ hl => (by rw [getD_replicate_false] at hl; cases hl), fun t _ ht => getD_in (by simpa using ht) (getD_replicate_false _ _)⟩
  have H := wpAnyE_lex (E := E) (md := .any) (fun listed => Region.seqB .any l.toArray (l.toArray.size - n) n listed = true) hsel (fun listed inv i hi hun t ht hr => ez_of_ready hs hc hn inv hi hun ht hr) (fun listed h => seqB_ready h)
    (Region.lexHead .any l.toArray (l.toArray.size - n)) (fun k listed h hk => by subst hk; simpa [Region.lexHead] using h) (fun f k listed h => by simp only [Region.lexHead, Bool.and_eq_true] at h; exact ⟨h.1.1, h.1.2, h.2⟩)
    (l.take n) 0 _ a _ (fun j hj => by
      have hj' : j < n := by rw [htl] at hj; exact hj
      simp [hj']) (by simpa using htl) inv0 (by rw [htl]; exact hlex) h
  refine wp_region_any hm ?_
  obtain ⟨oE, hoE⟩ : ∃ o, l.toArray[E]? = some o := by
    cases ho : l.toArray[E]? with
    | some o => exact ⟨o, rfl⟩
    | none => rw [Array.getElem?_eq_none_iff] at ho; simp at ho; omega
  rw [hoE] at hlate
  simp only [Bool.and_eq_true] at hlate
  obtain ⟨⟨⟨hex, hgd⟩, hed⟩, hfr⟩ := hlate
  obtain ⟨x, k, hx⟩ : ∃ x k, oE.op = .extract x k := by
    cases ho : oE.op <;> rw [ho] at hex <;> first | exact ⟨_, _, rfl⟩ | cases hex
  have := wpAny_of_headE (Q' := Q) (g := l.toArray.size - n) hn hoE hEn hx (by simpa using hgd)
    (fun e he hb => by
      have h1 := (Array.all_eq_true_iff_forall_mem.1 hed) e he
      simpa [hb] using h1)
    (fun j oj hj hoj hno => by
      have h1 := List.all_eq_true.1 hfr j (List.mem_range.2 (Array.getElem?_eq_some_iff.1 hoj).1)
      simp only [Bool.or_eq_true, decide_eq_true_eq, hoj] at h1
      rcases h1 with (h1 | h1) | h1
      · omega
      · obtain ⟨o', ho', e, he, hb, hon⟩ := Region.waitsFor_spec h1
        have : o' = oj := Option.some.inj (ho'.symm.trans hoj)
        subst this
        exact absurd hon (hno e he hb)
      · exact h1)
    (Region.noSelect_spec hsel) (fun c a v w => hQ c a _ v w)
    (fun listed a' S' w' hw' hS' hL => by
      have := wpAny_of_seq (md := .any) (Q' := Q) (l.drop n) n listed a' w' (fun j => by simp [List.getElem?_drop]) (by rw [hdl]; exact hL.1) (hL.2 w' hw' hS')
      rwa [hdl] at this) _ _ _ _ _ inv0 (R.drew w) trivial (fun _ _ _ _ => trivial) H
  rw [htl, show n + (l.toArray.size - n) = l.toArray.size by omega] at this
  exact this
end
end Go.Proofs.Ytmikeegecifbfaa
