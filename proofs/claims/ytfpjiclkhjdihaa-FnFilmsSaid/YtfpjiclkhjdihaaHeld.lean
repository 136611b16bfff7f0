/- A region that draws its order, whose operations may also lay new blocks: one walk in the order of the text serves every order; what was laid stays as it was laid. (Over the text on loose regions; here a step also tells which world it has left, and every later world keeps what lies there.) No program is named here. The loose walks of a region, held shut: where a goal is a structure, Lean's elaborator does not evaluate it at each step (guards made that dear). No program is named here. A region that draws its order, whose last operations come in one forced order, but for one operation (a value taken out of a tuple) that may come among them. No program is named here. -/
import Derived.Test.YtfpjiclkhjdihaaKit
import Derived.Below
namespace Go.Proofs.Ytfpjiclkhjdihaa
open Go.RowKit

/-- All that lies in w lies so in w'. -/
def R (w w' : World) : Prop := Below w.heap.size w w'
theorem R.refl (w : World) : R w w := Below.refl _ _
theorem R.trans {a b c : World} (h : R a b) (k : R b c) : R a c := Below.trans h (Below.mono k (Below.size h))
theorem R.drew (w : World) : R w w.drew := Below.drew (Below.refl _ _)
theorem R.size {a b : World} (h : R a b) : a.heap.size ≤ b.heap.size := Below.size h
def StableR (S : World → Prop) : Prop := ∀ w w', S w → R w w' → S w'

section
variable {P : Program} {ops : Array Oper} {md : Region.Mode} {W : World} {G : FuncId → Array Value → Value → Prop}

def lrUpon (P : Program) (G : FuncId → Array Value → Value → Prop) (w0 : World) (next : Value → (World → Prop) → Prop) : Result Next → Prop
  | .ok (.value u) w' => R w0 w' ∧ next u (R w')
  | .ok .skip w' => R w0 w' ∧ next undef (R w')
  | .ok (.enter f args) w' => R w0 w' ∧ Calls P f args w' (fun e w'' => ∃ u, e = .returned u ∧ G f args u ∧ R w' w'') ∧ ∀ u, G f args u → next u (fun _ => True)
  | _ => False

def lr (P : Program) (o : Oper) (a : Act) (W : World) (G : FuncId → Array Value → Value → Prop) (next : Act → (World → Prop) → Prop) (S : World → Prop) : Prop :=
  ∀ w, R W w → lrUpon P G w (fun u N => next (a.put o.dst u) (fun x => S x ∧ N x)) ((execOp a.eval o).run P w)

def wpLR (P : Program) (ops : Array Oper) (W : World) (G : FuncId → Array Value → Value → Prop) (Q : Act → (World → Prop) → Prop) : List Oper → Act → (World → Prop) → Prop
  | [], a, S => Q a S
  | o :: rest, a, S => if Region.wanted o (yielded ops a.tmps) then lr P o a W G (wpLR P ops W G Q rest) S else wpLR P ops W G Q rest (a.put o.dst undef) S

theorem wpLR_nil {Q : Act → (World → Prop) → Prop} {a : Act} {S : World → Prop} (h : Q a S) : wpLR P ops W G Q [] a S := h
theorem wpLR_plain {Q : Act → (World → Prop) → Prop} {a : Act} {S : World → Prop} {o : Oper} {rest : List Oper} (hg : o.guard = none)
    (h : ∀ K : Act → (World → Prop) → Prop, (∀ a S, wpLR P ops W G Q rest a S → K a S) → ∀ w, R W w → lrUpon P G w (fun u N => K (a.put o.dst u) (fun x => S x ∧ N x)) ((execOp a.eval o).run P w)) : wpLR P ops W G Q (o :: rest) a S := by
  unfold wpLR
  rw [if_pos (by simp [Region.wanted, hg])]
  exact h _ (fun _ _ h => h)
theorem wpLR_want {Q : Act → (World → Prop) → Prop} {a : Act} {S : World → Prop} {o : Oper} {rest : List Oper} (hw : Region.wanted o (yielded ops a.tmps) = true)
    (h : ∀ K : Act → (World → Prop) → Prop, (∀ a S, wpLR P ops W G Q rest a S → K a S) → ∀ w, R W w → lrUpon P G w (fun u N => K (a.put o.dst u) (fun x => S x ∧ N x)) ((execOp a.eval o).run P w)) : wpLR P ops W G Q (o :: rest) a S := by
  unfold wpLR
  rw [if_pos hw]
  exact h _ (fun _ _ h => h)
theorem wpLR_skip {Q : Act → (World → Prop) → Prop} {a : Act} {S : World → Prop} {o : Oper} {rest : List Oper} (hw : Region.wanted o (yielded ops a.tmps) = false)
    (h : wpLR P ops W G Q rest (a.put o.dst undef) S) : wpLR P ops W G Q (o :: rest) a S := by
  unfold wpLR
  rw [if_neg (by simp [hw])]
  exact h

def rOp (P : Program) (ops : Array Oper) (W : World) (G : FuncId → Array Value → Value → Prop) (i : Nat) (K : Act → (World → Prop) → Prop) (a : Act) (S : World → Prop) : Prop :=
  match ops[i]? with
  | none => K a S
  | some o => if Region.wanted o (yielded ops a.tmps) then lr P o a W G K S else K (a.put o.dst undef) S

theorem lrUpon_mono {w0 : World} {K K' : Value → (World → Prop) → Prop} (h : ∀ u N, K u N → K' u N) {r : Result Next} (hh : lrUpon P G w0 K r) : lrUpon P G w0 K' r := by
  cases r with
  | halt x w => exact hh
  | ok n w' => cases n <;> first | exact ⟨hh.1, h _ _ hh.2⟩ | exact ⟨hh.1, hh.2.1, fun u hu => h _ _ (hh.2.2 u hu)⟩ | exact hh

theorem lr_mono {o : Oper} {a : Act} {S : World → Prop} {K K' : Act → (World → Prop) → Prop} (h : ∀ a S, K a S → K' a S) (hh : lr P o a W G K S) : lr P o a W G K' S :=
  fun w hw => lrUpon_mono (fun _ _ hu => h _ _ hu) (hh w hw)

theorem rOp_mono {i : Nat} {a : Act} {S : World → Prop} {K K' : Act → (World → Prop) → Prop} (h : ∀ a S, K a S → K' a S) (hh : rOp P ops W G i K a S) : rOp P ops W G i K' a S := by
  unfold rOp at *
  split
  · exact h _ _ (by simpa [*] using hh)
  · rename_i o ho
    simp only [ho] at hh
    split
    · rename_i hw; simp only [hw, if_true] at hh; exact lr_mono h hh
    · rename_i hw; simp only [hw] at hh; exact h _ _ hh

theorem stable_and {S : World → Prop} (hS : StableR S) (w : World) : StableR (fun x => S x ∧ R w x) := fun _ _ h hr => ⟨hS _ _ h.1 hr, h.2.trans hr⟩
theorem stable_true {S : World → Prop} (hS : StableR S) : StableR (fun x => S x ∧ True) := fun _ _ h hr => ⟨hS _ _ h.1 hr, trivial⟩

theorem wp_of_lr {o : Oper} {a : Act} {S : World → Prop} {K : Act → (World → Prop) → Prop} {K' : Act → World → Prop} {Q' : Exit → Act → World → Prop} {w : World} (hw : R W w) (hS : S w) (hst : StableR S)
    (h : ∀ a S w', R W w' → S w' → StableR S → K a S → K' a w') (hh : lr P o a W G K S) : o.wp P a w K' Q' := by
  have h3 := hh w hw
  unfold Oper.wp
  generalize (execOp a.eval o).run P w = r at *
  cases r with
  | ok n w' =>
    cases n <;> simp only [lrUpon] at h3 <;> simp only [Oper.upon]
    case value u => exact h _ _ _ (hw.trans h3.1) ⟨hst _ _ hS h3.1, R.refl _⟩ (stable_and hst _) h3.2
    case skip => exact h _ _ _ (hw.trans h3.1) ⟨hst _ _ hS h3.1, R.refl _⟩ (stable_and hst _) h3.2
    case enter f args =>
      exact h3.2.1.mono fun e w'' ⟨u, he, hu, hw''⟩ => by
        subst he
        exact h _ _ _ (hw.trans (h3.1.trans hw'')) ⟨hst _ _ hS (h3.1.trans hw''), trivial⟩ (stable_true hst) (h3.2.2 u hu)
  | halt x w' => simp only [lrUpon] at h3

theorem wpOp_of_rOp {i : Nat} {a : Act} {S : World → Prop} {K : Act → (World → Prop) → Prop} {K' : Act → World → Prop} {Q' : Exit → Act → World → Prop} {w : World} (hC : R W w) (hS : S w) (hst : StableR S)
    (h : ∀ a S w', R W w' → S w' → StableR S → K a S → K' a w') (hh : rOp P ops W G i K a S) : wpOp P ops Q' i K' a w := by
  unfold rOp at hh
  unfold wpOp
  split
  · rename_i ho; simp only [ho] at hh; exact h _ _ _ hC hS hst hh
  · rename_i o ho
    simp only [ho] at hh
    split
    · rename_i hw; simp only [hw, if_true] at hh; exact .inl (wp_of_lr hC hS hst h hh)
    · rename_i hw; simp only [hw] at hh; exact h _ _ _ hC hS hst hh

theorem lr_some {o : Oper} {a : Act} {S : World → Prop} {K : Act → (World → Prop) → Prop} (hh : lr P o a W G K S) : ∃ (v : Value) (N : World → Prop), K (a.put o.dst v) (fun x => S x ∧ N x) := by
  have h := hh W (R.refl _)
  generalize (execOp a.eval o).run P W = r at h
  cases r with
  | halt x w' => exact h.elim
  | ok n w' =>
    cases n <;> simp only [lrUpon] at h
    case value u => exact ⟨u, _, h.2⟩
    case skip => exact ⟨undef, _, h.2⟩
    case enter f args =>
      obtain ⟨e, w1, fr, ⟨u, _, hu, _⟩, _⟩ := h.2.1 []
      exact ⟨u, _, h.2.2 u hu⟩

theorem rOp_some {i : Nat} {a : Act} {S : World → Prop} {K : Act → (World → Prop) → Prop} (hh : rOp P ops W G i K a S) : ∃ a' S', K a' S' := by
  unfold rOp at hh
  split at hh
  · exact ⟨_, _, hh⟩
  · split at hh
    · obtain ⟨v, N, hv⟩ := lr_some hh; exact ⟨_, _, hv⟩
    · exact ⟨_, _, hh⟩

theorem and_swap (S N M : World → Prop) : (fun x => (S x ∧ N x) ∧ M x) = (fun x => (S x ∧ M x) ∧ N x) := by
  funext x
  exact propext ⟨fun h => ⟨⟨h.1.1, h.2⟩, h.1.2⟩, fun h => ⟨⟨h.1.1, h.2⟩, h.1.2⟩⟩

theorem rOp_swap {i j : Nat} {oi oj : Oper} (hi : ops[i]? = some oi) (hj : ops[j]? = some oj) (hap : oi.apart ops oj = true)
    (hsi : ∀ cs b, oi.op ≠ .select cs b) (hsj : ∀ cs b, oj.op ≠ .select cs b) {K : Act → (World → Prop) → Prop} {a : Act} {S : World → Prop}
    (h : rOp P ops W G i (fun a1 S1 => rOp P ops W G j K a1 S1) a S) : rOp P ops W G j (fun a2 S2 => rOp P ops W G i K a2 S2) a S := by
  obtain ⟨h1, h2, h3⟩ := Oper.apart_spec hap
  have wj : ∀ v, Region.wanted oj (yielded ops (a.put oi.dst v).tmps) = Region.wanted oj (yielded ops a.tmps) := fun v => wanted_put oj a oi.dst v h1
  have wi : ∀ u, Region.wanted oi (yielded ops (a.put oj.dst u).tmps) = Region.wanted oi (yielded ops a.tmps) := fun u => wanted_put oi a oj.dst u h3
  have ej : ∀ v, execOp (a.put oi.dst v).eval oj = execOp a.eval oj := fun v => execOp_put oj hsj a oi.dst v h1
  have ei : ∀ u, execOp (a.put oj.dst u).eval oi = execOp a.eval oi := fun u => execOp_put oi hsi a oj.dst u h3
  have pc : ∀ v u, (a.put oi.dst v).put oj.dst u = (a.put oj.dst u).put oi.dst v := fun v u => Act.put_comm a v u h2
  unfold rOp at h ⊢
  simp only [hi, hj, wi, wj] at h ⊢
  by_cases bi : Region.wanted oi (yielded ops a.tmps) = true
  · by_cases bj : Region.wanted oj (yielded ops a.tmps) = true
    · simp only [bi, bj, if_true] at h ⊢
      have key : ∀ w, R W w → lrUpon P G w (fun u M => ∀ w1, R W w1 → lrUpon P G w1 (fun v N => K ((a.put oj.dst u).put oi.dst v) (fun x => (S x ∧ M x) ∧ N x)) ((execOp a.eval oi).run P w1)) ((execOp a.eval oj).run P w) := by
        intro w hw
        obtain ⟨v0, N0, hv0⟩ := lr_some h
        simp only [wj, bj, if_true] at hv0
        have hj0 := hv0 w hw
        rw [ej] at hj0
        have all : ∀ w1, R W w1 → lrUpon P G w1 (fun v N => lrUpon P G w (fun u M => K ((a.put oj.dst u).put oi.dst v) (fun x => (S x ∧ M x) ∧ N x)) ((execOp a.eval oj).run P w)) ((execOp a.eval oi).run P w1) := by
          intro w1 hw1
          refine lrUpon_mono (fun v N hv => ?_) (h w1 hw1)
          simp only [wj, bj, if_true] at hv
          have := hv w hw
          rw [ej] at this
          exact lrUpon_mono (fun u M hu => by rw [← pc, and_swap]; exact hu) this
        generalize (execOp a.eval oj).run P w = r at hj0 all ⊢
        cases r with
        | halt x w' => exact hj0.elim
        | ok n w' =>
          cases n with
          | value u => exact ⟨hj0.1, fun w1 hw1 => lrUpon_mono (fun v N hv => hv.2) (all w1 hw1)⟩
          | skip => exact ⟨hj0.1, fun w1 hw1 => lrUpon_mono (fun v N hv => hv.2) (all w1 hw1)⟩
          | enter f args => exact ⟨hj0.1, hj0.2.1, fun u hu w1 hw1 => lrUpon_mono (fun v N hv => hv.2.2 u hu) (all w1 hw1)⟩
          | _ => exact hj0.elim
      intro w hw
      refine lrUpon_mono (fun u M hu => ?_) (key w hw)
      simp only [wi, bi, if_true]
      intro w1 hw1
      rw [ei]
      exact hu w1 hw1
    · simp only [bi, bj, if_true] at h ⊢
      intro w hw
      rw [ei]
      exact lrUpon_mono (fun v N hv => by simp only [wj, bj] at hv; rw [← pc]; exact hv) (h w hw)
  · by_cases bj : Region.wanted oj (yielded ops a.tmps) = true
    · simp only [bi, bj, if_true] at h ⊢
      intro w hw
      have := h w hw
      rw [ej] at this
      exact lrUpon_mono (fun u N hu => by simp only [wi, bi]; rw [← pc]; exact hu) this
    · simp only [bi, bj] at h ⊢
      rw [← pc]
      exact h

def wpAnyR (P : Program) (md : Region.Mode) (ops : Array Oper) (W : World) (G : FuncId → Array Value → Value → Prop) (n : Nat) (L : Array Bool → Act → (World → Prop) → Prop) : Nat → Array Bool → Act → (World → Prop) → Prop
  | 0, listed, a, S => L listed a S
  | f + 1, listed, a, S =>
    Region.ready md ops listed ≠ [] ∧ ∀ i ∈ Region.ready md ops listed, i < n ∧ rOp P ops W G i (wpAnyR P md ops W G n L f (listed.setIfInBounds i true)) a S

theorem wpAny_of_headR {n g : Nat} {L : Array Bool → Act → (World → Prop) → Prop} {Q' : Exit → Act → World → Prop} (hL : ∀ listed a S w, R W w → S w → L listed a S → wpAny P md ops Q' g listed a w) :
    ∀ (f : Nat) (listed : Array Bool) (a : Act) (S : World → Prop) (w : World), R W w → S w → StableR S → wpAnyR P md ops W G n L f listed a S → wpAny P md ops Q' (f + g) listed a w
  | 0, listed, a, S, w, hw, hS, _, h => by rw [Nat.zero_add]; exact hL _ _ _ _ hw hS h
  | f + 1, listed, a, S, w, hw, hS, hst, h => by
    rw [show f + 1 + g = (f + g) + 1 by omega]
    exact ⟨fun h0 => absurd h0 h.1, fun i hi => wpOp_of_rOp hw hS hst (fun a' S' w' hw' hS' hst' h' => wpAny_of_headR hL f _ a' S' w' hw' hS' hst' h') (h.2 i hi).2⟩

theorem wpAnyR_first {n i : Nat} {oi : Oper} {L : Array Bool → Act → (World → Prop) → Prop} (hi : ops[i]? = some oi) (hsel : ∀ (j : Nat) (o : Oper) cs b, ops[j]? = some o → o.op ≠ .select cs b)
    (hnt : ∀ (listed : Array Bool), HeadInv md ops n listed → ∀ i, i < n → listed.getD i true = false → ∀ t, n ≤ t → t ∉ Region.ready md ops listed) (hin : i < n)
    (hdone : ∀ listed a S, L listed a S → ∀ j ∈ Region.ready md ops listed, n ≤ j) :
    ∀ (f : Nat) (listed : Array Bool) (a : Act) (S : World → Prop), HeadInv md ops n listed →
      (∀ j oj, ops[j]? = some oj → j ≠ i → listed.getD j true = false → (∀ e ∈ oj.after, Region.binds md e = true → e.on ≠ i) → oi.apart ops oj = true) →
      i ∈ Region.ready md ops listed → rOp P ops W G i (wpAnyR P md ops W G n L f (listed.setIfInBounds i true)) a S → wpAnyR P md ops W G n L (f + 1) listed a S := by
  intro f
  induction f with
  | zero =>
    intro listed a S inv _ hr H
    have hun := (mem_ready.1 hr).1
    refine ⟨fun h => (by rw [h] at hr; cases hr), fun j hj => ?_⟩
    have hjn : j < n := by
      rcases Nat.lt_or_ge j n with h | h
      · exact h
      · exact absurd hj (hnt _ inv i hin hun j h)
    refine ⟨hjn, ?_⟩
    by_cases hji : j = i
    · subst hji; exact H
    · obtain ⟨a', S', ha'⟩ := rOp_some H
      have := hdone _ _ _ ha' j (ready_mono hj hji)
      omega
  | succ f ih =>
    intro listed a S inv hfree hr H
    have hun := (mem_ready.1 hr).1
    refine ⟨fun h => (by rw [h] at hr; cases hr), fun j hj => ?_⟩
    have hjn : j < n := by
      rcases Nat.lt_or_ge j n with h | h
      · exact h
      · exact absurd hj (hnt _ inv i hin hun j h)
    refine ⟨hjn, ?_⟩
    by_cases hji : j = i
    · subst hji; exact H
    · have h1 : rOp P ops W G i (fun a1 S1 => rOp P ops W G j (wpAnyR P md ops W G n L f ((listed.setIfInBounds i true).setIfInBounds j true)) a1 S1) a S :=
        rOp_mono (fun a1 S1 h => (h.2 j (ready_mono hj hji)).2) H
      obtain ⟨hjun, oj, hoj, hall⟩ := mem_ready.1 hj
      have hnot : ∀ e ∈ oj.after, Region.binds md e = true → e.on ≠ i := fun e he hb heq => by
        have h1 := hall e he hb
        rw [heq, getD_both hun] at h1
        cases h1
      have h2 := rOp_swap hi hoj (hfree j oj hoj hji hjun hnot) (fun cs b => hsel i oi cs b hi) (fun cs b => hsel j oj cs b hoj) h1
      have hfree' : ∀ k ok, ops[k]? = some ok → k ≠ i → (listed.setIfInBounds j true).getD k true = false →
          (∀ e ∈ ok.after, Region.binds md e = true → e.on ≠ i) → oi.apart ops ok = true := fun k ok hk hki hun hno => by
        refine hfree k ok hk hki ?_ hno
        by_cases hjk : j = k
        · subst hjk; exact hjun
        · rw [getD_set_ne true hjk] at hun; exact hun
      refine rOp_mono (fun a' S' h3 => ih (listed.setIfInBounds j true) a' S' (inv.set hj hjn) hfree' (ready_mono hr (Ne.symm hji)) ?_) h2
      rw [Array.setIfInBounds_comm _ _ hji]
      exact h3

theorem wpAnyR_lex {n : Nat} (done : Array Bool → Prop) {Lq : Act → (World → Prop) → Prop} (hsel : Region.noSelect ops = true)
    (hnt : ∀ (listed : Array Bool), HeadInv md ops n listed → ∀ i, i < n → listed.getD i true = false → ∀ t, n ≤ t → t ∉ Region.ready md ops listed)
    (hdone : ∀ listed, done listed → ∀ j ∈ Region.ready md ops listed, n ≤ j) (lex : Nat → Nat → Array Bool → Bool)
    (hlex0 : ∀ k listed, lex 0 k listed = true → k = n → done listed)
    (hlex : ∀ f k listed, lex (f + 1) k listed = true → (Region.ready md ops listed).contains k = true ∧ Region.free md ops listed k = true ∧ lex f (k + 1) (listed.setIfInBounds k true) = true) :
    ∀ (l : List Oper) (k : Nat) (listed : Array Bool) (a : Act) (S : World → Prop), (∀ j, j < l.length → l[j]? = ops[k + j]?) → k + l.length = n → HeadInv md ops n listed →
    lex l.length k listed = true → wpLR P ops W G Lq l a S →
    wpAnyR P md ops W G n (fun listed' a' S' => done listed' ∧ Lq a' S') l.length listed a S
  | [], k, listed, a, S, _, hk, _, hB, h => ⟨hlex0 _ _ hB (by simpa using hk), h⟩
  | o :: l, k, listed, a, S, hl, hk, inv, hB, h => by
    have h0 : ops[k]? = some o := by simpa using (hl 0 (by simp)).symm
    obtain ⟨hr, hf, hB'⟩ := hlex _ _ _ hB
    have hkn : k < n := by simp only [List.length_cons] at hk; omega
    have hr' : k ∈ Region.ready md ops listed := by simpa using hr
    have hst : rOp P ops W G k (wpLR P ops W G Lq l) a S := by unfold rOp; simp only [h0]; exact h
    exact wpAnyR_first h0 (Region.noSelect_spec hsel) hnt hkn (fun listed' a' S' hL => hdone _ hL.1) l.length listed a S inv (Region.free_spec h0 hf) hr'
      (rOp_mono (fun a' S' h' => wpAnyR_lex done hsel hnt hdone lex hlex0 hlex l (k + 1) _ a' S' (fun j hj => by have := hl (j + 1) (by simp; omega); simpa [Nat.add_assoc, Nat.add_comm 1 j] using this) (by simp only [List.length_cons] at hk; omega) (inv.set hr' hkn) hB' h') hst)

/-- A region whose last operations, from number n on, come in one forced order. -/
theorem wp_region_lr_tail {id : Nat} {Q : Exit → Act → World → Prop} {a : Act} {w : World} {l : List Oper} (n : Nat) (G : FuncId → Array Value → Value → Prop) (hm : P.follows .mixedOrders = true) (hB : Region.lexTailB .any l.toArray n = true)
    (h : wpLR P l.toArray w G (fun a' S => ∀ w', R w w' → S w' → wpList P l.toArray Q (l.drop n) a' w') (l.take n) a (fun _ => True)) : (Code.region id l.toArray true).wp P Q a w := by
  simp only [Region.lexTailB, Bool.and_eq_true, decide_eq_true_eq] at hB
  obtain ⟨⟨⟨⟨hsel, hn⟩, hs⟩, hc⟩, hlex⟩ := hB
  have hn' : n < l.length := by simpa using hn
  have htl : (l.take n).length = n := by simp; omega
  have hdl : (l.drop n).length = l.toArray.size - n := by simp
  have inv0 : HeadInv .any l.toArray n (Array.replicate l.toArray.size false) :=
    ⟨by simp, fun j oj _ hl => (by rw [getD_replicate_false] at hl; cases hl), fun t _ ht => getD_in (by simpa using ht) (getD_replicate_false _ _)⟩
  have H := wpAnyR_lex (md := .any) (fun listed => Region.seqB .any l.toArray (l.toArray.size - n) n listed = true) hsel (fun listed inv i hi hun t ht => tail_waits hs hc hn inv _ i rfl hi hun t ht) (fun listed h => seqB_ready h)
    (Region.lexHead .any l.toArray (l.toArray.size - n)) (fun k listed h hk => by subst hk; simpa [Region.lexHead] using h) (fun f k listed h => by simp only [Region.lexHead, Bool.and_eq_true] at h; exact ⟨h.1.1, h.1.2, h.2⟩)
    (l.take n) 0 _ a _ (fun j hj => by
      have hj' : j < n := by rw [htl] at hj; exact hj
      simp [hj']) (by simpa using htl) inv0 (by rw [htl]; exact hlex) h
  refine wp_region_any hm ?_
  have := wpAny_of_headR (Q' := Q) (g := l.toArray.size - n) (fun listed a' S' w' hw' hS' hL => by
    have := wpAny_of_seq (md := .any) (Q' := Q) (l.drop n) n listed a' w' (fun j => by simp [List.getElem?_drop]) (by rw [hdl]; exact hL.1) (hL.2 w' hw' hS')
    rwa [hdl] at this) _ _ _ _ _ (R.drew w) trivial (fun _ _ _ _ => trivial) H
  rw [htl, show n + (l.toArray.size - n) = l.toArray.size by omega] at this
  exact this

/-- A region all of whose operations may come in whatever order their edges allow. -/
theorem wp_region_lr {id : Nat} {Q : Exit → Act → World → Prop} {a : Act} {w : World} {l : List Oper} (G : FuncId → Array Value → Value → Prop) (hm : P.follows .mixedOrders = true) (hB : Region.lexB .any l.toArray = true)
    (h : wpLR P l.toArray w G (fun a' S => ∀ w', R w w' → S w' → Q .normal a' w') l a (fun _ => True)) : (Code.region id l.toArray true).wp P Q a w := by
  simp only [Region.lexB, Bool.and_eq_true] at hB
  have inv0 : HeadInv .any l.toArray l.length (Array.replicate l.toArray.size false) :=
    ⟨by simp, fun j oj _ hl => (by rw [getD_replicate_false] at hl; cases hl), fun t _ ht => getD_in (by simpa using ht) (getD_replicate_false _ _)⟩
  have hbig : ∀ (listed : Array Bool) (t : Nat), t ∈ Region.ready .any l.toArray listed → t < l.length := fun listed t ht => by
    obtain ⟨_, o, ho, _⟩ := mem_ready.1 ht
    simpa using (Array.getElem?_eq_some_iff.1 ho).1
  have H := wpAnyR_lex (md := .any) (W := w) (G := G) (n := l.length) (fun listed => Region.ready .any l.toArray listed = []) hB.1 (fun listed _ i _ _ t ht hr => by have := hbig listed t hr; omega) (fun listed h j hj => by rw [h] at hj; cases hj)
    (Region.lexFrom .any l.toArray) (fun k listed h _ => by simpa [Region.lexFrom] using h) (fun f k listed h => by simp only [Region.lexFrom, Bool.and_eq_true] at h; exact ⟨h.1.1, h.1.2, h.2⟩)
    l 0 _ a _ (fun j hj => by simp) (by simp) inv0 (by simpa using hB.2) h
  refine wp_region_any hm ?_
  have := wpAny_of_headR (Q' := Q) (g := 0) (fun listed a' S' w' hw' hS' hL => (⟨hL.1, hL.2 w' hw' hS'⟩ : wpAny P .any l.toArray Q 0 listed a' w')) _ _ _ _ _ (R.drew w) trivial (fun _ _ _ _ => trivial) H
  simpa using this

theorem lrUpon_load {o : Oper} {a : Act} {w : World} {ty : TypeId} {x : Operand} {next : Value → (World → Prop) → Prop} (ho : o.op = .load ty x) (g : Nat) (hx : a.eval x = .pointer (some ⟨g, 0, none⟩)) (t : TypeId) (cs : Array Value) (fr : Nat × Nat) (d : TypeDesc) (hg : w.heap[g]? = some (.cells cs t fr))
    (hu : P.underlying ty = some d) (hd : (match d with | .struct _ | .array _ _ => true | _ => false) = true) (hi : (P.info? ty).map (·.size) = some cs.size) (h : ∀ N, next (.agg cs) N) : lrUpon P G w next ((execOp a.eval o).run P w) := by
  unfold execOp
  simp only [ho, hx, Instr.loadAt, Instr.sureAddr, Sem.run_bind, Sem.run_pure, Result.andThen_ok, run_loadVar_row w g t ty cs fr d hg hu hd hi]
  exact ⟨R.refl _, h _⟩

end
end Go.Proofs.Ytfpjiclkhjdihaa

namespace Go.Proofs.Ytfpjiclkhjdihaa
open Go.RowKit

section
variable {P : Program} {ops : Array Oper} {W : World} {C : World → Prop} {G : FuncId → Array Value → Value → Prop}
/-- A walk over a region that may lay blocks, shut. -/
structure HR (P : Program) (ops : Array Oper) (W : World) (G : FuncId → Array Value → Value → Prop) (Q : Act → (World → Prop) → Prop) (l : List Oper) (a : Act) (S : World → Prop) : Prop where
  out : wpLR P ops W G Q l a S
section
variable {Q : Act → (World → Prop) → Prop} {a : Act} {S : World → Prop} {o : Oper} {rest : List Oper}
theorem hr_nil (h : Q a S) : HR P ops W G Q [] a S := ⟨wpLR_nil h⟩
theorem hr_plain (hg : o.guard = none) (h : ∀ K : Act → (World → Prop) → Prop, (∀ a S, HR P ops W G Q rest a S → K a S) → ∀ w, R W w → lrUpon P G w (fun u N => K (a.put o.dst u) (fun x => S x ∧ N x)) ((execOp a.eval o).run P w)) : HR P ops W G Q (o :: rest) a S :=
  ⟨wpLR_plain hg fun K hK w hw => h K (fun a S x => hK a S x.out) w hw⟩
theorem hr_want (hg : Region.wanted o (yielded ops a.tmps) = true) (h : ∀ K : Act → (World → Prop) → Prop, (∀ a S, HR P ops W G Q rest a S → K a S) → ∀ w, R W w → lrUpon P G w (fun u N => K (a.put o.dst u) (fun x => S x ∧ N x)) ((execOp a.eval o).run P w)) : HR P ops W G Q (o :: rest) a S :=
  ⟨wpLR_want hg fun K hK w hw => h K (fun a S x => hK a S x.out) w hw⟩
theorem hr_skip (hg : Region.wanted o (yielded ops a.tmps) = false) (h : HR P ops W G Q rest (a.put o.dst undef) S) : HR P ops W G Q (o :: rest) a S := ⟨wpLR_skip hg h.out⟩
end
theorem wp_region_hr {id : Nat} {Q : Exit → Act → World → Prop} {a : Act} {w : World} {l : List Oper} (G : FuncId → Array Value → Value → Prop) (hm : P.follows .mixedOrders = true) (hB : Region.lexB .any l.toArray = true)
    (h : HR P l.toArray w G (fun a' S => ∀ w', R w w' → S w' → Q .normal a' w') l a (fun _ => True)) : (Code.region id l.toArray true).wp P Q a w := wp_region_lr G hm hB h.out

/-- A walk over a region that draws alone, shut. -/
structure HL (P : Program) (ops : Array Oper) (C : World → Prop) (G : FuncId → Array Value → Value → Prop) (Q : Act → Prop) (l : List Oper) (a : Act) : Prop where
  out : wpLoose P ops C G Q l a
section
variable {Q : Act → Prop} {a : Act} {o : Oper} {rest : List Oper}
theorem hl_nil (h : Q a) : HL P ops C G Q [] a := ⟨wpLoose_nil h⟩
theorem hl_plain (hg : o.guard = none) (h : ∀ K : Act → Prop, (∀ a, HL P ops C G Q rest a → K a) → ∀ w, C w → looseUpon P C G (fun u => K (a.put o.dst u)) ((execOp a.eval o).run P w)) : HL P ops C G Q (o :: rest) a :=
  ⟨wpLoose_plain hg fun K hK w hw => h K (fun a x => hK a x.out) w hw⟩
theorem hl_want (hg : Region.wanted o (yielded ops a.tmps) = true) (h : ∀ K : Act → Prop, (∀ a, HL P ops C G Q rest a → K a) → ∀ w, C w → looseUpon P C G (fun u => K (a.put o.dst u)) ((execOp a.eval o).run P w)) : HL P ops C G Q (o :: rest) a :=
  ⟨wpLoose_want hg fun K hK w hw => h K (fun a x => hK a x.out) w hw⟩
theorem hl_skipE {a' : Act} (hg : Region.wanted o (yielded ops a.tmps) = false) (ha : a.put o.dst undef = a') (h : HL P ops C G Q rest a') : HL P ops C G Q (o :: rest) a := ⟨wpLoose_skip hg (ha ▸ h.out)⟩
theorem hl_skip (hg : Region.wanted o (yielded ops a.tmps) = false) (h : HL P ops C G Q rest (a.put o.dst undef)) : HL P ops C G Q (o :: rest) a := ⟨wpLoose_skip hg h.out⟩
end
theorem wp_region_hl {id : Nat} {Q : Exit → Act → World → Prop} {a : Act} {w : World} {l : List Oper} (C : World → Prop) (G : FuncId → Array Value → Value → Prop) (hm : P.follows .mixedOrders = true) (hB : Region.lexB .any l.toArray = true) (hC : C w.drew)
    (h : HL P l.toArray C G (fun a' => ∀ w', C w' → Q .normal a' w') l a) : (Code.region id l.toArray true).wp P Q a w := wp_region_loose_lit C G hm hB hC h.out
end
end Go.Proofs.Ytfpjiclkhjdihaa

namespace Go.Proofs.Ytfpjiclkhjdihaa
open Go.RowKit

section
variable {P : Program} {ops : Array Oper} {md : Region.Mode} {W : World} {G : FuncId → Array Value → Value → Prop}

def sinkE (md : Region.Mode) (ops : Array Oper) (n E : Nat) : Bool := (List.range n).all fun i => i == E || (List.range (n + 1)).any fun j => decide (i < j) && j != E && Region.waitsFor md ops j i
/-- The late operation: a value out of a tuple; it waits for earlier ones alone; a last one waits for it or is apart from it. -/
def lateB (md : Region.Mode) (ops : Array Oper) (n E : Nat) : Bool :=
  decide (E < n) && match ops[E]? with
    | some o => (match o.op with | .extract _ _ => true | _ => false) && o.guard.isNone && o.after.all (fun e => !Region.binds md e || (decide (e.on < n) && e.on != E))
        && (List.range ops.size).all fun j => decide (j < n) || Region.waitsFor md ops j E || match ops[j]? with | some oj => o.apart ops oj | none => true
    | none => false

theorem tail_waitsE {n E : Nat} {listed : Array Bool} (hs : sinkE md ops n E = true) (hc : Region.chainB md ops n = true) (hn : n < ops.size) (inv : HeadInv md ops n listed) :
    ∀ (d i : Nat), n - i = d → i < n → i ≠ E → listed.getD i true = false → ∀ t, n ≤ t → t ∉ Region.ready md ops listed := by
  intro d
  induction d using Nat.strongRecOn with
  | _ d ih =>
    intro i hd hi hiE hun t ht hr
    obtain ⟨_, ot, hot, hall⟩ := mem_ready.1 hr
    have htlt : t < ops.size := (Array.getElem?_eq_some_iff.1 hot).1
    by_cases htn : t = n
    · subst htn
      have h1 := List.all_eq_true.1 hs i (List.mem_range.2 hi)
      simp only [Bool.or_eq_true, beq_iff_eq, hiE, false_or] at h1
      obtain ⟨j, hj, hj2⟩ := List.any_eq_true.1 h1
      simp only [Bool.and_eq_true, decide_eq_true_eq, bne_iff_ne, ne_eq] at hj2
      obtain ⟨oj, hoj, e, he, hb, hon⟩ := Region.waitsFor_spec hj2.2
      have hjle : j ≤ t := by have := List.mem_range.1 hj; omega
      by_cases hjt : j = t
      · subst hjt
        have : oj = ot := Option.some.inj (hoj.symm.trans hot)
        subst this
        have h2 := hall e he hb
        rw [hon, getD_both hun] at h2
        cases h2
      · cases hl : listed.getD j false with
        | true =>
          have h2 := inv.closed j oj hoj hl e he hb
          rw [hon, getD_both hun] at h2
          cases h2
        | false =>
          have hjs : j < listed.size := by rw [inv.size]; omega
          exact ih (t - j) (by omega) j rfl (by omega) hj2.1.2 (getD_in hjs hl) t (Nat.le_refl _) hr
    · have h1 := List.all_eq_true.1 hc t (List.mem_range.2 htlt)
      simp only [Bool.or_eq_true, decide_eq_true_eq] at h1
      rcases h1 with h1 | h1
      · omega
      · obtain ⟨o', ho', e, he, hb, hon⟩ := Region.waitsFor_spec h1
        have : o' = ot := Option.some.inj (ho'.symm.trans hot)
        subst this
        have h2 := hall e he hb
        rw [hon, getD_both (inv.tail (t - 1) (by omega) (by omega))] at h2
        cases h2

def Ez (n E : Nat) (listed : Array Bool) : Prop := listed.getD E true = false ∧ ∀ j, j < n → j ≠ E → listed.getD j true = true
theorem ez_of_ready {n E : Nat} {listed : Array Bool} (hs : sinkE md ops n E = true) (hc : Region.chainB md ops n = true) (hn : n < ops.size) (inv : HeadInv md ops n listed) {i : Nat} (hi : i < n) (hun : listed.getD i true = false) {t : Nat} (ht : n ≤ t)
    (hr : t ∈ Region.ready md ops listed) : Ez n E listed := by
  have h : ∀ j, j < n → j ≠ E → listed.getD j true = true := fun j hj hjE => by
    cases hl : listed.getD j true with
    | true => rfl
    | false => exact absurd hr (tail_waitsE hs hc hn inv _ j rfl hj hjE hl t ht)
  refine ⟨?_, h⟩
  by_cases hiE : i = E
  · subst hiE; exact hun
  · rw [h i hi hiE] at hun; cases hun

def wpAnyE (P : Program) (md : Region.Mode) (ops : Array Oper) (W : World) (G : FuncId → Array Value → Value → Prop) (n E : Nat) (L : Array Bool → Act → (World → Prop) → Prop) : Nat → Array Bool → Act → (World → Prop) → Prop
  | 0, listed, a, S => L listed a S
  | f + 1, listed, a, S =>
    Region.ready md ops listed ≠ [] ∧ ∀ i ∈ Region.ready md ops listed, (i < n ∧ rOp P ops W G i (wpAnyE P md ops W G n E L f (listed.setIfInBounds i true)) a S) ∨ (n ≤ i ∧ Ez n E listed)

theorem instr_extract_run (u : Value) (k : Nat) : (∃ v, ∀ w, (Instr.extract u k).run P w = .ok v w) ∨ ∃ m, Instr.extract u k = stuck m := by
  unfold Instr.extract
  split
  · split
    · exact .inl ⟨_, fun _ => rfl⟩
    · exact .inr ⟨_, rfl⟩
  · exact .inr ⟨_, rfl⟩
theorem extract_run {o : Oper} {a : Act} {x : Operand} {k : Nat} (ho : o.op = .extract x k) : (∃ v, ∀ w, (execOp a.eval o).run P w = .ok (.value v) w) ∨ ∀ w m w', (execOp a.eval o).run P w ≠ .ok m w' := by
  have hq : execOp a.eval o = (do pure (.value (← Instr.extract (a.eval x) k))) := by unfold execOp; simp only [ho]
  rw [hq]
  rcases instr_extract_run (P := P) (a.eval x) k with ⟨v, hv⟩ | ⟨m, hm⟩
  · refine .inl ⟨v, fun w => ?_⟩
    rw [Sem.run_bind, hv w]
    rfl
  · refine .inr fun w m' w' h => ?_
    rw [hm, Sem.run_bind] at h
    cases h

theorem wpAny_of_headE {n g E : Nat} {oE : Oper} {x : Operand} {k : Nat} {L : Array Bool → Act → (World → Prop) → Prop} {Q' : Exit → Act → World → Prop} (hn : n < ops.size) (hoE : ops[E]? = some oE) (hEn : E < n) (hx : oE.op = .extract x k) (hg : oE.guard = none)
    (hed : ∀ e ∈ oE.after, Region.binds md e = true → e.on < n ∧ e.on ≠ E) (hfr : ∀ j oj, n ≤ j → ops[j]? = some oj → (∀ e ∈ oj.after, Region.binds md e = true → e.on ≠ E) → oE.apart ops oj = true)
    (hsel : ∀ (j : Nat) (o : Oper) cs b, ops[j]? = some o → o.op ≠ .select cs b) (hQ : ∀ c a v w, Q' (.panic c) (a.put oE.dst v) w → Q' (.panic c) a w)
    (hL : ∀ listed a S w, R W w → S w → L listed a S → wpAny P md ops Q' g listed a w) :
    ∀ (f : Nat) (listed : Array Bool) (a : Act) (S : World → Prop) (w : World), HeadInv md ops n listed → R W w → S w → StableR S → wpAnyE P md ops W G n E L f listed a S → wpAny P md ops Q' (f + g) listed a w
  | 0, listed, a, S, w, _, hw, hS, _, h => by rw [Nat.zero_add]; exact hL _ _ _ _ hw hS h
  | f + 1, listed, a, S, w, inv, hw, hS, hst, h => by
    rw [show f + 1 + g = (f + g) + 1 by omega]
    by_cases hz : Ez n E listed
    · have hlt : ∀ j, j < n → j ≠ E → listed.getD j false = true := fun j hj hjE => by
        cases hl : listed.getD j false with
        | true => rfl
        | false =>
          have hjs : j < listed.size := by rw [inv.size]; omega
          have := getD_in hjs hl
          rw [hz.2 j hj hjE] at this
          cases this
      have hre : E ∈ Region.ready md ops listed := mem_ready.2 ⟨hz.1, oE, hoE, fun e he hb => hlt _ (hed e he hb).1 (hed e he hb).2⟩
      rcases h.2 E hre with ⟨_, hop⟩ | ⟨h1, _⟩
      · unfold rOp at hop
        simp only [hoE] at hop
        have hwant : Region.wanted oE (yielded ops a.tmps) = true := by simp [Region.wanted, hg]
        rw [if_pos hwant] at hop
        have h3 := hop w hw
        rcases extract_run (P := P) (a := a) hx with ⟨v, hv⟩ | hno
        · rw [hv w] at h3
          have h4 := wpAny_of_headE hn hoE hEn hx hg hed hfr hsel hQ hL f _ _ _ w (inv.set hre hEn) hw ⟨hS, R.refl w⟩ (stable_and hst w) h3.2
          refine wpAny_first hoE hsel (fun c a w => hQ c a v w) (f + g) listed a w (fun j oj hj hjE hun hno => ?_) hre (.inl ⟨hwant, hv⟩) h4
          rcases Nat.lt_or_ge j n with hjn | hjn
          · rw [hz.2 j hjn hjE] at hun; cases hun
          · exact hfr j oj hjn hj hno
        · exfalso
          generalize hr : (execOp a.eval oE).run P w = r at h3
          cases r with
          | ok m w' => exact hno w m w' hr
          | halt e w' => exact h3
      · omega
    · exact ⟨fun h0 => absurd h0 h.1, fun i hi => by
        rcases h.2 i hi with ⟨hin, hop⟩ | ⟨_, h1⟩
        · exact wpOp_of_rOp hw hS hst (fun a' S' w' hw' hS' hst' h' => wpAny_of_headE hn hoE hEn hx hg hed hfr hsel hQ hL f _ a' S' w' (inv.set hi hin) hw' hS' hst' h') hop
        · exact absurd h1 hz⟩

theorem wpAnyE_first {n E i : Nat} {oi : Oper} {L : Array Bool → Act → (World → Prop) → Prop} (hi : ops[i]? = some oi) (hsel : ∀ (j : Nat) (o : Oper) cs b, ops[j]? = some o → o.op ≠ .select cs b)
    (hnt : ∀ (listed : Array Bool), HeadInv md ops n listed → ∀ i, i < n → listed.getD i true = false → ∀ t, n ≤ t → t ∈ Region.ready md ops listed → Ez n E listed) (hin : i < n)
    (hdone : ∀ listed a S, L listed a S → ∀ j ∈ Region.ready md ops listed, n ≤ j) :
    ∀ (f : Nat) (listed : Array Bool) (a : Act) (S : World → Prop), HeadInv md ops n listed →
      (∀ j oj, ops[j]? = some oj → j ≠ i → listed.getD j true = false → (∀ e ∈ oj.after, Region.binds md e = true → e.on ≠ i) → oi.apart ops oj = true) →
      i ∈ Region.ready md ops listed → rOp P ops W G i (wpAnyE P md ops W G n E L f (listed.setIfInBounds i true)) a S → wpAnyE P md ops W G n E L (f + 1) listed a S := by
  intro f
  induction f with
  | zero =>
    intro listed a S inv _ hr H
    have hun := (mem_ready.1 hr).1
    refine ⟨fun h => (by rw [h] at hr; cases hr), fun j hj => ?_⟩
    rcases Nat.lt_or_ge j n with hjn | hjn
    · refine .inl ⟨hjn, ?_⟩
      by_cases hji : j = i
      · subst hji; exact H
      · obtain ⟨a', S', ha'⟩ := rOp_some H
        have := hdone _ _ _ ha' j (ready_mono hj hji)
        omega
    · exact .inr ⟨hjn, hnt _ inv i hin hun j hjn hj⟩
  | succ f ih =>
    intro listed a S inv hfree hr H
    have hun := (mem_ready.1 hr).1
    refine ⟨fun h => (by rw [h] at hr; cases hr), fun j hj => ?_⟩
    rcases Nat.lt_or_ge j n with hjn | hjn
    · refine .inl ⟨hjn, ?_⟩
      by_cases hji : j = i
      · subst hji; exact H
      · have h1 : rOp P ops W G i (fun a1 S1 => rOp P ops W G j (wpAnyE P md ops W G n E L f ((listed.setIfInBounds i true).setIfInBounds j true)) a1 S1) a S :=
          rOp_mono (fun a1 S1 h => ((h.2 j (ready_mono hj hji)).resolve_right (fun hr => by omega)).2) H
        obtain ⟨hjun, oj, hoj, hall⟩ := mem_ready.1 hj
        have hnot : ∀ e ∈ oj.after, Region.binds md e = true → e.on ≠ i := fun e he hb heq => by
          have h1 := hall e he hb
          rw [heq, getD_both hun] at h1
          cases h1
        have h2 := rOp_swap hi hoj (hfree j oj hoj hji hjun hnot) (fun cs b => hsel i oi cs b hi) (fun cs b => hsel j oj cs b hoj) h1
        have hfree' : ∀ k ok, ops[k]? = some ok → k ≠ i → (listed.setIfInBounds j true).getD k true = false →
            (∀ e ∈ ok.after, Region.binds md e = true → e.on ≠ i) → oi.apart ops ok = true := fun k ok hk hki hun hno => by
          refine hfree k ok hk hki ?_ hno
          by_cases hjk : j = k
          · subst hjk; exact hjun
          · rw [getD_set_ne true hjk] at hun; exact hun
        refine rOp_mono (fun a' S' h3 => ih (listed.setIfInBounds j true) a' S' (inv.set hj hjn) hfree' (ready_mono hr (Ne.symm hji)) ?_) h2
        rw [Array.setIfInBounds_comm _ _ hji]
        exact h3
    · exact .inr ⟨hjn, hnt _ inv i hin hun j hjn hj⟩

theorem wpAnyE_lex {n E : Nat} (done : Array Bool → Prop) {Lq : Act → (World → Prop) → Prop} (hsel : Region.noSelect ops = true)
    (hnt : ∀ (listed : Array Bool), HeadInv md ops n listed → ∀ i, i < n → listed.getD i true = false → ∀ t, n ≤ t → t ∈ Region.ready md ops listed → Ez n E listed)
    (hdone : ∀ listed, done listed → ∀ j ∈ Region.ready md ops listed, n ≤ j) (lex : Nat → Nat → Array Bool → Bool)
    (hlex0 : ∀ k listed, lex 0 k listed = true → k = n → done listed)
    (hlex : ∀ f k listed, lex (f + 1) k listed = true → (Region.ready md ops listed).contains k = true ∧ Region.free md ops listed k = true ∧ lex f (k + 1) (listed.setIfInBounds k true) = true) :
    ∀ (l : List Oper) (k : Nat) (listed : Array Bool) (a : Act) (S : World → Prop), (∀ j, j < l.length → l[j]? = ops[k + j]?) → k + l.length = n → HeadInv md ops n listed →
    lex l.length k listed = true → wpLR P ops W G Lq l a S →
    wpAnyE P md ops W G n E (fun listed' a' S' => done listed' ∧ Lq a' S') l.length listed a S
  | [], k, listed, a, S, _, hk, _, hB, h => ⟨hlex0 _ _ hB (by simpa using hk), h⟩
  | o :: l, k, listed, a, S, hl, hk, inv, hB, h => by
    have h0 : ops[k]? = some o := by simpa using (hl 0 (by simp)).symm
    obtain ⟨hr, hf, hB'⟩ := hlex _ _ _ hB
    have hkn : k < n := by simp only [List.length_cons] at hk; omega
    have hr' : k ∈ Region.ready md ops listed := by simpa using hr
    have hst : rOp P ops W G k (wpLR P ops W G Lq l) a S := by unfold rOp; simp only [h0]; exact h
    exact wpAnyE_first h0 (Region.noSelect_spec hsel) hnt hkn (fun listed' a' S' hL => hdone _ hL.1) l.length listed a S inv (Region.free_spec h0 hf) hr'
      (rOp_mono (fun a' S' h' => wpAnyE_lex done hsel hnt hdone lex hlex0 hlex l (k + 1) _ a' S' (fun j hj => by have := hl (j + 1) (by simp; omega); simpa [Nat.add_assoc, Nat.add_comm 1 j] using this) (by simp only [List.length_cons] at hk; omega) (inv.set hr' hkn) hB' h') hst)

def lateTailB (md : Region.Mode) (ops : Array Oper) (n E : Nat) : Bool :=
  Region.noSelect ops && decide (n < ops.size) && sinkE md ops n E && Region.chainB md ops n && Region.lexHead md ops (ops.size - n) n 0 (Array.replicate ops.size false) && lateB md ops n E

/-- A region whose last operations, from number n on, come in one forced order, but for number E, which may come among them. -/
theorem wp_region_lr_late {id : Nat} {Q : Exit → Act → World → Prop} {a : Act} {w : World} {l : List Oper} (n E : Nat) (G : FuncId → Array Value → Value → Prop) (hm : P.follows .mixedOrders = true) (hB : lateTailB .any l.toArray n E = true)
    (hQ : ∀ c a d v w, Q (.panic c) (Act.put a d v) w → Q (.panic c) a w)
    (h : wpLR P l.toArray w G (fun a' S => ∀ w', R w w' → S w' → wpList P l.toArray Q (l.drop n) a' w') (l.take n) a (fun _ => True)) : (Code.region id l.toArray true).wp P Q a w := by
  simp only [lateTailB, Bool.and_eq_true, decide_eq_true_eq] at hB
  obtain ⟨⟨⟨⟨⟨hsel, hn⟩, hs⟩, hc⟩, hlex⟩, hlate⟩ := hB
  simp only [lateB, Bool.and_eq_true, decide_eq_true_eq] at hlate
  obtain ⟨hEn, hlate⟩ := hlate
  have hn' : n < l.length := by simpa using hn
  have htl : (l.take n).length = n := by simp; omega
  have hdl : (l.drop n).length = l.toArray.size - n := by simp
  have inv0 : HeadInv .any l.toArray n (Array.replicate l.toArray.size false) :=
    ⟨by simp, fun j oj _ hl => (by rw [getD_replicate_false] at hl; cases hl), fun t _ ht => getD_in (by simpa using ht) (getD_replicate_false _ _)⟩
  have H := wpAnyE_lex (E := E) (md := .any) (fun listed => Region.seqB .any l.toArray (l.toArray.size - n) n listed = true) hsel (fun listed inv i hi hun t ht hr => ez_of_ready hs hc hn inv hi hun ht hr) (fun listed h => seqB_ready h)
    (Region.lexHead .any l.toArray (l.toArray.size - n)) (fun k listed h hk => by subst hk; simpa [Region.lexHead] using h) (fun f k listed h => by simp only [Region.lexHead, Bool.and_eq_true] at h; exact ⟨h.1.1, h.1.2, h.2⟩)
    (l.take n) 0 _ a _ (fun j hj => by
      have hj' : j < n := by rw [htl] at hj; exact hj
      simp [hj']) (by simpa using htl) inv0 (by rw [htl]; exact hlex) h
  refine wp_region_any hm ?_
  obtain ⟨oE, hoE⟩ : ∃ o, l.toArray[E]? = some o := by
    cases ho : l.toArray[E]? with
    | some o => exact ⟨o, rfl⟩
    | none => rw [Array.getElem?_eq_none_iff] at ho; simp at ho; omega
  rw [hoE] at hlate
  simp only [Bool.and_eq_true] at hlate
  obtain ⟨⟨⟨hex, hgd⟩, hed⟩, hfr⟩ := hlate
  obtain ⟨x, k, hx⟩ : ∃ x k, oE.op = .extract x k := by
    cases ho : oE.op <;> rw [ho] at hex <;> first | exact ⟨_, _, rfl⟩ | cases hex
  have := wpAny_of_headE (Q' := Q) (g := l.toArray.size - n) hn hoE hEn hx (by simpa using hgd)
    (fun e he hb => by
      have h1 := (Array.all_eq_true_iff_forall_mem.1 hed) e he
      simpa [hb] using h1)
    (fun j oj hj hoj hno => by
      have h1 := List.all_eq_true.1 hfr j (List.mem_range.2 (Array.getElem?_eq_some_iff.1 hoj).1)
      simp only [Bool.or_eq_true, decide_eq_true_eq, hoj] at h1
      rcases h1 with (h1 | h1) | h1
      · omega
      · obtain ⟨o', ho', e, he, hb, hon⟩ := Region.waitsFor_spec h1
        have : o' = oj := Option.some.inj (ho'.symm.trans hoj)
        subst this
        exact absurd hon (hno e he hb)
      · exact h1)
    (Region.noSelect_spec hsel) (fun c a v w => hQ c a _ v w)
    (fun listed a' S' w' hw' hS' hL => by
      have := wpAny_of_seq (md := .any) (Q' := Q) (l.drop n) n listed a' w' (fun j => by simp [List.getElem?_drop]) (by rw [hdl]; exact hL.1) (hL.2 w' hw' hS')
      rwa [hdl] at this) _ _ _ _ _ inv0 (R.drew w) trivial (fun _ _ _ _ => trivial) H
  rw [htl, show n + (l.toArray.size - n) = l.toArray.size by omega] at this
  exact this
end
end Go.Proofs.Ytfpjiclkhjdihaa
