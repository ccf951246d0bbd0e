/- A region that draws its order, where each operation, from whatever world of an invariant, yields one value and leaves the invariant: one walk in the text's order serves all orders. After the library's own 'still' regions (there the invariant is 'the very same world'). -/
import Derived.Still
import Derived.Tactics
import Derived.KernelRfl
import Derived.Test.YtdlfdkdcnabpoaaDoorOwn
namespace Go.Proofs.YtdlfdkdcnabpoaaDoor.Own
open Go.RowKit
section
variable {P : Program} {ops : Array Oper} {md : Region.Mode} {I : World → Prop}

/-- What an operation comes to: the value v, the invariant behind it. -/
def gives (P : Program) (I : World → Prop) (v : Value) : Result Next → Prop
  | .ok (.value u) w' => u = v ∧ I w'
  | .ok .skip w' => undef = v ∧ I w'
  | .ok (.enter f args) w' => Calls P f args w' (fun e w'' => e = .returned v ∧ I w'')
  | _ => False
theorem gives_value (v u : Value) (w : World) : gives P I v (.ok (.value u) w) = (u = v ∧ I w) := rfl
theorem gives_skip (v : Value) (w : World) : gives P I v (.ok .skip w) = (undef = v ∧ I w) := rfl
theorem gives_enter (v : Value) (f : FuncId) (args : Array Value) (w : World) : gives P I v (.ok (.enter f args) w) = Calls P f args w (fun e w'' => e = .returned v ∧ I w'') := rfl

/-- From whatever world of the invariant an operation that runs yields v. -/
def yieldsI (P : Program) (I : World → Prop) (o : Oper) (a : Act) (v : Value) : Prop := ∀ w, I w → gives P I v ((execOp a.eval o).run P w)

def wpInv (P : Program) (ops : Array Oper) (I : World → Prop) (Q : Act → Prop) : List Oper → Act → Prop
  | [], a => Q a
  | o :: rest, a => if Region.wanted o (yielded ops a.tmps) then ∃ v, yieldsI P I o a v ∧ wpInv P ops I Q rest (a.put o.dst v) else wpInv P ops I Q rest (a.put o.dst undef)

theorem wpInv_nil {Q : Act → Prop} {a : Act} (h : Q a) : wpInv P ops I Q [] a := h
theorem wpInv_yes {Q : Act → Prop} {a : Act} {o : Oper} {rest : List Oper} (v : Value) (hw : Region.wanted o (yielded ops a.tmps) = true)
    (h : yieldsI P I o a v) (k : wpInv P ops I Q rest (a.put o.dst v)) : wpInv P ops I Q (o :: rest) a := by
  unfold wpInv; rw [if_pos hw]; exact ⟨v, h, k⟩
theorem wpInv_no {Q : Act → Prop} {a : Act} {o : Oper} {rest : List Oper} (hw : Region.wanted o (yielded ops a.tmps) = false)
    (k : wpInv P ops I Q rest (a.put o.dst undef)) : wpInv P ops I Q (o :: rest) a := by
  unfold wpInv; rw [if_neg (by simp [hw])]; exact k

def ivOp (P : Program) (ops : Array Oper) (I : World → Prop) (i : Nat) (K : Act → Prop) (a : Act) : Prop :=
  match ops[i]? with
  | none => K a
  | some o => if Region.wanted o (yielded ops a.tmps) then ∃ v, yieldsI P I o a v ∧ K (a.put o.dst v) else K (a.put o.dst undef)

theorem ivOp_mono {i : Nat} {a : Act} {K K' : Act → Prop} (h : ∀ a, K a → K' a) (hh : ivOp P ops I i K a) : ivOp P ops I i K' a := by
  unfold ivOp at *
  split
  · exact h _ (by simpa [*] using hh)
  · rename_i o ho
    simp only [ho] at hh
    split
    · rename_i hw; simp only [hw, if_true] at hh; exact hh.imp fun _ hv => ⟨hv.1, h _ hv.2⟩
    · rename_i hw; simp only [hw] at hh; exact h _ hh

def wpAnyI (P : Program) (md : Region.Mode) (ops : Array Oper) (I : World → Prop) (Q : Act → Prop) : Nat → Array Bool → Act → Prop
  | 0, listed, a => Region.ready md ops listed = [] ∧ Q a
  | fuel + 1, listed, a =>
    (Region.ready md ops listed = [] → Q a) ∧
    ∀ i ∈ Region.ready md ops listed, ivOp P ops I i (wpAnyI P md ops I Q fuel (listed.setIfInBounds i true)) a

theorem wp_of_yieldsI {o : Oper} {a : Act} {v : Value} {K' : Act → World → Prop} {Q' : Exit → Act → World → Prop} (h : ∀ w, I w → K' (a.put o.dst v) w) (hh : yieldsI P I o a v) {w : World} (hI : I w) : o.wp P a w K' Q' := by
  have hg := hh w hI
  unfold Oper.wp
  generalize (execOp a.eval o).run P w = r at *
  cases r with
  | ok n w' =>
    cases n <;> simp only [gives] at hg <;> simp only [Oper.upon]
    case value u => obtain ⟨rfl, h2⟩ := hg; exact h _ h2
    case skip => obtain ⟨rfl, h2⟩ := hg; exact h _ h2
    case enter f args => exact hg.mono fun e w'' ⟨he, hw⟩ => by subst he; exact h _ hw
  | halt x w' => exact hg.elim

theorem wpOp_of_ivOp {i : Nat} {a : Act} {K : Act → Prop} {K' : Act → World → Prop} {Q' : Exit → Act → World → Prop} (h : ∀ a, K a → ∀ w, I w → K' a w) (hh : ivOp P ops I i K a) {w : World} (hI : I w) : wpOp P ops Q' i K' a w := by
  unfold ivOp at hh
  unfold wpOp
  split
  · rename_i ho; simp only [ho] at hh; exact h _ hh _ hI
  · rename_i o ho
    simp only [ho] at hh
    split
    · rename_i hw
      simp only [hw, if_true] at hh
      obtain ⟨v, hy, hk⟩ := hh
      exact .inl (wp_of_yieldsI (h _ hk) hy hI)
    · rename_i hw; simp only [hw] at hh; exact h _ hh _ hI

theorem wpAny_of_inv {Q : Act → Prop} {Q' : Exit → Act → World → Prop} (hQ : ∀ a, Q a → ∀ w, I w → Q' .normal a w) : ∀ (fuel : Nat) (listed : Array Bool) (a : Act),
    wpAnyI P md ops I Q fuel listed a → ∀ w, I w → wpAny P md ops Q' fuel listed a w
  | 0, _, _, h, w, hI => ⟨h.1, hQ _ h.2 w hI⟩
  | fuel + 1, _, _, h, _, hI => ⟨fun h0 => hQ _ (h.1 h0) _ hI, fun i hi => wpOp_of_ivOp (fun a' => wpAny_of_inv hQ fuel _ a') (h.2 i hi) hI⟩

def YieldsAtI (P : Program) (ops : Array Oper) (I : World → Prop) (o : Oper) (v : Value) (a : Act) : Prop :=
  (Region.wanted o (yielded ops a.tmps) = true ∧ yieldsI P I o a v) ∨ (Region.wanted o (yielded ops a.tmps) = false ∧ v = undef)

theorem YieldsAtI.ivOp {i : Nat} {o : Oper} {v : Value} {a : Act} (hi : ops[i]? = some o) (hy : YieldsAtI P ops I o v a) {K : Act → Prop} (h : K (a.put o.dst v)) : ivOp P ops I i K a := by
  unfold Own.ivOp
  simp only [hi]
  rcases hy with ⟨hw, hv⟩ | ⟨hw, rfl⟩
  · simp only [hw, if_true]; exact ⟨v, hv, h⟩
  · simp only [hw, Bool.false_eq_true, if_false]; exact h

theorem YieldsAtI.of_same {o : Oper} {v : Value} {a a' : Act} (hy : YieldsAtI P ops I o v a) (he : execOp a'.eval o = execOp a.eval o)
    (hw : Region.wanted o (yielded ops a'.tmps) = Region.wanted o (yielded ops a.tmps)) : YieldsAtI P ops I o v a' := by
  unfold YieldsAtI yieldsI at *
  rw [he, hw]
  exact hy

theorem yieldsAtI_of_ivOp {i : Nat} {o : Oper} {a : Act} {K : Act → Prop} (hi : ops[i]? = some o) (h : ivOp P ops I i K a) : ∃ v, YieldsAtI P ops I o v a ∧ K (a.put o.dst v) := by
  unfold ivOp at h
  simp only [hi] at h
  by_cases hw : Region.wanted o (yielded ops a.tmps) = true
  · simp only [hw, if_true] at h
    obtain ⟨v, hy, hk⟩ := h
    exact ⟨v, .inl ⟨hw, hy⟩, hk⟩
  · simp only [hw] at h
    exact ⟨undef, .inr ⟨by simpa using hw, rfl⟩, h⟩

theorem ivOp_put {j : Nat} {oi oj : Oper} {v : Value} (hj : ops[j]? = some oj) (hap : oi.apart ops oj = true)
    (hsi : ∀ cs b, oi.op ≠ .select cs b) (hsj : ∀ cs b, oj.op ≠ .select cs b) {K : Act → Prop} {a : Act}
    (hy : YieldsAtI P ops I oi v a) (h : ivOp P ops I j K (a.put oi.dst v)) :
    ivOp P ops I j (fun a' => YieldsAtI P ops I oi v a' ∧ K (a'.put oi.dst v)) a := by
  obtain ⟨h1, h2, h3⟩ := Oper.apart_spec hap
  have keep : ∀ (a : Act), YieldsAtI P ops I oi v a → ∀ u, YieldsAtI P ops I oi v (a.put oj.dst u) := fun a hy u =>
    hy.of_same (execOp_put oi hsi a oj.dst u h3) (wanted_put oi a oj.dst u h3)
  unfold ivOp at *
  simp only [hj] at *
  rw [wanted_put oj a oi.dst v h1] at h
  split
  · rename_i hw
    simp only [hw, if_true] at h
    unfold yieldsI at *
    rw [execOp_put oj hsj a oi.dst v h1] at h
    obtain ⟨u, hu, hk⟩ := h
    exact ⟨u, hu, keep a hy u, by rw [← Act.put_comm a v u h2]; exact hk⟩
  · rename_i hw
    simp only [hw] at h
    exact ⟨keep a hy _, by rw [← Act.put_comm a v undef h2]; exact h⟩

theorem wpAnyI_first {Q : Act → Prop} {i : Nat} {oi : Oper} {v : Value} (hi : ops[i]? = some oi) (hsel : ∀ (j : Nat) (o : Oper) cs b, ops[j]? = some o → o.op ≠ .select cs b) :
    ∀ (fuel : Nat) (listed : Array Bool) (a : Act),
      (∀ j oj, ops[j]? = some oj → j ≠ i → listed.getD j true = false → (∀ e ∈ oj.after, Region.binds md e = true → e.on ≠ i) → oi.apart ops oj = true) →
      i ∈ Region.ready md ops listed → YieldsAtI P ops I oi v a →
      wpAnyI P md ops I Q fuel (listed.setIfInBounds i true) (a.put oi.dst v) → wpAnyI P md ops I Q (fuel + 1) listed a := by
  intro fuel
  induction fuel with
  | zero =>
    intro listed a _ hr hy H
    refine ⟨fun h => (by rw [h] at hr; cases hr), fun j hj => ?_⟩
    by_cases hji : j = i
    · subst hji; exact hy.ivOp hi H
    · have := ready_mono hj hji
      rw [H.1] at this
      cases this
  | succ fuel ih =>
    intro listed a hfree hr hy H
    refine ⟨fun h => (by rw [h] at hr; cases hr), fun j hj => ?_⟩
    by_cases hji : j = i
    · subst hji; exact hy.ivOp hi H
    · have h1 := H.2 j (ready_mono hj hji)
      obtain ⟨hjun, oj, hoj, hall⟩ := mem_ready.1 hj
      have hnot : ∀ e ∈ oj.after, Region.binds md e = true → e.on ≠ i := fun e he hb heq => by
        have h1 := hall e he hb
        have h0 := (mem_ready.1 hr).1
        rw [heq] at h1
        rcases Nat.lt_or_ge i listed.size with h' | h'
        · simp [h'] at h0 h1; rw [h0] at h1; cases h1
        · simp [Array.getElem?_eq_none h'] at h1
      have h2 := ivOp_put hoj (hfree j oj hoj hji hjun hnot) (fun cs b => hsel i oi cs b hi) (fun cs b => hsel j oj cs b hoj) hy h1
      have hfree' : ∀ k ok, ops[k]? = some ok → k ≠ i → (listed.setIfInBounds j true).getD k true = false →
          (∀ e ∈ ok.after, Region.binds md e = true → e.on ≠ i) → oi.apart ops ok = true := fun k ok hk hki hun hno => by
        refine hfree k ok hk hki ?_ hno
        by_cases hjk : j = k
        · subst hjk; exact hjun
        · rw [getD_set_ne true hjk] at hun; exact hun
      refine ivOp_mono (fun a' h3 => ih (listed.setIfInBounds j true) a' hfree' (ready_mono hr (Ne.symm hji)) h3.1 ?_) h2
      rw [Array.setIfInBounds_comm _ _ hji]
      exact h3.2

theorem wpAnyI_lex {Q : Act → Prop} (hs : Region.noSelect ops = true) : ∀ (l : List Oper) (k : Nat) (listed : Array Bool) (a : Act), (∀ j, l[j]? = ops[k + j]?) →
    Region.lexFrom md ops l.length k listed = true → wpInv P ops I Q l a → wpAnyI P md ops I Q l.length listed a
  | [], _, _, _, _, hB, h => ⟨by simpa [Region.lexFrom] using hB, h⟩
  | o :: l, k, listed, a, hl, hB, h => by
    have h0 : ops[k]? = some o := by simpa using (hl 0).symm
    simp only [List.length_cons, Region.lexFrom, Bool.and_eq_true] at hB
    obtain ⟨⟨hr, hf⟩, hB'⟩ := hB
    have hst : ivOp P ops I k (wpInv P ops I Q l) a := by unfold ivOp; simp only [h0]; exact h
    obtain ⟨v, hy, hK⟩ := yieldsAtI_of_ivOp h0 hst
    exact wpAnyI_first h0 (Region.noSelect_spec hs) l.length listed a (Region.free_spec h0 hf) (by simpa using hr) hy
      (wpAnyI_lex hs l (k + 1) _ _ (fun j => by have := hl (j + 1); simpa [Nat.add_assoc, Nat.add_comm 1 j] using this) hB' hK)

/-- A region that draws its order, by an invariant. -/
theorem region_inv {id : Nat} {Q : Exit → Act → World → Prop} {a : Act} {w : World} {l : List Oper} (I : World → Prop) (hm : P.follows .mixedOrders = true) (hB : Region.lexB .any l.toArray = true) (hI : I w.drew)
    (h : wpInv P l.toArray I (fun a' => ∀ w', I w' → Q .normal a' w') l a) : (Code.region id l.toArray true).wp P Q a w := by
  simp only [Region.lexB, Bool.and_eq_true] at hB
  refine wp_region_any hm (wpAny_of_inv (I := I) (Q := fun a' => ∀ w', I w' → Q .normal a' w') (fun _ h => h) _ _ _ ?_ _ hI)
  have := wpAnyI_lex (md := .any) hB.1 l 0 (Array.replicate l.toArray.size false) a (by simp) (by simpa using hB.2) h
  simpa using this
theorem region_at {id : Nat} {Q : Exit → Act → World → Prop} {a : Act} {w w0 : World} {l : List Oper} {L : List (Nat × List Value × TypeId)} (hm : P.follows .mixedOrders = true) (hB : Region.lexB .any l.toArray = true) (hI : At w0 L w.drew)
    (h : ∀ J : World → Prop, (∀ w', J w' → At w0 L w') → (∀ w', At w0 L w' → J w') → wpInv P l.toArray J (fun a' => ∀ w', J w' → Q .normal a' w') l a) : (Code.region id l.toArray true).wp P Q a w :=
  region_inv (At w0 L) hm hB hI (h (At w0 L) (fun _ h => h) (fun _ h => h))
theorem inv_yes {Q : Act → Prop} {a : Act} {o : Oper} {rest : List Oper} (hw : Region.wanted o (yielded ops a.tmps) = true) (v : Value)
    (h : ∀ w, I w → gives P I v ((execOp a.eval o).run P w)) (a' : Act) (ha : a.put o.dst v = a') (k : wpInv P ops I Q rest a') : wpInv P ops I Q (o :: rest) a := by
  subst ha; exact wpInv_yes v hw h k
theorem inv_no {Q : Act → Prop} {a : Act} {o : Oper} {rest : List Oper} (hw : Region.wanted o (yielded ops a.tmps) = false)
    (a' : Act) (ha : a.put o.dst undef = a') (k : wpInv P ops I Q rest a') : wpInv P ops I Q (o :: rest) a := by
  subst ha; exact wpInv_no hw k
attribute [go_sem] gives_value gives_skip gives_enter
theorem callI {f : FuncId} {args : Array Value} {W w0 : World} {v : Value} {L : List (Nat × List Value × TypeId)} (h1 : ∀ w', I w' → At w0 L w') (h2 : ∀ w', At w0 L w' → I w')
    (h : Calls P f args W fun e w' => e = .returned v ∧ Below W.heap.size W w') (hW : I W) : Calls P f args W fun e w' => e = .returned v ∧ I w' :=
  h.mono fun _ _ ⟨g1, g2⟩ => ⟨g1, h2 _ ((h1 _ hW).call g2)⟩
theorem callI_same {f : FuncId} {args : Array Value} {W : World} {v : Value} (h : Calls P f args W fun e w' => e = .returned v ∧ W = w') (hW : I W) : Calls P f args W fun e w' => e = .returned v ∧ I w' :=
  h.mono fun _ _ ⟨h1, h2⟩ => ⟨h1, h2 ▸ hW⟩
end
attribute [irreducible] wpInv
end Go.Proofs.YtdlfdkdcnabpoaaDoor.Own
