/- XSeq once more, the operations that may turn the world being chosen by their places ('c'): calls, makeSlice, stores.
   A region that draws its order and holds calls that make what they like: one walk in one order serves all. The order ('idx') is chosen so that whatever is no call is done as soon as it can be; a call is done when nothing else is ready. What is no call must yield one value from any world of an invariant and leave the world alone. -/
import Derived.Test.YtdlfdkdcnabpoaaDoorInv
namespace Go.Proofs.YtdlfdkdcnabpoaaDoor.Turn
open Go.RowKit
open _root_.Go.Proofs.YtdlfdkdcnabpoaaDoor.Own (At)
section
variable {P : Program} {ops : Array Oper} {md : Region.Mode} {c : Nat → Bool} {I : World → Prop}
/-- The value v, the world alone. -/
def stays (I : World → Prop) (v : Value) (w : World) : Result Next → Prop
  | .ok (.value u) w' => u = v ∧ w' = w ∧ I w
  | .ok .skip w' => undef = v ∧ w' = w ∧ I w
  | _ => False
theorem stays_value (v u : Value) (w w' : World) : stays I v w (.ok (.value u) w') = (u = v ∧ w' = w ∧ I w) := rfl
theorem stays_skip (v : Value) (w w' : World) : stays I v w (.ok .skip w') = (undef = v ∧ w' = w ∧ I w) := rfl
def constY (P : Program) (I : World → Prop) (o : Oper) (a : Act) (v : Value) : Prop := ∀ w, I w → stays I v w ((execOp a.eval o).run P w)
def takes (P : Program) (K : Value → World → Prop) : Result Next → Prop
  | .ok (.value v) w' => K v w'
  | .ok .skip w' => K undef w'
  | .ok (.enter f args) w' => Calls P f args w' (fun e w'' => ∃ v, e = .returned v ∧ K v w'')
  | _ => False
theorem takes_enter (K : Value → World → Prop) (f : FuncId) (args : Array Value) (w : World) : takes P K (.ok (.enter f args) w) = Calls P f args w (fun e w'' => ∃ v, e = .returned v ∧ K v w'') := rfl
theorem takes_value (K : Value → World → Prop) (v : Value) (w : World) : takes P K (.ok (.value v) w) = K v w := rfl
theorem takes_skip (K : Value → World → Prop) (w : World) : takes P K (.ok .skip w) = K undef w := rfl
theorem takes_mono {K K' : Value → World → Prop} (h : ∀ v w, K v w → K' v w) {r : Result Next} (hr : takes P K r) : takes P K' r := by
  cases r with
  | ok n w' =>
    cases n with
    | enter f args => exact hr.mono fun e w'' ⟨v, he, hk⟩ => ⟨v, he, h v w'' hk⟩
    | value v => exact h _ _ hr
    | skip => exact h _ _ hr
    | _ => exact hr.elim
  | halt x w' => exact hr.elim
def opR (P : Program) (ops : Array Oper) (c : Nat → Bool) (I : World → Prop) (i : Nat) (K : Act → World → Prop) (a : Act) (w : World) : Prop :=
  match ops[i]? with
  | none => K a w
  | some o => if Region.wanted o (yielded ops a.tmps) = true then (if c i = true then takes P (fun v w' => I w' ∧ K (a.put o.dst v) w') ((execOp a.eval o).run P w) else ∃ v, constY P I o a v ∧ K (a.put o.dst v) w) else K (a.put o.dst undef) w
theorem opR_mono {i : Nat} {a : Act} {w : World} {K K' : Act → World → Prop} (h : ∀ a w, I w → K a w → K' a w) (hI : I w) (hh : opR P ops c I i K a w) : opR P ops c I i K' a w := by
  unfold opR at *
  split
  · rename_i ho; simp only [ho] at hh; exact h _ _ hI hh
  · rename_i o ho
    simp only [ho] at hh
    split
    · rename_i hw
      rw [if_pos hw] at hh
      split
      · rename_i hc; rw [if_pos hc] at hh; exact takes_mono (fun v w' hk => ⟨hk.1, h _ _ hk.1 hk.2⟩) hh
      · rename_i hc; rw [if_neg hc] at hh; exact hh.imp fun v hv => ⟨hv.1, h _ _ hI hv.2⟩
    · rename_i hw; rw [if_neg hw] at hh; exact h _ _ hI hh
theorem wpOp_of_opR {i : Nat} {a : Act} {w : World} {K K' : Act → World → Prop} {Q' : Exit → Act → World → Prop} (h : ∀ a w, I w → K a w → K' a w) (hI : I w) (hh : opR P ops c I i K a w) : wpOp P ops Q' i K' a w := by
  unfold opR at hh
  unfold wpOp
  split
  · rename_i ho; simp only [ho] at hh; exact h _ _ hI hh
  · rename_i o ho
    simp only [ho] at hh
    split
    · rename_i hw
      rw [if_pos hw] at hh
      refine .inl ?_
      unfold Oper.wp
      split at hh
      · generalize (execOp a.eval o).run P w = r at *
        cases r with
        | ok n w' =>
          cases n with
          | enter f args =>
            simp only [Oper.upon]
            exact hh.mono fun e w'' ⟨v, he, h1, h2⟩ => by subst he; exact h _ _ h1 h2
          | value v => simp only [Oper.upon]; exact h _ _ hh.1 hh.2
          | skip => simp only [Oper.upon]; exact h _ _ hh.1 hh.2
          | _ => exact hh.elim
        | halt x w' => exact hh.elim
      · obtain ⟨v, hy, hk⟩ := hh
        have hg := hy w hI
        generalize (execOp a.eval o).run P w = r at *
        cases r with
        | ok n w' =>
          cases n <;> simp only [stays] at hg <;> simp only [Oper.upon]
          case value u => obtain ⟨rfl, rfl, -⟩ := hg; exact h _ _ hI hk
          case skip => obtain ⟨rfl, rfl, -⟩ := hg; exact h _ _ hI hk
        | halt x w' => exact hg.elim
    · rename_i hw; rw [if_neg hw] at hh; exact h _ _ hI hh
def wpAnyR (P : Program) (md : Region.Mode) (ops : Array Oper) (c : Nat → Bool) (I : World → Prop) (Q : Act → World → Prop) : Nat → Array Bool → Act → World → Prop
  | 0, listed, a, w => Region.ready md ops listed = [] ∧ Q a w
  | fuel + 1, listed, a, w =>
    (Region.ready md ops listed = [] → Q a w) ∧
    ∀ i ∈ Region.ready md ops listed, opR P ops c I i (wpAnyR P md ops c I Q fuel (listed.setIfInBounds i true)) a w
theorem wpAny_of_R {Q : Act → World → Prop} {Q' : Exit → Act → World → Prop} (hQ : ∀ a w, I w → Q a w → Q' .normal a w) : ∀ (fuel : Nat) (listed : Array Bool) (a : Act) (w : World), I w →
    wpAnyR P md ops c I Q fuel listed a w → wpAny P md ops Q' fuel listed a w
  | 0, _, _, _, hI, h => ⟨h.1, hQ _ _ hI h.2⟩
  | fuel + 1, _, _, _, hI, h => ⟨fun h0 => hQ _ _ hI (h.1 h0), fun i hi => wpOp_of_opR (fun a' w' h1 h2 => wpAny_of_R hQ fuel _ a' w' h1 h2) hI (h.2 i hi)⟩
def YieldsR (P : Program) (ops : Array Oper) (I : World → Prop) (o : Oper) (v : Value) (a : Act) : Prop :=
  (Region.wanted o (yielded ops a.tmps) = true ∧ constY P I o a v) ∨ (Region.wanted o (yielded ops a.tmps) = false ∧ v = undef)
theorem YieldsR.opR {i : Nat} {o : Oper} {v : Value} {a : Act} {w : World} (hi : ops[i]? = some o) (hc : c i = false) (hy : YieldsR P ops I o v a) {K : Act → World → Prop} (h : K (a.put o.dst v) w) : opR P ops c I i K a w := by
  unfold Turn.opR
  simp only [hi]
  rcases hy with ⟨hw, hv⟩ | ⟨hw, rfl⟩
  · rw [if_pos hw, if_neg (by simp [hc])]; exact ⟨v, hv, h⟩
  · rw [if_neg (by simp [hw])]; exact h
theorem YieldsR.of_same {o : Oper} {v : Value} {a a' : Act} (hy : YieldsR P ops I o v a) (he : execOp a'.eval o = execOp a.eval o)
    (hw : Region.wanted o (yielded ops a'.tmps) = Region.wanted o (yielded ops a.tmps)) : YieldsR P ops I o v a' := by
  unfold YieldsR constY at *
  rw [he, hw]
  exact hy
theorem yieldsR_of_opR {i : Nat} {o : Oper} {a : Act} {w : World} {K : Act → World → Prop} (hi : ops[i]? = some o) (hc : c i = false) (h : opR P ops c I i K a w) : ∃ v, YieldsR P ops I o v a ∧ K (a.put o.dst v) w := by
  unfold opR at h
  simp only [hi] at h
  by_cases hw : Region.wanted o (yielded ops a.tmps) = true
  · rw [if_pos hw, if_neg (by simp [hc])] at h
    obtain ⟨v, hy, hk⟩ := h
    exact ⟨v, .inl ⟨hw, hy⟩, hk⟩
  · rw [if_neg hw] at h
    exact ⟨undef, .inr ⟨by simpa using hw, rfl⟩, h⟩
theorem opR_put {j : Nat} {oi oj : Oper} {v : Value} (hj : ops[j]? = some oj) (hap : oi.apart ops oj = true)
    (hsi : ∀ cs b, oi.op ≠ .select cs b) (hsj : ∀ cs b, oj.op ≠ .select cs b) {K : Act → World → Prop} {a : Act} {w : World}
    (hy : YieldsR P ops I oi v a) (h : opR P ops c I j K (a.put oi.dst v) w) :
    opR P ops c I j (fun a' w' => YieldsR P ops I oi v a' ∧ K (a'.put oi.dst v) w') a w := by
  obtain ⟨h1, h2, h3⟩ := Oper.apart_spec hap
  have keep : ∀ (a : Act), YieldsR P ops I oi v a → ∀ u, YieldsR P ops I oi v (a.put oj.dst u) := fun a hy u =>
    hy.of_same (execOp_put oi hsi a oj.dst u h3) (wanted_put oi a oj.dst u h3)
  unfold opR at *
  simp only [hj] at *
  rw [wanted_put oj a oi.dst v h1] at h
  split
  · rename_i hw
    rw [if_pos hw, execOp_put oj hsj a oi.dst v h1] at h
    split
    · rename_i hc
      rw [if_pos hc] at h
      exact takes_mono (fun u w' hk => ⟨hk.1, keep a hy u, by rw [← Act.put_comm a v u h2]; exact hk.2⟩) h
    · rename_i hc
      rw [if_neg hc] at h
      unfold constY at h ⊢
      rw [execOp_put oj hsj a oi.dst v h1] at h
      obtain ⟨u, hu, hk⟩ := h
      exact ⟨u, hu, keep a hy u, by rw [← Act.put_comm a v u h2]; exact hk⟩
  · rename_i hw
    rw [if_neg hw] at h
    exact ⟨keep a hy _, by rw [← Act.put_comm a v undef h2]; exact h⟩
theorem wpAnyR_first {Q : Act → World → Prop} {i : Nat} {oi : Oper} {v : Value} (hi : ops[i]? = some oi) (hc : c i = false) (hsel : ∀ (j : Nat) (o : Oper) cs b, ops[j]? = some o → o.op ≠ .select cs b) :
    ∀ (fuel : Nat) (listed : Array Bool) (a : Act) (w : World), I w →
      (∀ j oj, ops[j]? = some oj → j ≠ i → listed.getD j true = false → (∀ e ∈ oj.after, Region.binds md e = true → e.on ≠ i) → oi.apart ops oj = true) →
      i ∈ Region.ready md ops listed → YieldsR P ops I oi v a →
      wpAnyR P md ops c I Q fuel (listed.setIfInBounds i true) (a.put oi.dst v) w → wpAnyR P md ops c I Q (fuel + 1) listed a w := by
  intro fuel
  induction fuel with
  | zero =>
    intro listed a w hI _ hr hy H
    refine ⟨fun h => (by rw [h] at hr; cases hr), fun j hj => ?_⟩
    by_cases hji : j = i
    · subst hji; exact hy.opR hi hc H
    · have := ready_mono hj hji
      rw [H.1] at this
      cases this
  | succ fuel ih =>
    intro listed a w hI hfree hr hy H
    refine ⟨fun h => (by rw [h] at hr; cases hr), fun j hj => ?_⟩
    by_cases hji : j = i
    · subst hji; exact hy.opR hi hc H
    · have h1 := H.2 j (ready_mono hj hji)
      obtain ⟨hjun, oj, hoj, hall⟩ := mem_ready.1 hj
      have hnot : ∀ e ∈ oj.after, Region.binds md e = true → e.on ≠ i := fun e he hb heq => by
        have h1 := hall e he hb
        have h0 := (mem_ready.1 hr).1
        rw [heq] at h1
        rcases Nat.lt_or_ge i listed.size with h' | h'
        · simp [h'] at h0 h1; rw [h0] at h1; cases h1
        · simp [Array.getElem?_eq_none h'] at h1
      have h2 := opR_put hoj (hfree j oj hoj hji hjun hnot) (fun cs b => hsel i oi cs b hi) (fun cs b => hsel j oj cs b hoj) hy h1
      have hfree' : ∀ k ok, ops[k]? = some ok → k ≠ i → (listed.setIfInBounds j true).getD k true = false →
          (∀ e ∈ ok.after, Region.binds md e = true → e.on ≠ i) → oi.apart ops ok = true := fun k ok hk hki hun hno => by
        refine hfree k ok hk hki ?_ hno
        by_cases hjk : j = k
        · subst hjk; exact hjun
        · rw [getD_set_ne true hjk] at hun; exact hun
      refine opR_mono (fun a' w' hI' h3 => ih (listed.setIfInBounds j true) a' w' hI' hfree' (ready_mono hr (Ne.symm hji)) h3.1 ?_) hI h2
      rw [Array.setIfInBounds_comm _ _ hji]
      exact h3.2
/-- The order serves. -/
def seqB (md : Region.Mode) (ops : Array Oper) (c : Nat → Bool) : List Nat → Array Bool → Bool
  | [], listed => Region.ready md ops listed == []
  | i :: l, listed => (Region.ready md ops listed).contains i && (match ops[i]? with | some _ => if c i then Region.ready md ops listed == [i] else Region.free md ops listed i | none => false) && seqB md ops c l (listed.setIfInBounds i true)
def wpSeq (P : Program) (ops : Array Oper) (c : Nat → Bool) (I : World → Prop) (Q : Act → World → Prop) : List Nat → Act → World → Prop
  | [], a, w => Q a w
  | i :: l, a, w => opR P ops c I i (wpSeq P ops c I Q l) a w
theorem wpAnyR_seq {Q : Act → World → Prop} (hs : Region.noSelect ops = true) : ∀ (l : List Nat) (listed : Array Bool) (a : Act) (w : World), I w →
    seqB md ops c l listed = true → wpSeq P ops c I Q l a w → wpAnyR P md ops c I Q l.length listed a w
  | [], _, _, _, _, hB, h => ⟨by simpa [seqB] using hB, h⟩
  | i :: l, listed, a, w, hI, hB, h => by
    simp only [seqB, Bool.and_eq_true] at hB
    obtain ⟨⟨hr, hf⟩, hB'⟩ := hB
    have hr' : i ∈ Region.ready md ops listed := by simpa using hr
    cases h0 : ops[i]? with
    | none => simp [h0] at hf
    | some o =>
      simp only [h0] at hf
      cases hc : c i with
      | true =>
        rw [hc, if_pos rfl] at hf
        have he : Region.ready md ops listed = [i] := by simpa using hf
        refine ⟨fun h9 => (by rw [h9] at he; cases he), fun j hj => ?_⟩
        rw [he] at hj
        obtain rfl := List.mem_singleton.1 hj
        exact opR_mono (fun a' w' h1 h2 => wpAnyR_seq hs l _ a' w' h1 hB' h2) hI h
      | false =>
        rw [hc, if_neg (by decide)] at hf
        obtain ⟨v, hy, hK⟩ := yieldsR_of_opR h0 hc h
        exact wpAnyR_first h0 hc (Region.noSelect_spec hs) l.length listed a w hI (Region.free_spec h0 hf) hr' hy (wpAnyR_seq hs l _ _ _ hI hB' hK)
/-- A region that draws its order, its calls as they come. -/
theorem region_seq {id : Nat} {Q : Exit → Act → World → Prop} {a : Act} {w : World} {l : List Oper} (idx : List Nat) (c : Nat → Bool) (I : World → Prop) (hm : P.follows .mixedOrders = true)
    (hB : (Region.noSelect l.toArray && seqB .any l.toArray c idx (Array.replicate l.toArray.size false) && idx.length == l.toArray.size) = true) (hI : I w.drew)
    (h : wpSeq P l.toArray c I (fun a' w' => Q .normal a' w') idx a w.drew) : (Code.region id l.toArray true).wp P Q a w := by
  simp only [Bool.and_eq_true, beq_iff_eq] at hB
  obtain ⟨⟨h1, h2⟩, h3⟩ := hB
  refine wp_region_any hm (wpAny_of_R (c := c) (I := I) (Q := fun a' w' => Q .normal a' w') (fun _ _ _ h => h) _ _ _ _ hI ?_)
  rw [← h3]
  rw [← h3] at h2
  exact wpAnyR_seq (md := .any) h1 idx _ a _ hI h2 h
theorem seq_nil {Q : Act → World → Prop} {a : Act} {w : World} (h : Q a w) : wpSeq P ops c I Q [] a w := h
theorem seq_yes {Q : Act → World → Prop} {a : Act} {w : World} {i : Nat} {l : List Nat} (o : Oper) (ho : ops[i]? = some o) (hc : c i = false) (hw : Region.wanted o (yielded ops a.tmps) = true) (v : Value)
    (h : ∀ w, I w → stays I v w ((execOp a.eval o).run P w)) (a' : Act) (ha : a.put o.dst v = a') (k : wpSeq P ops c I Q l a' w) : wpSeq P ops c I Q (i :: l) a w := by
  subst ha
  unfold wpSeq opR
  simp only [ho]
  rw [if_pos hw, if_neg (by simp [hc])]
  exact ⟨v, h, k⟩
theorem seq_no {Q : Act → World → Prop} {a : Act} {w : World} {i : Nat} {l : List Nat} (o : Oper) (ho : ops[i]? = some o) (hw : Region.wanted o (yielded ops a.tmps) = false)
    (a' : Act) (ha : a.put o.dst undef = a') (k : wpSeq P ops c I Q l a' w) : wpSeq P ops c I Q (i :: l) a w := by
  subst ha
  unfold wpSeq opR
  simp only [ho]
  rw [if_neg (by simp [hw])]
  exact k
theorem seq_call {Q : Act → World → Prop} {a : Act} {w : World} {i : Nat} {l : List Nat} (o : Oper) (ho : ops[i]? = some o) (hc : c i = true) (hw : Region.wanted o (yielded ops a.tmps) = true) (a' : Value → Act) (ha : ∀ v, a.put o.dst v = a' v)
    (k : takes P (fun v w' => I w' ∧ wpSeq P ops c I Q l (a' v) w') ((execOp a.eval o).run P w)) : wpSeq P ops c I Q (i :: l) a w := by
  unfold wpSeq opR
  simp only [ho]
  rw [if_pos hw, if_pos hc]
  exact takes_mono (fun v w' hk => ⟨hk.1, by rw [ha v]; exact hk.2⟩) k
attribute [go_sem] stays_value stays_skip takes_enter takes_value takes_skip
end
attribute [irreducible] wpSeq
end Go.Proofs.YtdlfdkdcnabpoaaDoor.Turn
