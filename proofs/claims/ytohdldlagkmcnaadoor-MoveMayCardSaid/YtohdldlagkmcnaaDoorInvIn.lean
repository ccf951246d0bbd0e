/- A region that draws its order inside a fence, in a round of a loop over a function too: one walk in the text's order, at a class of worlds. -/
import Derived.Test.YtohdldlagkmcnaaDoorMemIn
import Derived.Sort.QuietThIn
namespace Go.Proofs.YtohdldlagkmcnaaDoor.Own
open Go.RowKit
section
variable {F : Fence} {n : Nat} {P : Program} {ops : Array Oper} {md : Region.Mode} {C : World → Prop}
theorem wpIn_of_quietR {o : Oper} {a : Act} {K : Act → Prop} {K' : Act → World → Prop} {Q' : Exit → Act → World → Prop} {w : World} (hnd : ∀ c, o.op ≠ Op.defer c) (hw : C w) (h : ∀ a w', C w' → K a → K' a w')
    (ha : o.askedIn F P a C) (hh : o.quietIn F n P a C K) : o.wpIn F n P a w K' Q' := by
  obtain ⟨v, h1, h2⟩ := hh
  have h3 := h1 w hw
  unfold Oper.quietAtIn at h3
  unfold Oper.wpIn
  refine ⟨ha w hw, ?_⟩
  rw [Oper.semAt_eq _ _ _ hnd]
  generalize (execOp a.eval o).run P w = r at *
  cases r with
  | ok x w' =>
    cases x <;> simp only [Oper.quietUponIn] at h3 <;> simp only [Oper.uponIn]
    case value u =>
      obtain ⟨e1, e2⟩ := h3
      rw [e1, e2]
      exact h _ _ hw h2
    case skip =>
      obtain ⟨e1, e2⟩ := h3
      rw [e1, ← e2]
      exact h _ _ hw h2
    case enter f args =>
      obtain ⟨e1, hd, hc⟩ := h3
      rw [e1]
      exact ⟨hd, hc.mono fun e w'' ⟨he, hw''⟩ => by subst he; exact h _ _ hw'' h2⟩
  | halt x w' => simp only [Oper.quietUponIn] at h3
theorem wpOpIn_of_qOpInR {i : Nat} {a : Act} {K : Act → Prop} {K' : Act → World → Prop} {Q' : Exit → Act → World → Prop} {w : World} (hnd : ∀ (i : Nat) (o : Oper), ops[i]? = some o → ∀ c, o.op ≠ Op.defer c) (hC : C w) (h : ∀ a w', C w' → K a → K' a w')
    (hh : qOpIn F n P ops C i K a) : wpOpIn F n P ops Q' i K' a w := by
  unfold qOpIn at hh
  unfold wpOpIn
  split
  · rename_i ho; simp only [ho] at hh; exact h _ _ hC hh
  · rename_i o ho
    simp only [ho] at hh
    obtain ⟨ha, hh⟩ := hh
    split
    · rename_i hw; simp only [hw, if_true] at hh; exact wpIn_of_quietR (hnd i o ho) hC h ha hh
    · rename_i hw; simp only [hw] at hh; exact ⟨ha w hC, h _ _ hC hh⟩
theorem wpAnyIn_of_quietR {Q : Act → Prop} {Q' : Exit → Act → World → Prop} (hnd : ∀ (i : Nat) (o : Oper), ops[i]? = some o → ∀ c, o.op ≠ Op.defer c) (hQ : ∀ a w, C w → Q a → Q' .normal a w) : ∀ (fuel : Nat) (listed : Array Bool) (a : Act) (w : World), C w →
    wpAnyQIn F n P md ops C Q fuel listed a → wpAnyIn F n P md ops Q' fuel listed a w
  | 0, _, _, _, hw, h => ⟨h.1, hQ _ _ hw h.2⟩
  | fuel + 1, _, _, _, hw, h => ⟨fun h0 => hQ _ _ hw (h.1 h0), fun i hi => wpOpIn_of_qOpInR hnd hw (fun a' w' hw' => wpAnyIn_of_quietR hnd hQ fuel _ a' w' hw') (h.2 i hi)⟩
def noDefer (l : List Oper) : Bool := l.all fun (o : Oper) => match o.op with | Op.defer _ => false | _ => true
theorem noDefer_spec {l : List Oper} (h : noDefer l = true) : ∀ (i : Nat) (o : Oper), l.toArray[i]? = some o → ∀ c, o.op ≠ Op.defer c := by
  intro i o ho c hc
  have hm : o ∈ l := by
    rw [List.getElem?_toArray] at ho
    exact List.mem_of_getElem? ho
  have := List.all_eq_true.1 h o hm
  rw [hc] at this
  cases this
/-- 'wpQuietIn', behind a name of its own. -/
def wpQ (F : Fence) (n : Nat) (P : Program) (ops : Array Oper) (C : World → Prop) (Q : Act → Prop) (l : List Oper) (a : Act) : Prop := wpQuietIn F n P ops C Q l a
theorem wpQ_nil {Q : Act → Prop} {a : Act} (h : Q a) : wpQ F n P ops C Q [] a := h
/-- In whatever order: by a class of worlds. -/
theorem regionIn_inv {id : Nat} {Q : Exit → Act → World → Prop} {a : Act} {w : World} {l : List Oper} (I : World → Prop) (hm : P.follows .mixedOrders = true) (hB : Region.lexB .any l.toArray = true) (hnd : noDefer l = true) (hI : I w.drew)
    (h : wpQ F n P l.toArray I (fun a' => ∀ w', I w' → Q .normal a' w') l a) : (Code.region id l.toArray true).wpIn F n P Q a w := by
  simp only [Region.lexB, Bool.and_eq_true] at hB
  refine wpIn_region_any hm (wpAnyIn_of_quietR (Q := fun a' => ∀ w', I w' → Q .normal a' w') (noDefer_spec hnd) (fun _ w' hw' h => h w' hw') _ _ _ _ hI ?_)
  have := wpAnyQIn_lex (F := F) (n := n) (C := I) (md := .any) hB.1 l 0 (Array.replicate l.toArray.size false) a (by simp) (by simpa using hB.2) h
  simpa using this
theorem qin_yes {Q : Act → Prop} {a : Act} {o : Oper} {rest : List Oper} (ha : o.askedIn F P a C) (hw : Region.wanted o (yielded ops a.tmps) = true) (v : Value)
    (h : ∀ w, C w → Oper.quietUponIn F n P C w v ((execOp a.eval o).run P w)) (a' : Act) (hp : a.put o.dst v = a') (k : wpQ F n P ops C Q rest a') : wpQ F n P ops C Q (o :: rest) a := by
  subst hp
  exact ⟨ha, by rw [if_pos hw]; exact ⟨v, h, k⟩⟩
theorem qin_no {Q : Act → Prop} {a : Act} {o : Oper} {rest : List Oper} (ha : o.askedIn F P a C) (hw : Region.wanted o (yielded ops a.tmps) = false)
    (a' : Act) (hp : a.put o.dst undef = a') (k : wpQ F n P ops C Q rest a') : wpQ F n P ops C Q (o :: rest) a := by
  subst hp
  exact ⟨ha, by rw [if_neg (by rw [hw]; simp)]; exact k⟩
theorem qup_value (v u : Value) (w : World) : Oper.quietUponIn F n P C w v (.ok (.value u) w) = (w = w ∧ u = v) := rfl
theorem qup_enter (v : Value) (f : FuncId) (args : Array Value) (w : World) : Oper.quietUponIn F n P C w v (.ok (.enter f args) w) = (w = w ∧ (F.depth.isSome = true → 1 ≤ n) ∧ CallsIn F (n - 1) P f args w (fun e w'' => e = .returned v ∧ C w'')) := rfl
attribute [go_sem] qup_value qup_enter
/-- Part of a block read, at the class. -/
theorem run_load_part {o : Oper} {a : Act} {w : World} (ty : TypeId) (x : Operand) (ho : o.op = .load ty x) (g off : Nat) (hx : a.eval x = .pointer (some ⟨g, off, none⟩)) (xs : List Value)
    (hl : (loadVar ty ⟨g, off, none⟩).run P w = .ok (.agg ⟨xs⟩) w) :
    (execOp a.eval o).run P w = .ok (.value (.agg ⟨xs⟩)) w := by
  unfold execOp
  simp only [ho, hx, Instr.loadAt, Instr.sureAddr, Sem.run_bind, Sem.run_pure, Result.andThen_ok, hl]
end
attribute [irreducible] wpQ
end Go.Proofs.YtohdldlagkmcnaaDoor.Own
