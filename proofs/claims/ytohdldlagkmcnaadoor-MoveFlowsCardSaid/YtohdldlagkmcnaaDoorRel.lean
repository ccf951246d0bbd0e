/- A region that draws its order, each operation told by what holds of its value from then on: operations may make memory and call what makes memory, in whatever order; no order is walked. For each operation: from whatever world in which the facts of those stand that it waits for, it yields a value with its own fact, and no fact is lost. -/
import Derived.Test.YtohdldlagkmcnaaDoorTurn
namespace Go.Proofs.YtohdldlagkmcnaaDoor.Rel
open Go.RowKit
open _root_.Go.Proofs.YtohdldlagkmcnaaDoor.Turn (takes takes_mono)
section
variable {P : Program}
abbrev Fact := Value → World → Prop
def dstOf (l : List Oper) (k : Nat) : Option Tmp := (l[k]?).bind (·.dst)
def owner (l : List Oper) (d : Tmp) : Option Nat := l.findIdx? fun o => o.dst == some d
/-- The act with the values of some operations laid. -/
def pd (l : List Oper) (vals : Nat → Value) (a0 : Act) : List Nat → Act
  | [] => a0
  | k :: ks => (pd l vals a0 ks).put (dstOf l k) (vals k)
def waits (o : Oper) : List Nat := o.after.toList.filterMap fun e => if Region.binds .any e then some e.on else none
def looks (l : List Oper) (o : Oper) : List Tmp := o.looksAt l.toArray
/-- What must be true of the region's text. -/
def okOne (l : List Oper) (i : Nat) (o : Oper) : Bool :=
  (waits o).all (· < i) && (looks l o).all (fun d => match owner l d with | some k => (waits o).contains k | none => true) &&
  (match o.dst with | some d => owner l d == some i | none => true) && (match o.op with | Op.select _ _ => false | _ => true)
def okFrom (l : List Oper) : Nat → List Oper → Bool
  | _, [] => true
  | i, o :: r => okOne l i o && okFrom l (i + 1) r
theorem okFrom_at {l : List Oper} : ∀ (r : List Oper) (i : Nat), okFrom l i r = true → ∀ j o, r[j]? = some o → okOne l (i + j) o = true
  | [], _, _, j, o, h => by simp at h
  | x :: r, i, h, j, o, ho => by
    simp only [okFrom, Bool.and_eq_true] at h
    cases j with
    | zero => simp at ho; subst ho; exact h.1
    | succ j =>
      have := okFrom_at r (i + 1) h.2 j o (by simpa using ho)
      rw [show i + (j + 1) = i + 1 + j by omega]; exact this
theorem owner_dst {l : List Oper} {d : Tmp} {k : Nat} (h : owner l d = some k) : dstOf l k = some d := by
  unfold owner at h
  rw [List.findIdx?_eq_some_iff_getElem] at h
  obtain ⟨hk, h1, _⟩ := h
  unfold dstOf
  rw [List.getElem?_eq_getElem hk]
  simpa using h1
variable {l : List Oper} {vals : Nat → Value} {a0 : Act}
theorem pd_size (ks : List Nat) : (pd l vals a0 ks).tmps.size = a0.tmps.size := by
  induction ks with
  | nil => rfl
  | cons k ks ih =>
    unfold pd Act.put
    cases dstOf l k with
    | none => exact ih
    | some d => simp [ih]
theorem pd_defers (ks : List Nat) : (pd l vals a0 ks).defers = a0.defers := by
  induction ks with
  | nil => rfl
  | cons k ks ih =>
    unfold pd Act.put
    cases dstOf l k with
    | none => exact ih
    | some d => simp [ih]
/-- What stands in a slot. -/
theorem pd_look (hd : ∀ k d, dstOf l k = some d → owner l d = some k) (ks : List Nat) (d : Tmp) : (pd l vals a0 ks).tmps[d]? = match owner l d with | some k => if k ∈ ks then (a0.tmps[d]?).map (fun _ => vals k) else a0.tmps[d]? | none => a0.tmps[d]? := by
  induction ks with
  | nil => unfold pd; cases owner l d <;> simp
  | cons k ks ih =>
    unfold pd Act.put
    cases hk : dstOf l k with
    | none =>
      simp only
      rw [ih]
      cases ho : owner l d with
      | none => rfl
      | some k' =>
        have hne : k' ≠ k := fun e => by have := owner_dst ho; rw [e, hk] at this; cases this
        simp [hne]
    | some d' =>
      simp only
      have hs := pd_size (l := l) (vals := vals) (a0 := a0) ks
      by_cases e : d' = d
      · subst e
        rw [hd k d' hk]
        simp only [List.mem_cons, true_or, if_true]
        rw [Array.getElem?_setIfInBounds, if_pos rfl, hs]
        by_cases hb : d' < a0.tmps.size
        · rw [if_pos hb, Array.getElem?_eq_getElem hb]; rfl
        · rw [if_neg hb, show a0.tmps[d']? = none from Array.getElem?_eq_none (Nat.le_of_not_lt hb)]; rfl
      · rw [Array.getElem?_setIfInBounds_ne e, ih]
        cases ho : owner l d with
        | none => rfl
        | some k' =>
          have hne : k' ≠ k := fun e' => by have := owner_dst ho; rw [e', hk] at this; exact e (Option.some.inj this)
          simp [hne]
theorem pd_eq (hd : ∀ k d, dstOf l k = some d → owner l d = some k) (ks js : List Nat) (h : ∀ k, k < l.length → (k ∈ ks ↔ k ∈ js)) : pd l vals a0 ks = pd l vals a0 js := by
  have h1 : (pd l vals a0 ks).tmps = (pd l vals a0 js).tmps := by
    apply Array.ext_getElem?
    intro d
    rw [pd_look hd, pd_look hd]
    cases ho : owner l d with
    | none => rfl
    | some k =>
      have hk : k < l.length := by
        have := owner_dst ho
        unfold dstOf at this
        rcases Nat.lt_or_ge k l.length with h' | h'
        · exact h'
        · rw [List.getElem?_eq_none h'] at this; cases this
      simp only [h k hk]
  have h2 : (pd l vals a0 ks).defers = (pd l vals a0 js).defers := by rw [pd_defers, pd_defers]
  generalize pd l vals a0 ks = x at *
  generalize pd l vals a0 js = y at *
  cases x; cases y
  simp_all
/-- An operation sees of the act just what it waits for. -/
theorem same_eval (hd : ∀ k d, dstOf l k = some d → owner l d = some k) {o : Oper} {i : Nat} (ho : okOne l i o = true) {ks : List Nat} (hk : ∀ k ∈ waits o, k ∈ ks) (d : Tmp) (hl : d ∈ looks l o) : (pd l vals a0 ks).tmps[d]? = (pd l vals a0 (waits o)).tmps[d]? := by
  rw [pd_look hd, pd_look hd]
  simp only [okOne, Bool.and_eq_true] at ho
  have h1 := List.all_eq_true.1 ho.1.1.2 d hl
  cases he : owner l d with
  | none => rfl
  | some k =>
    rw [he] at h1
    have hw : k ∈ waits o := by simpa using h1
    simp only [if_pos hw, if_pos (hk k hw)]
theorem same_exec (hd : ∀ k d, dstOf l k = some d → owner l d = some k) {o : Oper} {i : Nat} (ho : okOne l i o = true) {ks : List Nat} (hk : ∀ k ∈ waits o, k ∈ ks) : execOp (pd l vals a0 ks).eval o = execOp (pd l vals a0 (waits o)).eval o := by
  refine execOp_congr o (fun cs b e => ?_) fun x hx => ?_
  · simp only [okOne, Bool.and_eq_true] at ho
    have := ho.2
    rw [e] at this; cases this
  · cases x with
    | tmp t =>
      have hl : t ∈ looks l o := List.mem_append_left _ (List.mem_filterMap.2 ⟨.tmp t, by simpa using hx, rfl⟩)
      have := same_eval (vals := vals) (a0 := a0) hd ho hk t hl
      simp only [Act.eval, Array.getD_eq_getD_getElem?, this]
    | _ => rfl
theorem same_wanted (hd : ∀ k d, dstOf l k = some d → owner l d = some k) {o : Oper} {i : Nat} (ho : okOne l i o = true) {ks : List Nat} (hk : ∀ k ∈ waits o, k ∈ ks) : Region.wanted o (yielded l.toArray (pd l vals a0 ks).tmps) = Region.wanted o (yielded l.toArray (pd l vals a0 (waits o)).tmps) := by
  unfold Region.wanted
  cases hg : o.guard with
  | none => rfl
  | some gw =>
    obtain ⟨g, want⟩ := gw
    have hy : yielded l.toArray (pd l vals a0 ks).tmps g = yielded l.toArray (pd l vals a0 (waits o)).tmps g := by
      unfold yielded
      cases ht : (l.toArray[g]?).bind (·.dst) with
      | none => rfl
      | some t =>
        have hl : t ∈ looks l o := by
          unfold looks Oper.looksAt
          refine List.mem_append_right _ ?_
          rw [hg]
          simp only [ht]
          simp
        simp only [Option.bind_some, same_eval (vals := vals) (a0 := a0) hd ho hk t hl]
    simp only [hy]
theorem pd_vals {v v' : Nat → Value} (ks : List Nat) (h : ∀ k ∈ ks, v k = v' k) : pd l v a0 ks = pd l v' a0 ks := by
  induction ks with
  | nil => rfl
  | cons k ks ih => unfold pd; rw [ih fun j hj => h j (List.mem_cons_of_mem _ hj), h k (List.mem_cons_self ..)]
/-- An operation's own task. -/
def task (P : Program) (l : List Oper) (I : World → Prop) (R : World → World → Prop) (Vs : List Fact) (a0 : Act) (o : Oper) (V : Fact) : Prop :=
  ∀ (vals : Nat → Value) (w : World), I w → (∀ k ∈ waits o, ∀ W, Vs[k]? = some W → W (vals k) w) →
    if Region.wanted o (yielded l.toArray (pd l vals a0 (waits o)).tmps) = true then takes P (fun v w' => R w w' ∧ V v w') ((execOp (pd l vals a0 (waits o)).eval o).run P w) else V undef w
def tasks (P : Program) (l : List Oper) (I : World → Prop) (R : World → World → Prop) (Vs : List Fact) (a0 : Act) : List Oper → List Fact → Prop
  | [], _ => True
  | o :: r, V :: Us => task P l I R Vs a0 o V ∧ tasks P l I R Vs a0 r Us
  | _ :: _, [] => False
theorem tasks_at {I : World → Prop} {R : World → World → Prop} {Vs : List Fact} : ∀ (r : List Oper) (Us : List Fact), tasks P l I R Vs a0 r Us → ∀ (i : Nat) (o : Oper), r[i]? = some o → ∃ V, Us[i]? = some V ∧ task P l I R Vs a0 o V
  | [], _, _, i, o, h => by simp at h
  | x :: r, [], h, _, _, _ => h.elim
  | x :: r, V :: Us, h, i, o, ho => by
    cases i with
    | zero => simp at ho; subst ho; exact ⟨V, rfl, h.1⟩
    | succ i => exact tasks_at r Us h.2 i o (by simpa using ho)
theorem filter_less {p q : Nat → Bool} (L : List Nat) (h : ∀ i, q i = true → p i = true) (r : Nat) (hr : r ∈ L) (hp : p r = true) (hq : q r = false) : (L.filter q).length < (L.filter p).length := by
  have le : ∀ M : List Nat, (M.filter q).length ≤ (M.filter p).length := by
    intro M
    induction M with
    | nil => simp
    | cons a M ih =>
      by_cases hqa : q a = true
      · rw [List.filter_cons_of_pos hqa, List.filter_cons_of_pos (h a hqa)]; simp; exact ih
      · rw [List.filter_cons_of_neg hqa]
        by_cases hpa : p a = true
        · rw [List.filter_cons_of_pos hpa]; simp; omega
        · rw [List.filter_cons_of_neg hpa]; exact ih
  induction L with
  | nil => cases hr
  | cons a L ih =>
    rcases List.mem_cons.1 hr with rfl | hr'
    · rw [List.filter_cons_of_pos hp, List.filter_cons_of_neg (by rw [hq]; decide)]
      have := le L
      simp; omega
    · have := ih hr'
      by_cases hqa : q a = true
      · rw [List.filter_cons_of_pos hqa, List.filter_cons_of_pos (h a hqa)]; simp; exact this
      · rw [List.filter_cons_of_neg hqa]
        by_cases hpa : p a = true
        · rw [List.filter_cons_of_pos hpa]; simp; omega
        · rw [List.filter_cons_of_neg hpa]; exact this
/-- How far: just these are done. -/
def Done (l : List Oper) (listed : Array Bool) (ks : List Nat) : Prop := listed.size = l.length ∧ ∀ k, k < l.length → (listed[k]? = some true ↔ k ∈ ks) ∧ (listed[k]? = some false ↔ k ∉ ks)
theorem Done.more {listed : Array Bool} {ks : List Nat} (h : Done l listed ks) (i : Nat) (hi : i < l.length) : Done l (listed.setIfInBounds i true) (i :: ks) := by
  refine ⟨by simp [h.1], fun k hk => ?_⟩
  have h2 := h.2 k hk
  by_cases e : i = k
  · subst e
    rw [Array.getElem?_setIfInBounds, if_pos rfl, if_pos (by rw [h.1]; exact hi)]
    simp
  · rw [Array.getElem?_setIfInBounds_ne e]
    have : (k ∈ i :: ks) = (k ∈ ks) := by rw [List.mem_cons]; exact propext ⟨fun h => h.resolve_left (fun e' => e e'.symm), .inr⟩
    rw [this]; exact h2
variable {I : World → Prop} {R : World → World → Prop} {Vs : List Fact} {Q : Exit → Act → World → Prop}
theorem rel_go (hok : okFrom l 0 l = true) (hlen : Vs.length = l.length) (hRI : ∀ w w', I w → R w w' → I w') (hRV : ∀ V ∈ Vs, ∀ v w w', V v w → R w w' → V v w')
    (hT : tasks P l I R Vs a0 l Vs) (hQ : ∀ vals w, I w → (∀ (k : Nat) W, Vs[k]? = some W → W (vals k) w) → Q .normal (pd l vals a0 (List.range l.length).reverse) w) :
    ∀ (fuel : Nat) (listed : Array Bool) (ks : List Nat) (vals : Nat → Value) (w : World), Done l listed ks → ((List.range l.length).filter fun k => !ks.contains k).length ≤ fuel → I w → (∀ k ∈ ks, ∀ W, Vs[k]? = some W → W (vals k) w) →
      wpAny P .any l.toArray Q fuel listed (pd l vals a0 ks) w := by
  have hd : ∀ k d, dstOf l k = some d → owner l d = some k := by
    intro k d h
    unfold dstOf at h
    cases ho : l[k]? with
    | none => rw [ho] at h; cases h
    | some o =>
      rw [ho] at h
      have h1 := okFrom_at l 0 hok k o ho
      simp only [okOne, Bool.and_eq_true] at h1
      have h2 := h1.1.2
      have h3 : o.dst = some d := h
      rw [h3] at h2
      simpa using h2
  have fin : ∀ (listed : Array Bool) (ks : List Nat) (vals : Nat → Value) (w : World), Done l listed ks → (∀ k, k < l.length → k ∈ ks) → I w → (∀ k ∈ ks, ∀ W, Vs[k]? = some W → W (vals k) w) → Q .normal (pd l vals a0 ks) w := by
    intro listed ks vals w hD hall hI hF
    rw [pd_eq hd ks (List.range l.length).reverse fun k hk => ⟨fun _ => by simpa using hk, fun _ => hall k hk⟩]
    refine hQ vals w hI fun k W hW => hF k (hall k ?_) W hW
    have := (List.getElem?_eq_some_iff.1 hW).1
    omega
  have rdy : ∀ (listed : Array Bool) (ks : List Nat), Done l listed ks → (∀ k, k < l.length → k ∈ ks) → Region.ready .any l.toArray listed = [] := by
    intro listed ks hD hall
    cases hr : Region.ready .any l.toArray listed with
    | nil => rfl
    | cons j r =>
      have hj : j ∈ Region.ready .any l.toArray listed := by rw [hr]; exact List.mem_cons_self ..
      obtain ⟨h0, o, ho, _⟩ := mem_ready.1 hj
      have hjl : j < l.length := by
        rw [List.getElem?_toArray] at ho
        exact (List.getElem?_eq_some_iff.1 ho).1
      have := ((hD.2 j hjl).1).2 (hall j hjl)
      rw [Array.getD_eq_getD_getElem?, this] at h0
      cases h0
  have all_of : ∀ (listed : Array Bool) (ks : List Nat), Done l listed ks → Region.ready .any l.toArray listed = [] → ∀ k, k < l.length → k ∈ ks := by
    intro listed ks hD hr k
    induction k using Nat.strongRecOn with
    | _ k ih =>
      intro hk
      apply Decidable.byContradiction
      intro hn
      have hmem : k ∈ Region.ready .any l.toArray listed := by
        refine mem_ready.2 ⟨?_, l[k], by simp [hk], fun e he hb => ?_⟩
        · rw [Array.getD_eq_getD_getElem?, ((hD.2 k hk).2).2 hn]; rfl
        · have hw : e.on ∈ waits l[k] := List.mem_filterMap.2 ⟨e, by simpa using he, by simp [hb]⟩
          have h1 := okFrom_at l 0 hok k l[k] (List.getElem?_eq_getElem hk)
          simp only [okOne, Bool.and_eq_true] at h1
          have h2 : e.on < 0 + k := by simpa using List.all_eq_true.1 h1.1.1.1 e.on hw
          have h3 := ih e.on (by omega) (by omega)
          rw [Array.getD_eq_getD_getElem?, ((hD.2 e.on (by omega)).1).2 h3]; rfl
      rw [hr] at hmem
      cases hmem
  intro fuel
  induction fuel with
  | zero =>
    intro listed ks vals w hD hf hI hF
    have hall : ∀ k, k < l.length → k ∈ ks := by
      intro k hk
      apply Decidable.byContradiction
      intro hn
      have : k ∈ (List.range l.length).filter fun k => !ks.contains k := by simp [hk, hn]
      have := List.length_pos_of_mem this
      omega
    exact ⟨rdy listed ks hD hall, fin listed ks vals w hD hall hI hF⟩
  | succ fuel ih =>
    intro listed ks vals w hD hf hI hF
    refine ⟨fun hr => fin listed ks vals w hD (all_of listed ks hD hr) hI hF, fun i hi => ?_⟩
    obtain ⟨h0, o, ho, hall⟩ := mem_ready.1 hi
    have ho' : l[i]? = some o := by rw [List.getElem?_toArray] at ho; exact ho
    have hil : i < l.length := (List.getElem?_eq_some_iff.1 ho').1
    have hin : i ∉ ks := fun h => by
      have := ((hD.2 i hil).1).2 h
      rw [Array.getD_eq_getD_getElem?, this] at h0
      cases h0
    have hone : okOne l i o = true := by have := okFrom_at l 0 hok i o ho'; rwa [Nat.zero_add] at this
    have hwk : ∀ k ∈ waits o, k ∈ ks := by
      intro k hk
      obtain ⟨e, he, hek⟩ := List.mem_filterMap.1 hk
      split at hek
      · rename_i hb
        cases hek
        have h1 := hall e (by simpa using he) hb
        have hkl : e.on < l.length := by
          simp only [okOne, Bool.and_eq_true] at hone
          have := List.all_eq_true.1 hone.1.1.1 e.on hk
          have : e.on < i := by simpa using this
          omega
        refine ((hD.2 e.on hkl).1).1 ?_
        cases hg : listed[e.on]? with
        | none => rw [Array.getD_eq_getD_getElem?, hg] at h1; cases h1
        | some b => rw [Array.getD_eq_getD_getElem?, hg] at h1; simpa using h1
      · cases hek
    obtain ⟨V, hV, hTk⟩ := tasks_at l Vs hT i o ho'
    have htask := hTk vals w hI fun k hk W hW => hF k (hwk k hk) W hW
    have hcount : ((List.range l.length).filter fun k => !(i :: ks).contains k).length ≤ fuel := by
      have := filter_less (p := fun k => !ks.contains k) (q := fun k => !(i :: ks).contains k) (List.range l.length) (fun j hj => by simp at hj ⊢; exact hj.2) i (by simpa using hil) (by simpa using hin) (by simp)
      omega
    have next : ∀ v w', I w' → (∀ k ∈ ks, ∀ W, Vs[k]? = some W → W (vals k) w') → V v w' → wpAny P .any l.toArray Q fuel (listed.setIfInBounds i true) ((pd l vals a0 ks).put o.dst v) w' := by
      intro v w' hI' hF' hv
      have hvals : ∀ k ∈ ks, vals k = (fun k => if k = i then v else vals k) k := fun k hk => by
        have : k ≠ i := fun e => hin (e ▸ hk)
        simp [this]
      have e1 : (pd l vals a0 ks).put o.dst v = pd l (fun k => if k = i then v else vals k) a0 (i :: ks) := by
        show _ = (pd l (fun k => if k = i then v else vals k) a0 ks).put (dstOf l i) (if i = i then v else vals i)
        rw [← pd_vals ks hvals, if_pos rfl]
        unfold dstOf
        rw [ho']
        rfl
      rw [e1]
      refine ih _ (i :: ks) _ w' (hD.more i hil) hcount hI' fun k hk W hW => ?_
      rcases List.mem_cons.1 hk with rfl | hk
      · rw [hV] at hW; cases hW; simpa using hv
      · have := hF' k hk W hW
        rw [hvals k hk] at this
        exact this
    rw [← same_wanted (vals := vals) (a0 := a0) hd hone hwk, ← same_exec (vals := vals) (a0 := a0) hd hone hwk] at htask
    unfold wpOp
    rw [ho]
    simp only
    by_cases hw : Region.wanted o (yielded l.toArray (pd l vals a0 ks).tmps) = true
    · rw [if_pos hw] at htask ⊢
      refine .inl ?_
      unfold Oper.wp
      have keep : ∀ v w', (R w w' ∧ V v w') → wpAny P .any l.toArray Q fuel (listed.setIfInBounds i true) ((pd l vals a0 ks).put o.dst v) w' := fun v w' hk =>
        next v w' (hRI w w' hI hk.1) (fun k hk' W hW => hRV W (List.mem_of_getElem? hW) _ w w' (hF k hk' W hW) hk.1) hk.2
      generalize (execOp (pd l vals a0 ks).eval o).run P w = r at *
      cases r with
      | ok n w' =>
        cases n with
        | enter f args =>
          simp only [Oper.upon]
          exact htask.mono fun e w'' ⟨v, he, hk⟩ => by subst he; exact keep v w'' hk
        | value v => simp only [Oper.upon]; exact keep v w' htask
        | skip => simp only [Oper.upon]; exact keep undef w' htask
        | _ => exact htask.elim
      | halt x w' => exact htask.elim
    · rw [if_neg hw] at htask ⊢
      exact next undef w hI hF htask
/-- A region that draws its order, told by facts. -/
theorem region_rel {id : Nat} {a : Act} {w : World} (I : World → Prop) (R : World → World → Prop) (Vs : List Fact) (hm : P.follows .mixedOrders = true) (hok : okFrom l 0 l = true) (hlen : Vs.length = l.length) (hI : I w.drew)
    (hRI : ∀ w w', I w → R w w' → I w') (hRV : ∀ V ∈ Vs, ∀ v w w', V v w → R w w' → V v w') (hT : tasks P l I R Vs a l Vs)
    (hQ : ∀ vals w, I w → (∀ (k : Nat) W, Vs[k]? = some W → W (vals k) w) → Q .normal (pd l vals a (List.range l.length).reverse) w) : (Code.region id l.toArray true).wp P Q a w := by
  refine wp_region_any hm ?_
  have h := rel_go (a0 := a) hok hlen hRI hRV hT hQ l.toArray.size (Array.replicate l.toArray.size false) [] (fun _ => undef) w.drew ⟨by simp, fun k hk => by simp [hk]⟩ (by
    have := List.length_filter_le (fun k => !([] : List Nat).contains k) (List.range l.length)
    simpa using this) hI (fun k hk => by cases hk)
  simpa [pd] using h
/-- One operation's task, its act written out. -/
theorem task_if {o : Oper} {V : Fact} (ks : List Nat) (hk : waits o = ks) (a' : (Nat → Value) → Act) (ha : ∀ vals, pd l vals a0 ks = a' vals)
    (h : ∀ (vals : Nat → Value) (w : World), I w → (∀ k ∈ ks, ∀ W, Vs[k]? = some W → W (vals k) w) → if Region.wanted o (yielded l.toArray (a' vals).tmps) = true then takes P (fun v w' => R w w' ∧ V v w') ((execOp (a' vals).eval o).run P w) else V undef w) : task P l I R Vs a0 o V := by
  intro vals w hI hF
  subst hk
  rw [ha]
  exact h vals w hI hF
theorem task_yes {o : Oper} {V : Fact} (hg : o.guard = none) (ks : List Nat) (hk : waits o = ks) (a' : (Nat → Value) → Act) (ha : ∀ vals, pd l vals a0 ks = a' vals)
    (h : ∀ (vals : Nat → Value) (w : World), I w → (∀ k ∈ ks, ∀ W, Vs[k]? = some W → W (vals k) w) → takes P (fun v w' => R w w' ∧ V v w') ((execOp (a' vals).eval o).run P w)) : task P l I R Vs a0 o V :=
  task_if ks hk a' ha fun vals w hI hF => by
    rw [if_pos (by simp [Region.wanted, hg])]
    exact h vals w hI hF
theorem region_facts {id : Nat} {a : Act} {w : World} (I : World → Prop) (R : World → World → Prop) (Vs : List Fact) (hm : P.follows .mixedOrders = true) (hok : okFrom l 0 l = true) (hlen : Vs.length = l.length) (hI : I w.drew)
    (hRI : ∀ w w', I w → R w w' → I w') (hRV : ∀ V ∈ Vs, ∀ v w w', V v w → R w w' → V v w') (ks : List Nat) (hks : (List.range l.length).reverse = ks) (hT : tasks P l I R Vs a l Vs) (a' : (Nat → Value) → Act) (ha : ∀ vals, pd l vals a ks = a' vals)
    (hQ : ∀ vals w, I w → (∀ k ∈ ks.reverse, ∀ W, Vs[k]? = some W → W (vals k) w) → Q .normal (a' vals) w) : (Code.region id l.toArray true).wp P Q a w :=
  region_rel I R Vs hm hok hlen hI hRI hRV hT fun vals w hI hF => by
    rw [hks, ha]
    exact hQ vals w hI fun k _ W hW => hF k W hW
theorem pd_nil (l : List Oper) (vals : Nat → Value) (a0 : Act) : pd l vals a0 [] = a0 := rfl
theorem pd_cons (l : List Oper) (vals : Nat → Value) (a0 : Act) (k : Nat) (ks : List Nat) (d : Option Tmp) (h : dstOf l k = d) : pd l vals a0 (k :: ks) = (pd l vals a0 ks).put d (vals k) := by subst h; rfl
end
end Go.Proofs.YtohdldlagkmcnaaDoor.Rel
