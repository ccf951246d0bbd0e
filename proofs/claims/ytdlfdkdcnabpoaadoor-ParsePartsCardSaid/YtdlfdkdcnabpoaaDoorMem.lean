/- Words for slices and arrays: a slice that reads as a list, whole rows, a variable that is an array. Lemmas over any program. -/
import Derived.Test.YtdlfdkdcnabpoaaDoorOwn
import Derived.Laws.Rows
import Derived.Laws.Tables
import Derived.Laws.AppendOwn
import Derived.Laws.OwnMore
import Derived.Laws.AppendOwnNone
import Derived.OwnWalk
import Derived.Laws.BytesArg
import Derived.Lib.LazyBuf
namespace Go.Proofs.YtdlfdkdcnabpoaaDoor.Own
open Go.RowKit
section
variable {P : Program}
/-- A slice's cells, one a value: what stands at A reads as xs. -/
def Rd (w : World) (A : Option Addr) (xs : List Value) : Prop := ∀ i (h : i < xs.length), ∃ a, A = some a ∧ w.cell? (a.add i) = some xs[i]
theorem block_add (a : Addr) (n : Nat) : (a.add n).block = a.block := by unfold Addr.add; split <;> rfl
theorem add_add' (a : Addr) (i j : Nat) : (a.add i).add j = a.add (i + j) := by
  unfold Addr.add
  by_cases hi : i = 0 <;> by_cases hj : j = 0 <;> simp [hi, hj, Nat.add_assoc]
theorem Rd.nil (w : World) (A : Option Addr) : Rd w A [] := fun i h => absurd h (by simp)
theorem Rd.below {w w' : World} {A : Option Addr} {xs : List Value} (h : Rd w A xs) (hb : Below w.heap.size w w') : Rd w' A xs := by
  intro i hi
  obtain ⟨a, ha, hc⟩ := h i hi
  exact ⟨a, ha, (hb.cell (World.block_lt_of_cell? w _ hc)).trans hc⟩
theorem Rd.drop {w : World} {A : Option Addr} {xs : List Value} (h : Rd w A xs) (k : Nat) : Rd w (A.map (·.add k)) (xs.drop k) := by
  intro i hi
  rw [List.length_drop] at hi
  obtain ⟨a, ha, hc⟩ := h (k + i) (by omega)
  subst ha
  exact ⟨_, rfl, by rw [add_add', hc, List.getElem_drop]⟩
theorem Rd.take {w : World} {A : Option Addr} {xs : List Value} (h : Rd w A xs) (k : Nat) : Rd w A (xs.take k) := by
  intro i hi
  rw [List.length_take] at hi
  obtain ⟨a, ha, hc⟩ := h i (by omega)
  exact ⟨a, ha, by rw [hc, List.getElem_take]⟩
theorem Rd.at_ {w : World} {A : Option Addr} {xs : List Value} (h : Rd w A xs) {k : Nat} (hk : k < xs.length) : ∃ a, A = some a ∧ w.cell? (a.add k) = some xs[k] := h k hk
theorem At.row {w0 w : World} {L : List (Nat × List Value × TypeId)} (h : At w0 L w) (k : Nat) {g : Nat} {cs : List Value} {t : TypeId} (hk : L[k]? = some (g, cs, t)) : w.heap[g]? = some (.cells ⟨cs⟩ t (0, 0)) :=
  (h.blk _ (List.mem_of_getElem? hk)).2
theorem At.setRow {w0 w : World} {L : List (Nat × List Value × TypeId)} (h : At w0 L w) (k : Nat) {g : Nat} {cs : List Value} {t : TypeId} (hk : L[k]? = some (g, cs, t)) (cs' : Array Value) :
    At w0 (L.set k (g, cs'.toList, t)) (w.setRow g cs') := by
  have hm := List.mem_of_getElem? hk
  have hg := h.blk _ hm
  have hkl : k < L.length := (List.getElem?_eq_some_iff.1 hk).1
  have hke : L[k] = (g, cs, t) := (List.getElem?_eq_some_iff.1 hk).2
  have hne : ∀ (j : Nat) (hj : j < L.length), j ≠ k → L[j].1 ≠ g := by
    intro j hj hjk he
    have hp := List.pairwise_iff_getElem.1 h.nodup
    rcases Nat.lt_or_gt_of_ne hjk with hlt | hlt
    · exact hp j k hj hkl hlt (by rw [he, hke])
    · exact hp k j hkl hj hlt (by rw [he, hke])
  refine ⟨h.below.trans ⟨rfl, rfl, rfl, ?_, fun j hj => setRow_other w g j cs' (by have := hg.1; simp only at this; omega)⟩, ?_, ?_⟩
  · simp [World.setRow]
  · intro x hx
    obtain ⟨j, hj, rfl⟩ := List.mem_iff_getElem.1 hx
    rw [List.length_set] at hj
    rw [List.getElem_set]
    split
    · exact ⟨hg.1, setRow_heap w g _ cs' t (0, 0) hg.2⟩
    · rename_i hjk
      obtain ⟨h1, h2⟩ := h.blk L[j] (List.getElem_mem _)
      exact ⟨h1, (setRow_other w g _ cs' (hne j hj (fun e => hjk e.symm))).trans h2⟩
  · rw [List.pairwise_iff_getElem]
    intro a b ha hb hab
    rw [List.length_set] at ha hb
    rw [List.getElem_set, List.getElem_set]
    split
    · split
      · omega
      · rename_i h1 h2
        exact fun e => hne b hb (fun e' => h2 e'.symm) e.symm
    · split
      · rename_i h1 h2
        exact fun e => hne a ha (fun e' => h1 e'.symm) e
      · exact List.pairwise_iff_getElem.1 h.nodup a b ha hb hab
/-- A variable that is an array: its zeros behind a name. -/
theorem wpList_alloc_arr {ops : Array Oper} {rest : List Oper} {o : Oper} {a : Act} {w : World} {Q : Exit → Act → World → Prop} (hgd : o.guard = none) (ty : TypeId) (ho : o.op = .alloc ty) (zs : List Value)
    (hz : (P.info? ty).map (·.zero) = some (some (.agg ⟨zs⟩)))
    (h : wpList P ops Q rest (a.put o.dst (.pointer (some ⟨w.heap.size, 0, none⟩))) (w.alloc (.cells ⟨zs⟩ ty))) : wpList P ops Q (o :: rest) a w := by
  refine wpList_plain hgd fun K hK => ?_
  have hr : (zeroValue ty).run P w = .ok (.agg ⟨zs⟩) w := by
    cases hq : P.info? ty with
    | none => simp [hq] at hz
    | some i =>
      simp [hq] at hz
      simp [zeroValue, typeInfo, hq, hz]
  unfold Oper.wp execOp
  simp only [ho, Instr.alloc, Sem.run_bind, hr, Result.andThen_ok]
  exact hK _ _ h
end
/-- What has been made: v is a row of the call's own (from 'base' on) with the one-cell elements xs. -/
def Has (base : Nat) (e : TypeId) (v : Value) (xs : List Value) (w : World) : Prop := w.ownsRow base e 1 v xs.length xs
theorem Has.below {base : Nat} {e : TypeId} {v : Value} {xs : List Value} {w w' : World} (h : Has base e v xs w) (hb : Below w.heap.size w w') : Has base e v xs w' :=
  World.ownsRow.kept h (row := none) ⟨hb.os, hb.tape, hb.output, hb.size, fun k hk _ => hb.block k hk⟩ (by cases h' : v.ownBlock <;> simp)
theorem Has.form {base : Nat} {e : TypeId} {v : Value} {xs : List Value} {w : World} (h : Has base e v xs w) : ∃ A c, v = .slice A xs.length c ∧ xs.length ≤ c ∧ (A = none → c = 0) ∧ Rd w A xs := by
  obtain ⟨h1, ⟨rfl, h2⟩ | ⟨g, cap, cur, rfl, hb, hg, hn, hc, hs, ht⟩⟩ := h
  · have hx : xs = [] := List.eq_nil_of_length_eq_zero h2
    subst hx
    exact ⟨none, 0, rfl, Nat.le_refl _, fun _ => rfl, Rd.nil _ _⟩
  · refine ⟨some ⟨g, 0, none⟩, cap, rfl, hn, (fun h => nomatch h), ?_⟩
    intro i hi
    refine ⟨_, rfl, ?_⟩
    rw [show (⟨g, 0, none⟩ : Addr).add i = ⟨g, i, none⟩ from by unfold Addr.add; split <;> simp_all, cell_of_row w g i cur e (0, 0) hg]
    have h3 : (cur.toList.take (xs.length * 1))[i]? = xs[i]? := by rw [ht]
    rw [List.getElem?_take, if_pos (by omega)] at h3
    rw [← Array.getElem?_toList, h3, List.getElem?_eq_getElem hi]
theorem Has.blk {base : Nat} {e : TypeId} {v : Value} {xs : List Value} {w : World} (h : Has base e v xs w) : ∀ k, v.ownBlock = some k → base ≤ k ∧ k < w.heap.size := World.ownsRow.lt h
theorem Has.nil (base : Nat) (e : TypeId) (w : World) : Has base e (.slice none 0 0) [] w := World.ownsRow_nil w base e 1
theorem Has.lit {base : Nat} (e : TypeId) (w : World) (cs : List Value) (hb : base ≤ w.heap.size) (hm : cs.length ≤ maxLen) : Has base e (.slice (some ⟨w.heap.size, 0, none⟩) cs.length cs.length) cs (w.alloc (.cells ⟨cs⟩ e)) :=
  World.ownsRow_lit w ⟨cs⟩ cs.length hb hm (by simp)
/-- 'append(s, x...)' onto a row of the call's own, whatever the source. -/
theorem wpList_app {P : Program} {w : World} {ops : Array Oper} {rest : List Oper} {o : Oper} {a : Act} {Q : Exit → Act → World → Prop} (hgd : o.guard = none) (s x : Operand) (t : TypeId)
    (ho : o.op = .call { callee := .builtin .append, args := #[s, x], argTypes := #[t, t] }) (base : Nat) (e : TypeId) (z : Value) (by' : Nat) (ht : P.underlying t = some (.slice e))
    (hinfo : (P.info? e).map (fun i => (i.zero, i.size, i.bytes)) = some (some z, 1, by')) (hz : z.cells.size = 1)
    (v : Value) (xs : List Value) (hs : a.eval s = v) (hown : Has base e v xs w) (A : Option Addr) (m c : Nat) (ys : List Value) (hx : a.eval x = .slice A m c) (hm : m = ys.length) (hA : A = none → c = 0) (hR : Rd w A ys)
    (h1 : ∀ u ∈ ys, u.oneCell' = true) (h63 : xs.length + ys.length ≤ maxLen) (hbytes : (xs.length + ys.length) * by' ≤ 140737488355328) (hbase : base ≤ w.heap.size)
    (h : ∀ v' w', Has base e v' (xs ++ ys) w' → w.grownBy w' v.ownBlock → wpList P ops Q rest (a.put o.dst v') w') : wpList P ops Q (o :: rest) a w := by
  obtain ⟨i0, hi, hz0, hz1, hz2⟩ := info_parts hinfo
  subst hm
  cases A with
  | none =>
    have hy : ys = [] := by
      cases ys with
      | nil => rfl
      | cons y ys => obtain ⟨_, h0, _⟩ := hR 0 (by simp); cases h0
    subst hy
    obtain rfl := hA rfl
    refine wpList_append_own_none hgd s x t ho base e i0 1 ht hi v xs.length xs hs hown hx (h v w ?_ ⟨rfl, rfl, rfl, Nat.le_refl _, fun _ _ _ => rfl⟩)
    rw [List.append_nil]; exact hown
  | some ad =>
    refine wpList_append_own _ hgd s x t ho base e i0 z 1 by' ht hi hz0 hz1 hz2 hz (by decide) v xs.length xs hs hown ad ys.length c ys hx (by simp) ?_ h1 h63 hbytes hbase fun v' w' h2 h3 _ => h v' w' ?_ h3
    · intro j u hu
      obtain ⟨hj, rfl⟩ := List.getElem?_eq_some_iff.1 hu
      obtain ⟨a', ha', hc'⟩ := hR j hj
      cases ha'
      exact hc'
    · show w'.ownsRow base e 1 v' (xs ++ ys).length (xs ++ ys)
      rw [List.length_append]; exact h2
/-- '[]byte' as a string, whatever the slice. -/
theorem strOf (xs : List UInt8) : ((xs.map fun c => (c.toNat : Int)).map fun n => UInt8.ofNat n.toNat) = xs := by
  rw [List.map_map, show (fun n : Int => UInt8.ofNat n.toNat) ∘ (fun c : UInt8 => (c.toNat : Int)) = id from by funext c; simp, List.map_id]
/-- A byte as the number that it is; bytes as cells. -/
def nB (c : UInt8) : Int := c.toNat
theorem u8_lo (x : UInt8) : 0 ≤ nB x := Int.natCast_nonneg _
theorem u8_hi (x : UInt8) : nB x < 256 := by have := x.toNat_lt; unfold nB; omega
theorem nB_mod (x : UInt8) : nB x % 256 = nB x := Int.emod_eq_of_lt (u8_lo x) (u8_hi x)
theorem nB_tmod (x : UInt8) (k : Int) : (nB x).tmod k = nB x % k := Int.tmod_eq_emod_of_nonneg (u8_lo x)
theorem u8_inj {x y : UInt8} (h : nB x = nB y) : x = y := UInt8.toNat_inj.1 (by unfold nB at h; omega)
theorem u8_of (a : Int) (h : (Lit.int .u8 a).wf = true) : ∃ x, a = nB x := by
  have h0 : 0 ≤ a ∧ a < 256 := by
    simp [Lit.wf, IntKind.min, IntKind.max, IntKind.bits, IntKind.signed] at h
    omega
  exact ⟨UInt8.ofNat a.toNat, by unfold nB; simp; omega⟩
def bys (xs : List UInt8) : List Value := xs.map fun c => .int .u8 (nB c)
theorem bys_length (xs : List UInt8) : (bys xs).length = xs.length := by simp [bys]
theorem bys_append (xs ys : List UInt8) : bys (xs ++ ys) = bys xs ++ bys ys := by simp [bys]
theorem Rd.byte {w : World} {A : Option Addr} {xs : List UInt8} (h : Rd w A (bys xs)) {k : Nat} (hk : k < xs.length) : ∃ a, A = some a ∧ w.cell? (a.add k) = some (.int .u8 (nB (xs[k]'hk))) := by
  obtain ⟨a, ha, hc⟩ := h k (by rw [bys_length]; exact hk)
  exact ⟨a, ha, by rw [hc]; simp [bys]⟩
theorem bys_one (xs : List UInt8) : ∀ u ∈ bys xs, u.oneCell' = true := by
  intro u hu
  obtain ⟨c, _, rfl⟩ := List.mem_map.1 hu
  rfl
theorem run_string_of {P : Program} {w : World} {src e dst : TypeId} (hs : P.underlying src = some (.slice e)) (he : P.underlying e = some (.int .u8)) (hd : P.underlying dst = some .string) (A : Option Addr) (n c : Nat) (xs : List UInt8) (hn : n = xs.length) (hA : A = none → c = 0) (hR : Rd w A (bys xs)) :
    (convert src dst (.slice A n c)).run P w = .ok (.string ⟨xs.toArray⟩) w := by
  subst hn
  cases A with
  | none =>
    have hy : xs = [] := by
      cases xs with
      | nil => rfl
      | cons y ys => obtain ⟨_, h0, _⟩ := hR 0 (by simp [bys]); cases h0
    subst hy
    obtain rfl := hA rfl
    exact run_convert_bytes_nil w src e hs he 0 0 dst hd
  | some a =>
    have hl : (loadCells a xs.length).run P w = .ok ((xs.map fun c => (c.toNat : Int)).map (Value.int .u8)).toArray w := by
      have := run_loadCells_list (P := P) w a (bys xs) (fun j v hv => by
        obtain ⟨hj, rfl⟩ := List.getElem?_eq_some_iff.1 hv
        obtain ⟨a', ha', hc'⟩ := hR j hj
        cases ha'
        exact hc')
      rw [bys_length] at this
      rw [this, List.map_map]
      rfl
    rw [run_convert_bytes_string w src dst e _ _ c hs he hd, run_bytesToString w _ _ c _ hl, foldl_push_bytes, strOf]
    simp
end Go.Proofs.YtdlfdkdcnabpoaaDoor.Own
