/- Rows of elements of any size: made ones, and slices that are read. Lemmas over any program. -/
import Derived.Test.YtdlfdkdcnabpoaaDoorMem2
namespace Go.Proofs.YtdlfdkdcnabpoaaDoor.Own
open Go.RowKit
section
variable {P : Program}
/-- A row of the call's own, of elements of any size. -/
def HasN (base : Nat) (e : TypeId) (sz : Nat) (v : Value) (n : Nat) (xs : List Value) (w : World) : Prop := w.ownsRow base e sz v n xs
theorem HasN.nil (base : Nat) (e : TypeId) (sz : Nat) (w : World) : HasN base e sz (.slice none 0 0) 0 [] w := World.ownsRow_nil w base e sz
theorem HasN.below {base : Nat} {e : TypeId} {sz : Nat} {v : Value} {n : Nat} {xs : List Value} {w w' : World} (h : HasN base e sz v n xs w) (hb : Below w.heap.size w w') : HasN base e sz v n xs w' :=
  World.ownsRow.kept h (row := none) ⟨hb.os, hb.tape, hb.output, hb.size, fun k hk _ => hb.block k hk⟩ (by cases h' : v.ownBlock <;> simp)
theorem HasN.blk {base : Nat} {e : TypeId} {sz : Nat} {v : Value} {n : Nat} {xs : List Value} {w : World} (h : HasN base e sz v n xs w) : ∀ k, v.ownBlock = some k → base ≤ k ∧ k < w.heap.size := World.ownsRow.lt h
theorem HasN.alloc {base : Nat} {e : TypeId} {sz : Nat} {v : Value} {n : Nat} {xs : List Value} {w : World} (h : HasN base e sz v n xs w) (o : Obj) : HasN base e sz v n xs (w.alloc o) := h.below ((Below.refl _ _).alloc (Nat.le_refl _) o)
theorem HasN.form {base : Nat} {e : TypeId} {sz : Nat} {v : Value} {n : Nat} {xs : List Value} {w : World} (h : HasN base e sz v n xs w) : ∃ A c, v = .slice A n c ∧ n ≤ c ∧ (A = none → c = 0) ∧ Rd w A xs ∧ xs.length = n * sz ∧ ∀ a, A = some a → base ≤ a.block := by
  obtain ⟨h1, ⟨rfl, rfl⟩ | ⟨g, cap, cur, rfl, hb, hg, hn, hc, hs, ht⟩⟩ := h
  · have hx : xs = [] := List.eq_nil_of_length_eq_zero (by simpa using h1)
    subst hx
    exact ⟨none, 0, rfl, Nat.le_refl _, fun _ => rfl, Rd.nil _ _, h1, fun a e => nomatch e⟩
  · refine ⟨some ⟨g, 0, none⟩, cap, rfl, hn, (fun h => nomatch h), ?_, h1, fun a e => by cases e; exact hb⟩
    intro i hi
    refine ⟨_, rfl, ?_⟩
    rw [show (⟨g, 0, none⟩ : Addr).add i = ⟨g, i, none⟩ from by unfold Addr.add; split <;> simp_all, cell_of_row w g i cur e (0, 0) hg]
    have h3 : (cur.toList.take (n * sz))[i]? = xs[i]? := by rw [ht]
    rw [List.getElem?_take, if_pos (by omega)] at h3
    rw [← Array.getElem?_toList, h3, List.getElem?_eq_getElem hi]
/-- 'append(s, x...)' of elements of any size, from a known row. -/
theorem wpList_appN {w : World} {ops : Array Oper} {rest : List Oper} {o : Oper} {a : Act} {Q : Exit → Act → World → Prop} (hgd : o.guard = none) (s x : Operand) (t : TypeId)
    (ho : o.op = .call { callee := .builtin .append, args := #[s, x], argTypes := #[t, t] }) (base : Nat) (e : TypeId) (z : Value) (sz by' : Nat) (ht : P.underlying t = some (.slice e))
    (hinfo : (P.info? e).map (fun i => (i.zero, i.size, i.bytes)) = some (some z, sz, by')) (hz : z.cells.size = sz) (hsz : 0 < sz)
    (v : Value) (n : Nat) (xs : List Value) (hs : a.eval s = v) (hown : HasN base e sz v n xs w) (ad : Addr) (m c : Nat) (ys : List Value) (hx : a.eval x = .slice (some ad) m c) (hm : ys.length = m * sz) (hR : Rd w (some ad) ys)
    (h1 : ∀ u ∈ ys, u.oneCell' = true) (h63 : n + m ≤ maxLen) (hbytes : (n + m) * by' ≤ 140737488355328) (hbase : base ≤ w.heap.size)
    (h : ∀ v' w', HasN base e sz v' (n + m) (xs ++ ys) w' → w.grownBy w' v.ownBlock → wpList P ops Q rest (a.put o.dst v') w') : wpList P ops Q (o :: rest) a w := by
  obtain ⟨i0, hi, hz0, hz1, hz2⟩ := info_parts hinfo
  refine wpList_append_own _ hgd s x t ho base e i0 z sz by' ht hi hz0 hz1 hz2 hz hsz v n xs hs hown ad m c ys hx hm ?_ h1 h63 hbytes hbase fun v' w' h2 h3 _ => h v' w' h2 h3
  intro j u hu
  obtain ⟨hj, rfl⟩ := List.getElem?_eq_some_iff.1 hu
  obtain ⟨a', ha', hc'⟩ := hR j hj
  cases ha'
  exact hc'
end
theorem below_none {w w' : World} {B : Nat} (h : w.grownBy w' none) (hB : B ≤ w.heap.size) : Below B w w' := ⟨h.os, h.tape, h.output, h.size, fun k hk => h.block k (by omega) (by simp)⟩
theorem below_row {w0 w w' : World} {B : Nat} {row : Option Nat} (hb : Below B w0 w) (h : w.grownBy w' row) (hr : ∀ k, row = some k → B ≤ k) (hB : B ≤ w.heap.size := by omega) : Below B w0 w' :=
  hb.trans ⟨h.os, h.tape, h.output, h.size, fun k hk => h.block k (by omega) (fun e => by have := hr k e.symm; omega)⟩
theorem addPos (a : Addr) (k : Nat) (hk : 0 < k) : a.add k = ⟨a.block, a.off + k, none⟩ := by unfold Addr.add; rw [if_neg (by omega)]
/-- A slice that reads as a list, one place. -/
theorem Rd.cell {w : World} {ad : Addr} {xs : List Value} (h : Rd w (some ad) xs) {k : Nat} {v : Value} (hk : xs[k]? = some v) : w.cell? (ad.add k) = some v := by
  obtain ⟨hk', rfl⟩ := List.getElem?_eq_some_iff.1 hk
  obtain ⟨a, ha, hc⟩ := h k hk'
  cases ha
  exact hc
/-- .. and the f-th cell of its j-th element, as a walk asks for it. -/
theorem Rd.part {w : World} {ad : Addr} {xs : List Value} (h : Rd w (some ad) xs) {j f sz : Nat} (hf : 0 < f) {v : Value} (hk : xs[j * sz + f]? = some v) : w.cell? ⟨(ad.add (j * sz)).block, (ad.add (j * sz)).off + f, none⟩ = some v := by
  rw [← addPos _ f hf, add_add']
  exact h.cell hk
end Go.Proofs.YtdlfdkdcnabpoaaDoor.Own
