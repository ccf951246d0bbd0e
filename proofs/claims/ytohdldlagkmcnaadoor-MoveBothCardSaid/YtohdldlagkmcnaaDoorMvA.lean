/- Chapter 30: what a way asks for, and what is used for it. -/
import Derived.Test.YtohdldlagkmcnaaDoorPlF
import Derived.Test.YtohdldlagkmcnaaDoorCapsD
import Derived.Test.YtohdldlagkmcnaaDoorMem2
namespace Go.Proofs.YtohdldlagkmcnaaDoor.Mv
set_option linter.unusedSimpArgs false
set_option linter.unusedVariables false
open Go.RowKit
open _root_.Go.Proofs.YtohdldlagkmcnaaDoor.Own
open Go.Proofs.YtohdldlagkmcnaaDoor.Pl
attribute [local go_sem] b16_and b16_or b16_andNot
section
variable {P : Program}
/-- A row of the call's own, of elements of any size. -/
def HasN (base : Nat) (e : TypeId) (sz : Nat) (v : Value) (n : Nat) (xs : List Value) (w : World) : Prop := w.ownsRow base e sz v n xs
theorem HasN.nil (base : Nat) (e : TypeId) (sz : Nat) (w : World) : HasN base e sz (.slice none 0 0) 0 [] w := World.ownsRow_nil w base e sz
theorem HasN.below {base : Nat} {e : TypeId} {sz : Nat} {v : Value} {n : Nat} {xs : List Value} {w w' : World} (h : HasN base e sz v n xs w) (hb : Below w.heap.size w w') : HasN base e sz v n xs w' :=
  World.ownsRow.kept h (row := none) ⟨hb.os, hb.tape, hb.output, hb.size, fun k hk _ => hb.block k hk⟩ (by cases h' : v.ownBlock <;> simp)
theorem HasN.form {base : Nat} {e : TypeId} {sz : Nat} {v : Value} {n : Nat} {xs : List Value} {w : World} (h : HasN base e sz v n xs w) : ∃ A c, v = .slice A n c ∧ n ≤ c ∧ (A = none → c = 0) ∧ Rd w A xs ∧ xs.length = n * sz ∧ ∀ a, A = some a → base ≤ a.block := by
  obtain ⟨h1, ⟨rfl, rfl⟩ | ⟨g, cap, cur, rfl, hb, hg, hn, hc, hs, ht⟩⟩ := h
  · have hx : xs = [] := List.eq_nil_of_length_eq_zero (by simpa using h1)
    subst hx
    exact ⟨none, 0, rfl, Nat.le_refl _, fun _ => rfl, Rd.nil _ _, h1, fun a e => nomatch e⟩
  · refine ⟨some ⟨g, 0, none⟩, cap, rfl, hn, (fun h => nomatch h), ?_, h1, fun a e => by cases e; exact hb⟩
    intro i hi
    refine ⟨_, rfl, ?_⟩
    rw [show (⟨g, 0, none⟩ : Addr).add i = ⟨g, i, none⟩ from by unfold Addr.add; split <;> simp_all, cell_of_row w g i cur e (0, 0) hg]
    have h3 : (cur.toList.take (n * sz))[i]? = xs[i]? := by rw [ht]
    rw [List.getElem?_take, if_pos (by omega)] at h3
    rw [← Array.getElem?_toList, h3, List.getElem?_eq_getElem hi]
/-- 'append(s, x...)' of elements of any size, from a known row. -/
theorem wpList_appN {w : World} {ops : Array Oper} {rest : List Oper} {o : Oper} {a : Act} {Q : Exit → Act → World → Prop} (hgd : o.guard = none) (s x : Operand) (t : TypeId)
    (ho : o.op = .call { callee := .builtin .append, args := #[s, x], argTypes := #[t, t] }) (base : Nat) (e : TypeId) (z : Value) (sz by' : Nat) (ht : P.underlying t = some (.slice e))
    (hinfo : (P.info? e).map (fun i => (i.zero, i.size, i.bytes)) = some (some z, sz, by')) (hz : z.cells.size = sz) (hsz : 0 < sz)
    (v : Value) (n : Nat) (xs : List Value) (hs : a.eval s = v) (hown : HasN base e sz v n xs w) (ad : Addr) (m c : Nat) (ys : List Value) (hx : a.eval x = .slice (some ad) m c) (hm : ys.length = m * sz) (hR : Rd w (some ad) ys)
    (h1 : ∀ u ∈ ys, u.oneCell' = true) (h63 : n + m ≤ maxLen) (hbytes : (n + m) * by' ≤ 140737488355328) (hbase : base ≤ w.heap.size)
    (h : ∀ v' w', HasN base e sz v' (n + m) (xs ++ ys) w' → w.grownBy w' v.ownBlock → wpList P ops Q rest (a.put o.dst v') w') : wpList P ops Q (o :: rest) a w := by
  obtain ⟨i0, hi, hz0, hz1, hz2⟩ := info_parts hinfo
  refine wpList_append_own _ hgd s x t ho base e i0 z sz by' ht hi hz0 hz1 hz2 hz hsz v n xs hs hown ad m c ys hx hm ?_ h1 h63 hbytes hbase fun v' w' h2 h3 _ => h v' w' h2 h3
  intro j u hu
  obtain ⟨hj, rfl⟩ := List.getElem?_eq_some_iff.1 hu
  obtain ⟨a', ha', hc'⟩ := hR j hj
  cases ha'
  exact hc'
end
/-- What flows into what, as cells. -/
def flC (k : Int) (a b c d : BitVec 16) : List Value := [.int .i64 k, .int .u16 (nH a), .int .u16 (nH b), .int .u16 (nH c), .int .u16 (nH d)]
theorem infoFl : (Tryd.prog.info? 60).map (fun i => (i.zero, i.size, i.bytes)) = some (some (.agg #[.int .i64 0, .int .u16 0, .int .u16 0, .int .u16 0, .int .u16 0]), 5, 16) := by kernel_rfl
theorem flC_one (k : Int) (a b c d : BitVec 16) : ∀ u ∈ flC k a b c d, u.oneCell' = true := by
  intro u hu
  simp only [flC, List.mem_cons, List.not_mem_nil, or_false] at hu
  rcases hu with rfl | rfl | rfl | rfl | rfl <;> rfl
theorem below_none {w w' : World} {B : Nat} (h : w.grownBy w' none) (hB : B ≤ w.heap.size) : Below B w w' := ⟨h.os, h.tape, h.output, h.size, fun k hk => h.block k (by omega) (by simp)⟩
theorem below_row {w0 w w' : World} {B : Nat} {row : Option Nat} (hb : Below B w0 w) (h : w.grownBy w' row) (hr : ∀ k, row = some k → B ≤ k) (hB : B ≤ w.heap.size := by omega) : Below B w0 w' :=
  hb.trans ⟨h.os, h.tape, h.output, h.size, fun k hk => h.block k (by omega) (fun e => by have := hr k e.symm; omega)⟩
/-- The flows of a way. -/
def flowsN (way : Int) : Nat := if way = 3 then 2 else 1
def flowsC (way : Int) (oS oI xS xI : BitVec 16) : List Value :=
  if way = 1 then flC 1 oS oI xS xI else if way = 2 then flC 2 xS xI oS oI else flC 2 xS xI oS oI ++ flC 1 oS oI xS xI
set_option maxRecDepth 10000 in
set_option maxHeartbeats 2000000 in
theorem flows_calls (way : Int) (hw : way = 1 ∨ way = 2 ∨ way = 3) (oS oI xS xI : BitVec 16) (w : World) :
    Calls Tryd.prog 24 #[.agg #[.int .u16 (nH oS), .int .u16 (nH oI)], .agg #[.int .u16 (nH xS), .int .u16 (nH xI)], .int .i64 way] w fun e w' => ∃ v, e = .returned v ∧ HasN w.heap.size 60 5 v (flowsN way) (flowsC way oS oI xS xI) w' ∧ Below w.heap.size w w' := by
  have hA := ((At.refl w).alloc [.int .u16 (nH oS), .int .u16 (nH oI)] 24).alloc [.int .u16 (nH xS), .int .u16 (nH xI)] 24
  simp only [World.size_alloc] at hA
  have HA := Lib.hid hA
  clear hA
  rcases hw with rfl | rfl | rfl
  · go_enter Tryd.func24, Tryd.ntmps24
    go_wp2_with (at_builtin; refine wpList_appN rfl _ _ 57 rfl w.heap.size 60 _ 5 16 Tryd.underlying57 infoFl rfl (by decide) _ 0 [] rfl (HasN.nil _ _ _ _) _ 1 1 (flC 1 oS oI xS xI) rfl rfl ?hRd ?h1 ?hCap ?hCap2 ?hBase ?_)
    case hRd => exact Rd.put _ (by simp) (flC 1 oS oI xS xI) _ _
    case h1 => exact flC_one _ _ _ _ _
    case hCap => simp [maxLen]
    case hCap2 => decide
    case hBase => simp only [World.size_alloc]; omega
    intro v1 w1 ho1 hg1
    have HO1 := Lib.hid ho1
    have HB1 := Lib.hid ((HA.out.below.alloc HA.out.below.size _).trans (below_none hg1 (by have := HA.out.below.size; rw [World.size_alloc]; exact Nat.le_succ_of_le this)))
    clear ho1 hg1
    go_wp2_with fail
    go_ret
    exact ⟨_, rfl, HO1.out, HB1.out⟩
  · go_enter Tryd.func24, Tryd.ntmps24
    go_wp2_with (at_builtin; refine wpList_appN rfl _ _ 57 rfl w.heap.size 60 _ 5 16 Tryd.underlying57 infoFl rfl (by decide) _ 0 [] rfl (HasN.nil _ _ _ _) _ 1 1 (flC 2 xS xI oS oI) rfl rfl ?hRd ?h1 ?hCap ?hCap2 ?hBase ?_)
    case hRd => exact Rd.put _ (by simp) (flC 2 xS xI oS oI) _ _
    case h1 => exact flC_one _ _ _ _ _
    case hCap => simp [maxLen]
    case hCap2 => decide
    case hBase => simp only [World.size_alloc]; omega
    intro v1 w1 ho1 hg1
    have HO1 := Lib.hid ho1
    have HB1 := Lib.hid ((HA.out.below.alloc HA.out.below.size _).trans (below_none hg1 (by have := HA.out.below.size; rw [World.size_alloc]; exact Nat.le_succ_of_le this)))
    clear ho1 hg1
    go_wp2_with fail
    go_ret
    exact ⟨_, rfl, HO1.out, HB1.out⟩
  · go_enter Tryd.func24, Tryd.ntmps24
    go_wp2_with (at_builtin; refine wpList_appN rfl _ _ 57 rfl w.heap.size 60 _ 5 16 Tryd.underlying57 infoFl rfl (by decide) _ 0 [] rfl (HasN.nil _ _ _ _) _ 1 1 (flC 2 xS xI oS oI) rfl rfl ?hRd ?h1 ?hCap ?hCap2 ?hBase ?_)
    case hRd => exact Rd.put _ (by simp) (flC 2 xS xI oS oI) _ _
    case h1 => exact flC_one _ _ _ _ _
    case hCap => simp [maxLen]
    case hCap2 => decide
    case hBase => simp only [World.size_alloc]; omega
    intro v1 w1 ho1 hg1
    have HO1 := Lib.hid ho1
    have HA1 := Lib.hid ((HA.out.other _).call (below_none hg1 (Nat.le_refl _)))
    have r0 : w1.cell? ⟨w.heap.size, 0, none⟩ = some (.int .u16 (nH oS)) := (HA1.out.rules _ (List.mem_cons_of_mem _ (List.mem_cons_self ..))).1 0
    have r1 : w1.cell? ⟨w.heap.size, 1, none⟩ = some (.int .u16 (nH oI)) := (HA1.out.rules _ (List.mem_cons_of_mem _ (List.mem_cons_self ..))).1 1
    have r2 : w1.cell? ⟨w.heap.size + 1, 0, none⟩ = some (.int .u16 (nH xS)) := (HA1.out.rules _ (List.mem_cons_self ..)).1 0
    have r3 : w1.cell? ⟨w.heap.size + 1, 1, none⟩ = some (.int .u16 (nH xI)) := (HA1.out.rules _ (List.mem_cons_self ..)).1 1
    clear ho1 hg1
    go_wp2_with (at_builtin; refine wpList_appN rfl _ _ 57 rfl w.heap.size 60 _ 5 16 Tryd.underlying57 infoFl rfl (by decide) _ 1 (flC 2 xS xI oS oI) rfl (World.ownsRow.alloc HO1.out _) _ 1 1 (flC 1 oS oI xS xI) rfl rfl ?hRd2 ?h12 ?hCap3 ?hCap4 ?hBase2 ?_)
    case hRd2 => exact Rd.put _ (by simp) (flC 1 oS oI xS xI) _ _
    case h12 => exact flC_one _ _ _ _ _
    case hCap3 => simp [maxLen]
    case hCap4 => decide
    case hBase2 => have := HA1.out.below.size; simp only [World.size_alloc]; omega
    intro v2 w2 ho2 hg2
    have HO2 := Lib.hid ho2
    have HB2 := Lib.hid (below_row (HA1.out.below.alloc HA1.out.below.size _) hg2 (fun k hk => (World.ownsRow.lt HO1.out k hk).1) (by have := HA1.out.below.size; rw [World.size_alloc]; exact Nat.le_succ_of_le this))
    clear ho2 hg2 r0 r1 r2 r3
    go_wp2_with fail
    go_ret
    exact ⟨_, rfl, HO2.out, HB2.out⟩
end Go.Proofs.YtohdldlagkmcnaaDoor.Mv
