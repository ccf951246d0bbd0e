/- Chapter 07: what DiskKeeps keeps: the disk, and two arrays of the caller's. -/
import Derived.Test.YtinommcocgnmlaaDkP
import Derived.Laws.OwnMore
namespace Go.Proofs.Ytinommcocgnmlaa.Dk
open Go.RowKit _root_.Go.Proofs.Ytinommcocgnmlaa.Own
set_option linter.unusedVariables false
set_option linter.unusedSimpArgs false
theorem putRow_get (all x : List UInt8) (n i p : Nat) (hl : all.length = n * 128) (hi : i < n) (hx : x.length = 128) : (putRow all i x)[p]? = if p < i * 128 then all[p]? else if p < i * 128 + 128 then x[p - i * 128]? else all[p]? := by
  unfold putRow
  have e1 : (all.take (i * 128)).length = i * 128 := by rw [List.length_take]; omega
  rw [List.getElem?_append, List.length_append, e1, hx]
  by_cases h1 : p < i * 128
  · rw [if_pos (by omega), List.getElem?_append, e1, if_pos h1, if_pos h1, List.getElem?_take, if_pos h1]
  · rw [if_neg h1]
    by_cases h2 : p < i * 128 + 128
    · rw [if_pos h2, if_pos h2, List.getElem?_append, e1, if_neg h1]
    · rw [if_neg h2, if_neg h2, List.getElem?_drop, show i * 128 + 128 + (p - (i * 128 + 128)) = p by omega]
theorem rowB_get (all : List UInt8) (j q : Nat) : (rowB all j)[q]? = if q < 128 then all[j * 128 + q]? else none := by
  unfold rowB
  rw [List.getElem?_take]
  split
  · rw [List.getElem?_drop]
  · rfl
theorem rowB_put (all x : List UInt8) (n i j : Nat) (hl : all.length = n * 128) (hi : i < n) (hj : j < n) (hx : x.length = 128) : rowB (putRow all i x) j = if j = i then x else rowB all j := by
  apply List.ext_getElem?
  intro q
  rw [rowB_get]
  by_cases h1 : q < 128
  · rw [if_pos h1, putRow_get all x n i _ hl hi hx]
    by_cases h2 : j = i
    · subst h2
      rw [if_pos rfl, if_neg (by omega), if_pos (by omega), show j * 128 + q - j * 128 = q by omega]
    · rw [if_neg h2, rowB_get, if_pos h1]
      by_cases h3 : j < i
      · rw [if_pos (by omega)]
      · rw [if_neg (by omega), if_neg (by omega)]
  · rw [if_neg h1]
    split
    · rw [List.getElem?_eq_none (by omega)]
    · rw [rowB_get, if_neg h1]
def bos (l : List Bool) : List Value := l.map Value.bool
structure KI (d : D) (la : List UInt8) (ha : List Bool) (i : Nat) : Prop where
  off : d.off = false
  arm : d.armed = false
  wr : d.writes = i
  lb : -(i : Int) ≤ d.left ∧ d.left ≤ 0
  len : d.all.length = 16 * 128
  lal : la.length = 16
  hal : ha.length = 16
  row : ∀ k, k < 16 → rowB d.all k = if ha.getD k false = true then ups (la.getD k 0) 128 else List.replicate 128 0
theorem KI.new : KI (D0 16) (List.replicate 16 0) (List.replicate 16 false) 0 := by
  refine ⟨rfl, rfl, rfl, ⟨Int.le_refl 0, Int.le_refl 0⟩, List.length_replicate, List.length_replicate, List.length_replicate, fun k hk => ?_⟩
  rw [if_neg]
  · apply List.ext_getElem?
    intro q
    rw [rowB_get]
    split
    · simp only [D0, List.getElem?_replicate]
      rw [if_pos (by omega), if_pos (by omega)]
    · rw [List.getElem?_eq_none (by rw [List.length_replicate]; omega)]
  · rw [List.getD_eq_getElem?_getD, List.getElem?_replicate, if_pos hk]
    exact Bool.noConfusion
theorem KI.write {d : D} {la : List UInt8} {ha : List Bool} {i : Nat} (h : KI d la ha i) (k : Nat) (hk : k < 16) (b : UInt8) :
    KI { d with all := putRow d.all k (ups b 128), left := d.left - 1, writes := d.writes + 1 } (la.set k b) (ha.set k true) (i + 1) := by
  have hub := ups_length b 128
  refine ⟨h.off, h.arm, ?_, ?_, ?_, by rw [List.length_set]; exact h.lal, by rw [List.length_set]; exact h.hal, fun j hj => ?_⟩
  · have := h.wr; simp only; omega
  · have := h.lb; simp only; omega
  · exact putRow_length _ _ 16 k h.len hk hub
  · simp only
    rw [rowB_put _ _ 16 k j h.len hk hj hub]
    have hl := h.lal
    have hh := h.hal
    by_cases e : j = k
    · subst e
      rw [if_pos rfl, if_pos]
      · congr 1
        simp [List.getD_eq_getElem?_getD, List.getElem?_set, hl, hj]
      · simp [List.getD_eq_getElem?_getD, List.getElem?_set, hh, hj]
    · rw [if_neg e, h.row j hj]
      have e' : k ≠ j := fun q => e q.symm
      simp only [List.getD_eq_getElem?_getD, List.getElem?_set_ne e']
structure KS (w0 : World) (g r X Y : Nat) (d : D) (la : List UInt8) (ha : List Bool) (w : World) : Prop where
  below : Below w0.heap.size w0 w
  is : Is g r 16 16 [] d w
  xs : w.heap[X]? = some (.cells ⟨bys la⟩ 49 (0, 0))
  ys : w.heap[Y]? = some (.cells ⟨bos ha⟩ 50 (0, 0))
  own : w0.heap.size ≤ g ∧ w0.heap.size ≤ r ∧ w0.heap.size ≤ X ∧ w0.heap.size ≤ Y
theorem KS.call {w0 : World} {g r X Y : Nat} {d : D} {la : List UInt8} {ha : List Bool} {w w' : World} (p : KS w0 g r X Y d la ha w) (hb : Below w.heap.size w w') : KS w0 g r X Y d la ha w' :=
  ⟨p.below.trans (hb.mono p.below.size), p.is.below hb, (hb.block X (blk_lt p.xs)).trans p.xs, (hb.block Y (blk_lt p.ys)).trans p.ys, p.own⟩
theorem KS.ne {w0 : World} {g r X Y : Nat} {d : D} {la : List UInt8} {ha : List Bool} {w : World} (p : KS w0 g r X Y d la ha w) : X ≠ g ∧ X ≠ r ∧ Y ≠ g ∧ Y ≠ r ∧ X ≠ Y := by
  refine ⟨?_, ?_, ?_, ?_, ?_⟩ <;> intro e <;> subst e
  · have := p.xs.symm.trans p.is.own; simp at this
  · have := p.xs.symm.trans p.is.row; simp at this
  · have := p.ys.symm.trans p.is.own; simp at this
  · have := p.ys.symm.trans p.is.row; simp at this
  · have := p.xs.symm.trans p.ys; simp at this
theorem KS.turn {w0 : World} {g r X Y : Nat} {d d' : D} {la : List UInt8} {ha : List Bool} {w w' : World} (p : KS w0 g r X Y d la ha w) (ho : Only [g, r] w w') (hi : Is g r 16 16 [] d' w') : KS w0 g r X Y d' la ha w' := by
  obtain ⟨n1, n2, n3, n4, -⟩ := p.ne
  refine ⟨p.below.trans (ho.less ?_ p.below.size), hi, ?_, ?_, p.own⟩
  · intro k hk; simp at hk; rcases hk with rfl | rfl; exact p.own.1; exact p.own.2.1
  · rw [ho.keep X (blk_lt p.xs) (by simp [n1, n2])]; exact p.xs
  · rw [ho.keep Y (blk_lt p.ys) (by simp [n3, n4])]; exact p.ys
/-- Another block of the caller's turns. -/
theorem KS.other {w0 : World} {g r X Y : Nat} {d : D} {la : List UInt8} {ha : List Bool} {w w' : World} (p : KS w0 g r X Y d la ha w) {z : Nat} (ho : Only [z] w w') (hz : w0.heap.size ≤ z) (h1 : z ≠ g ∧ z ≠ r ∧ z ≠ X ∧ z ≠ Y) : KS w0 g r X Y d la ha w' := by
  have k := fun q (hq : q < w.heap.size) (hn : z ≠ q) => ho.keep q hq (by simp; exact fun e => hn e.symm)
  refine ⟨p.below.trans (ho.less (by intro k hk; simp at hk; subst hk; exact hz) p.below.size), ⟨(k g (blk_lt p.is.own) h1.1).trans p.is.own, (k r (blk_lt p.is.row) h1.2.1).trans p.is.row, p.is.len⟩, (k X (blk_lt p.xs) h1.2.2.1).trans p.xs, (k Y (blk_lt p.ys) h1.2.2.2).trans p.ys, p.own⟩
theorem KS.setX {w0 : World} {g r X Y : Nat} {d : D} {la : List UInt8} {ha : List Bool} {w : World} (p : KS w0 g r X Y d la ha w) (k : Nat) (b : UInt8) : KS w0 g r X Y d (la.set k b) ha (w.setCell ⟨X, k, none⟩ (.int .u8 (nB b))) := by
  obtain ⟨n1, n2, n3, n4, n5⟩ := p.ne
  have ho := only_setCell w X k (.int .u8 (nB b))
  have kk := fun q (hq : q < w.heap.size) (hn : X ≠ q) => ho.keep q hq (by simp; exact fun e => hn e.symm)
  refine ⟨p.below.trans (ho.less (by intro k hk; simp at hk; subst hk; exact p.own.2.2.1) p.below.size), ⟨(kk g (blk_lt p.is.own) n1).trans p.is.own, (kk r (blk_lt p.is.row) n2).trans p.is.row, p.is.len⟩, ?_, (kk Y (blk_lt p.ys) n5).trans p.ys, p.own⟩
  rw [heap_setCell_list p.xs]
  simp [bys, List.map_set]
theorem KS.setY {w0 : World} {g r X Y : Nat} {d : D} {la : List UInt8} {ha : List Bool} {w : World} (p : KS w0 g r X Y d la ha w) (k : Nat) (b : Bool) : KS w0 g r X Y d la (ha.set k b) (w.setCell ⟨Y, k, none⟩ (.bool b)) := by
  obtain ⟨n1, n2, n3, n4, n5⟩ := p.ne
  have ho := only_setCell w Y k (.bool b)
  have kk := fun q (hq : q < w.heap.size) (hn : Y ≠ q) => ho.keep q hq (by simp; exact fun e => hn e.symm)
  refine ⟨p.below.trans (ho.less (by intro k hk; simp at hk; subst hk; exact p.own.2.2.2) p.below.size), ⟨(kk g (blk_lt p.is.own) n3).trans p.is.own, (kk r (blk_lt p.is.row) n4).trans p.is.row, p.is.len⟩, (kk X (blk_lt p.xs) (Ne.symm n5)).trans p.xs, ?_, p.own⟩
  rw [heap_setCell_list p.ys]
  simp [bos, List.map_set]
/-- What has been made, as a block. -/
theorem Has.row {base : Nat} {e : TypeId} {v : Value} {xs : List UInt8} {w : World} (h : Has base e v (bys xs) w) (n : Nat) (hn : xs.length = n + 1) : ∃ g cap, v = .slice (some ⟨g, 0, none⟩) (n + 1) cap ∧ n + 1 ≤ cap ∧ base ≤ g ∧ (∀ j, j < n + 1 → w.cell? ⟨g, j, none⟩ = (bys xs)[j]?) ∧ (∀ j, w.frozen? ⟨g, j, none⟩ = false) ∧ Rd w (some ⟨g, 0, none⟩) (bys xs) := by
  have h0 := h
  obtain ⟨h1, ⟨rfl, h2⟩ | ⟨g, cap, cur, rfl, hb, hg, hnn, hc, hs, ht⟩⟩ := h
  · rw [bys_length] at h2; omega
  · have hlen : (bys xs).length = n + 1 := by rw [bys_length]; exact hn
    obtain ⟨A, c, e1, hc', hA', hR⟩ := h0.form
    cases e1
    rw [hlen] at hc' ⊢
    refine ⟨g, cap, rfl, hc', hb, ?_, fun j => World.ownsRow.frozenAt h0 j, hR⟩
    intro j hj
    exact World.ownsRow.cellAt h0 j (by rw [hlen]; omega)
end Go.Proofs.Ytinommcocgnmlaa.Dk
