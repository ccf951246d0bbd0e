/- Chapter 09: a law's own disk and journal. -/
import Derived.Test.YtmlgkahadgpaiaaJoH
import Derived.Test.YtmlgkahadgpaiaaVaI
namespace Go.Proofs.Ytmlgkahadgpaiaa.Jo
open Go.RowKit _root_.Go.Proofs.Ytmlgkahadgpaiaa.Own
open Go.Proofs.Ytmlgkahadgpaiaa.Fr
open Go.Proofs.Ytmlgkahadgpaiaa.Dk (D Is D0 torn putRow rowB wst DOk rowB_length)
set_option linter.unusedVariables false
set_option linter.unusedSimpArgs false
/-- A law's own disk and journal, made behind W. -/
structure JL (W w0 : World) (j g r n f m : Nat) (d : D) (G N : Nat) (w : World) : Prop where
  js : JS w0 j g r n f m d G N w
  base : Below W.heap.size W w0
  gr : W.heap.size ≤ g ∧ W.heap.size ≤ r ∧ W.heap.size ≤ j
theorem JL.below {W w0 : World} {j g r n f m : Nat} {d : D} {G N : Nat} {w : World} (q : JL W w0 j g r n f m d G N w) : Below W.heap.size W w :=
  q.base.trans (q.js.only.less (by intro k hk; simp at hk; rcases hk with rfl | rfl | rfl; exact q.gr.1; exact q.gr.2.1; exact q.gr.2.2) q.base.size)
theorem JL.call {W w0 : World} {j g r n f m : Nat} {d : D} {G N : Nat} {w w' : World} (q : JL W w0 j g r n f m d G N w) (hb : Below w.heap.size w w') : JL W w0 j g r n f m d G N w' := ⟨q.js.call hb, q.base, q.gr⟩
theorem JL.set {W w0 : World} {j g r n f m : Nat} {d d' : D} {G N G' N' : Nat} {w w' : World} (q : JL W w0 j g r n f m d G N w) (h : JS w0 j g r n f m d' G' N' w') : JL W w0 j g r n f m d' G' N' w' := ⟨h, q.base, q.gr⟩
theorem JL.start {W w1 w2 : World} {x g r n f m : Nat} {d : D} (hI : Is g r n n [] d w1) (hb : Below W.heap.size W w1) (hg : W.heap.size ≤ g) (hr : W.heap.size ≤ r) (hx : W.heap.size ≤ x) (hv : JIs x g f m 0 0 w2) (hb2 : Below w1.heap.size w1 w2) : JL W w2 x g r n f m d 0 0 w2 := by
  have e1 := (hb2.block g (blk_lt hI.own)).trans hI.own
  have e2 := (hb2.block r (blk_lt hI.row)).trans hI.row
  exact ⟨⟨Only.refl _ _, ⟨e1, e2, hI.len⟩, hv, blk_lt e1, blk_lt e2, blk_lt hv⟩, hb.trans (hb2.mono hb.size), hg, hr, hx⟩
theorem JS.back {w0 : World} {j g r n f m : Nat} {d d' : D} {G N G' N' : Nat} {w w' : World} (p : JS w0 j g r n f m d G N w) (q : JS w j g r n f m d' G' N' w') : JS w0 j g r n f m d' G' N' w' := ⟨p.only.trans q.only, q.is, q.jis, p.old⟩
theorem wst_live {d : D} (ho : d.off = false) (hk : d.armed = false ∨ 0 < d.left) (i : Nat) (b : List UInt8) : (wst d i b).1 = 0 ∧ (wst d i b).2.off = false ∧ (wst d i b).2.armed = d.armed ∧ (wst d i b).2.left = d.left - 1 ∧ (wst d i b).2.writes = d.writes + 1 := by
  unfold Dk.wst
  rw [if_neg (by rw [ho]; simp), if_neg (by
    rintro ⟨q1, q2⟩
    rcases hk with h | h
    · rw [h] at q1; exact absurd q1 (by simp)
    · omega)]
  exact ⟨rfl, ho, rfl, rfl, rfl⟩
theorem dok_add {d : D} {k : Nat} (h : DOk d k) (f G N : Nat) (b : List UInt8) : DOk (addD d f G N b).2.1 (k + 2) := by
  have h1 := h.wst (f + 2 * N) (blockF 82 G N b)
  have h2 := h1.wst (f + 2 * N + 1) (blockF 67 G N [])
  unfold addD
  split
  · split
    · exact h2
    · exact h2
  · exact h1.mono (by omega)
/-- Add of a disk that works and has no fuse, or one for two writes more. -/
theorem add_live {d : D} (ho : d.off = false) (hk : d.armed = false ∨ 1 < d.left) (f G N : Nat) (b : List UInt8) : (addD d f G N b).1 = 0 ∧ (addD d f G N b).2.2 = N + 1 ∧ (addD d f G N b).2.1.off = false ∧ (addD d f G N b).2.1.armed = d.armed ∧ (addD d f G N b).2.1.left = d.left - 2 := by
  obtain ⟨a1, a2, a3, a4, a5⟩ := wst_live ho (hk.imp id (by omega)) (f + 2 * N) (blockF 82 G N b)
  obtain ⟨b1, b2, b3, b4, b5⟩ := wst_live a2 (by rw [a3, a4]; exact hk.imp id (by omega)) (f + 2 * N + 1) (blockF 67 G N [])
  unfold addD
  rw [if_pos a1, if_pos b1]
  exact ⟨rfl, rfl, b2, b3.trans a3, by rw [b4, a4]; omega⟩
theorem calm_add {d : D} {k : Nat} (hc : Va.Calm d k) (f G N : Nat) (b : List UInt8) : (addD d f G N b).1 = 0 ∧ (addD d f G N b).2.2 = N + 1 ∧ Va.Calm (addD d f G N b).2.1 (k + 2) := by
  obtain ⟨h1, h2, h3, h4, -⟩ := add_live hc.off (.inl hc.armed) f G N b
  exact ⟨h1, h2, h3, h4.trans hc.armed, dok_add hc.dok f G N b⟩
/-- What was opened is there as long as only elder blocks turn. -/
theorem opened_stay {base : Nat} {all : List UInt8} {f m G : Nat} {v : Value} {ps : List (Option Addr × Nat × List UInt8)} {w : World} (h : Opened base all f m G v ps w) : ∃ A c, v = .slice A (ps.map fun p => p.2.2).length c ∧ ∀ (bs : List Nat) (w' : World), Only bs w w' → (∀ k ∈ bs, k < base) → Rows w' A (ps.map fun p => p.2.2) := by
  obtain ⟨A, c, e, h1, h2, h3⟩ := h.has.form
  have hk := h.has.blk
  rw [sls_length] at e
  refine ⟨A, c, by rw [List.length_map]; exact e, fun bs w' ho hb => ?_⟩
  have stay : ∀ (B : Option Addr) (xs : List Value), Rd w B xs → (0 < xs.length → ∀ a, B = some a → base ≤ a.block) → Rd w' B xs := by
    intro B xs hr hbb
    by_cases h0 : xs.length = 0
    · exact rd_nil' h0
    · exact Va.rd_keep hr ho fun a ha hm => by have := hbb (by omega) a ha; have := hb _ hm; omega
  refine rows_of (stay A _ h3 fun _ a ha => hk a.block ?_ |>.1) fun p hp => ⟨(h.rows p hp).1, stay p.1 _ (h.rows p hp).2.2.1 fun h0 a ha => ((h.rows p hp).2.2.2 (by rw [bys_length] at h0; exact h0) a ha).1⟩
  rw [e, ha]; rfl
/-- Power, Arm: the disk's blocks stay. -/
theorem calm_power {d : D} {k : Nat} (h : DOk d k) : Va.Calm { d with off := false, armed := false } k := ⟨rfl, rfl, h.wr, h.lf, h.kp⟩
theorem calm_clean {d : D} {k : Nat} (hc : Va.Calm d k) (f N : Nat) : (clN d f N 2).1 = 0 ∧ Va.Calm (clN d f N 2).2 (k + 2) := by
  have e1 : clN d f N 1 = wst d (f + 2 * N) zero128 := by
    show (if (clN d f N 0).1 = 0 then _ else _) = _
    rw [if_pos (show (clN d f N 0).1 = 0 from rfl)]; rfl
  have e2 : clN d f N 2 = if (wst d (f + 2 * N) zero128).1 = 0 then wst (wst d (f + 2 * N) zero128).2 (f + 2 * N + 1) zero128 else wst d (f + 2 * N) zero128 := by
    show (if (clN d f N 1).1 = 0 then _ else _) = _
    rw [e1]
  obtain ⟨a1, a2, a3, a4, a5⟩ := wst_live hc.off (.inl hc.armed) (f + 2 * N) zero128
  obtain ⟨b1, b2, b3, b4, b5⟩ := wst_live a2 (.inl (a3.trans hc.armed)) (f + 2 * N + 1) zero128
  have hd := clN_ok hc.dok f N 2
  rw [e2, if_pos a1] at hd ⊢
  exact ⟨b1, b2, b3.trans (a3.trans hc.armed), hd⟩
/-- Add whose commit is cut: answered 19, and the place is none when less than the whole was kept. -/
theorem add_cut {d : D} {n : Nat} (hl : d.all.length = n * 128) (ho : d.off = false) (ha : d.armed = true) (h1 : d.left = 1) (hkp : 0 ≤ d.keep ∧ d.keep ≤ 128) (hk : d.keep.toNat < 128) {f G N : Nat} (hf : f + 2 * N + 1 < n) (b : List UInt8) (hG : G ≤ 2147483647) (hN : N ≤ 65535) (hb : b.length ≤ 112) :
    (addD d f G N b).1 = 19 ∧ (addD d f G N b).2.2 = N ∧ (addD d f G N b).2.1.off = true ∧ placeD (addD d f G N b).2.1.all f G N = none := by
  obtain ⟨a1, a2, a3, a4, a5⟩ := wst_live ho (.inr (by omega)) (f + 2 * N) (blockF 82 G N b)
  obtain ⟨r1, -, -, -, r5⟩ := Va.wst_row hl hkp (f + 2 * N) (by omega) (blockF 82 G N b) (rec_length 82 G N b hG hN hb)
  have hc := rec_length 67 G N [] hG hN (by simp)
  unfold addD
  rw [if_pos a1]
  generalize (wst d (f + 2 * N) (blockF 82 G N b)).2 = d1 at *
  have e : wst d1 (f + 2 * N + 1) (blockF 67 G N []) = (19, { d1 with all := putRow d1.all (f + 2 * N + 1) (torn d1.keep.toNat (blockF 67 G N [])), off := true, armed := false, writes := d1.writes + 1 }) := by
    unfold Dk.wst
    rw [if_neg (by rw [a2]; simp), if_pos ⟨a3.trans ha, by rw [a4, h1]; rfl⟩]
  rw [e, if_neg (show ¬ (19 : Int) = 0 by decide)]
  refine ⟨rfl, rfl, rfl, place_com ?_⟩
  show stF 67 (rowB (putRow d1.all (f + 2 * N + 1) (torn d1.keep.toNat (blockF 67 G N []))) (f + 2 * N + 1)) G N = none
  rw [Va.rowB_put d1.all _ n _ _ r1 hf hf (Va.torn_len _ _ hc (by rw [r5]; omega)), if_pos rfl]
  exact st_torn 67 _ _ hc (by rw [r5]; exact hk) G N
end Go.Proofs.Ytmlgkahadgpaiaa.Jo
