/- Layer 17: Query. -/
import Derived.Test.YtdlfdkdcnabpoaaDoorPaO
namespace Go.Proofs.YtdlfdkdcnabpoaaDoor.Pa
set_option linter.unusedSimpArgs false
set_option linter.unusedVariables false
open Go.RowKit
open _root_.Go.Proofs.YtdlfdkdcnabpoaaDoor.Own
open Go.Proofs.YtdlfdkdcnabpoaaDoor.Lx
attribute [local go_sem] str_size str_extract str_append str_toList
theorem HasN.base {base b' : Nat} {e : TypeId} {sz : Nat} {v : Value} {n : Nat} {xs : List Value} {w : World} (h : HasN base e sz v n xs w) (hb : b' ≤ base) : HasN b' e sz v n xs w := by
  obtain ⟨h1, h2 | ⟨g, cap, cur, r1, r2, r3⟩⟩ := h
  · exact ⟨h1, .inl h2⟩
  · exact ⟨h1, .inr ⟨g, cap, cur, r1, Nat.le_trans hb r2, r3⟩⟩
theorem wf_scan : ∀ (f a : Nat) (s : List UInt8) (ps : List Pc), scan f a s = .ok ps → Wf ps
  | f, a, [], ps, h => by
    have : ps = [⟨5, [], 0, a⟩] := by cases f <;> (simp only [scan] at h; cases h; rfl)
    subst this
    exact ⟨[], a, rfl, fun p hp => by cases hp⟩
  | 0, a, c :: l, ps, h => by cases h
  | f + 1, a, c :: l, ps, h => by
    unfold scan at h
    split at h
    · exact wf_scan f (a + 1) l ps h
    · cases hk : known (head (c :: l)) with
      | none => rw [hk] at h; cases h
      | some kn =>
        obtain ⟨k, n⟩ := kn
        rw [hk] at h
        cases hs : scan f (a + (head (c :: l)).length) ((c :: l).drop (head (c :: l)).length) with
        | error e => rw [hs] at h; cases h
        | ok qs =>
          rw [hs] at h
          cases h
          obtain ⟨B, e, rfl, hB⟩ := wf_scan f _ _ qs hs
          refine ⟨⟨k, head (c :: l), n, a⟩ :: B, e, rfl, fun p hp => ?_⟩
          rcases List.mem_cons.1 hp with rfl | hp
          · exact known_mem hk
          · exact hB p hp
theorem wf_pieces {s : List UInt8} (h : (pieces s).2.2 = 0) : Wf (pieces s).1 := by
  unfold pieces at h ⊢
  split
  · rename_i h48
    rw [if_pos h48] at h
    cases h
  · rename_i h48
    rw [if_neg h48] at h
    cases hs : scanF 0 s with
    | error e => rw [hs] at h; cases h
    | ok ps => exact wf_scan _ _ _ _ hs
/-- A query's nodes, or the first fault's place, and the fault. -/
def run0 (s : List UInt8) : St := testS (oneS 9) ⟨(pieces s).1, [], 0, 0⟩
def run1 (s : List UInt8) : St := if headK (run0 s).R = 5 then run0 s else badS (run0 s) 3
def queryS (s : List UInt8) : List Nd × Nat × Nat :=
  if (pieces s).2.2 ≠ 0 then ([], (pieces s).2.1, (pieces s).2.2)
  else if (run1 s).f ≠ 0 then ([], (run1 s).a, (run1 s).f)
  else if 24 < (run1 s).O.length then ([], 0, 5)
  else ((run1 s).O, 0, 0)
def GaveN (q : List Nd × Nat × Nat) (w : World) (e : Ending) (w' : World) : Prop :=
  ∃ v, e = .returned (.tuple #[v, .int .i64 q.2.1, .int .i64 q.2.2]) ∧ HasN w.heap.size 46 2 v q.1.length (ndC q.1) w' ∧ Below w.heap.size w w'
theorem cell_lt {w : World} {a : Addr} {v : Value} (h : w.cell? a = some v) : a.block < w.heap.size := by
  refine Decidable.byContradiction fun hn => ?_
  have : w.heap[a.block]? = none := Array.getElem?_eq_none (by omega)
  simp [World.cell?, this] at h
theorem RdS.rest {r : Nat} {w : World} {s : St} (h : RdS r w s) : w.cell? ⟨r, 1, none⟩ = some (.int .i64 s.a) ∧ w.cell? ⟨r, 2, none⟩ = some (.int .i64 s.f) ∧
    ∃ A c, w.cell? ⟨r, 3, none⟩ = some (.slice A s.O.length c) ∧ HasN r 46 2 (.slice A s.O.length c) s.O.length (ndC s.O) w := by
  obtain ⟨ad, cap, vo, hg, hc, hlt, hR, hO⟩ := h.shape
  obtain ⟨A, c, rfl, _⟩ := hO.form
  exact ⟨(cell_of_row w r 1 _ _ _ hg).trans rfl, (cell_of_row w r 2 _ _ _ hg).trans rfl, A, c, (cell_of_row w r 3 _ _ _ hg).trans rfl, hO⟩
theorem reader_new {w : World} {v : Value} {ps : List Pc} {B : Nat} (h : HasN B 32 4 v ps.length (cells ps) w) (hne : ps ≠ []) : ∃ ad c, v = .slice (some ad) ps.length c ∧
    RdS w.heap.size (w.alloc (.cells ⟨[.slice (some ad) ps.length c, .int .i64 0, .int .i64 0, .slice none 0 0]⟩ 56)) ⟨ps, [], 0, 0⟩ := by
  obtain ⟨A, c, rfl, hc, _, hR, _, _⟩ := h.form
  obtain ⟨p, R, rfl⟩ : ∃ p R, ps = p :: R := by
    cases ps with
    | nil => exact absurd rfl hne
    | cons p R => exact ⟨p, R, rfl⟩
  obtain ⟨ad, rfl, _⟩ := hR 0 (by show 0 < (pcC p.kind p.text p.n p.pos ++ cells R).length; rw [List.length_append]; exact Nat.lt_of_lt_of_le (by decide) (Nat.le_add_right 4 _))
  refine ⟨ad, c, rfl, ⟨⟨ad, c, .slice none 0 0, heap_alloc_new w _, hc, cell_lt (first_at hR).1, hR.below ((Below.refl _ _).alloc (Nat.le_refl _) _), HasN.nil _ _ _ _⟩, hne⟩⟩
attribute [local irreducible] RdS
set_option maxRecDepth 10000 in
set_option maxHeartbeats 4000000 in
theorem Query_calls (s : List UInt8) (w : World) (hE : Lx.Env w) : Calls Tryd.prog 15 #[.string (str s)] w (GaveN (queryS s) w) := by
  have HP := Lib.hid (Pieces_calls s w hE)
  obtain ⟨fe, hfe⟩ : ∃ fe : Nat, (pieces s).2.2 = fe := ⟨_, rfl⟩
  obtain ⟨ae, hae⟩ : ∃ ae : Nat, (pieces s).2.1 = ae := ⟨_, rfl⟩
  unfold Gave at HP
  rw [hfe, hae] at HP
  by_cases h0 : fe = 0
  · subst h0
    have HN := Lib.hid (wf_pieces hfe)
    have HLe := Lib.hid (pieces_len s)
    have hq : queryS s = if (run1 s).f ≠ 0 then ([], (run1 s).a, (run1 s).f) else if 24 < (run1 s).O.length then ([], 0, 5) else ((run1 s).O, 0, 0) := by
      unfold queryS; rw [if_neg (by rw [hfe]; simp)]
    have hr1 : run1 s = if headK (run0 s).R = 5 then run0 s else badS (run0 s) 3 := rfl
    have hr0 : run0 s = testS (oneS 9) ⟨(pieces s).1, [], 0, 0⟩ := rfl
    obtain ⟨s1, hs1⟩ : ∃ s1, run1 s = s1 := ⟨_, rfl⟩
    obtain ⟨s0, hs0⟩ : ∃ s0, run0 s = s0 := ⟨_, rfl⟩
    obtain ⟨ps, hps⟩ : ∃ ps, (pieces s).1 = ps := ⟨_, rfl⟩
    rw [hs1, hs0] at hr1
    rw [hs0, hps] at hr0
    rw [hps] at HP HN HLe
    rw [hs1] at hq
    obtain ⟨q, hqq⟩ : ∃ q, queryS s = q := ⟨_, rfl⟩
    rw [hqq] at hq ⊢
    have HQ := Lib.hid hq
    have HR1 := Lib.hid hr1
    have HR0 := Lib.hid hr0
    have HTe := Lib.hid (test_calls (one_calls 9 0 rfl) (shr_one 9))
    have h9 := shr_test (shr_one 9) ⟨ps, [], 0, 0⟩ HN.out
    rw [← hr0] at h9
    have HW0 := Lib.hid h9.1
    obtain ⟨p, R, hpR, -⟩ := wf_head h9.1
    have HPR := Lib.hid hpR
    clear hE hfe hae hq hqq hs1 hs0 hps hr1 hr0 h9 hpR
    go_enter Tryd.func15, Tryd.ntmps15
    go_wp2_with fail
    refine HP.out.mono ?_
    rintro e w1 ⟨v, rfl, hv, hb⟩
    obtain ⟨ad, c, rfl, hnew⟩ := reader_new hv HN.out.ne
    have hcall := HTe.out w1.heap.size _ _ hnew HN.out (by show 0 + ps.length ≤ 200; have := HLe.out; omega)
    rw [← HR0.out] at hcall
    have HCa := Lib.hid hcall
    have HB1 := Lib.hid hb
    obtain ⟨n, hn⟩ : ∃ n, ps.length = n := ⟨_, rfl⟩
    rw [hn] at HCa ⊢
    clear hb hnew hcall hv HP hn
    go_wp2_with fail
    refine HCa.out.mono ?_
    rintro e w2 ⟨rfl, hR2, hf2⟩
    obtain ⟨r, hr⟩ : ∃ r, w1.heap.size = r := ⟨_, rfl⟩
    rw [hr] at hR2 hf2 ⊢
    have HRs := Lib.hid hr
    have HF2 := Lib.hid ((Fr.of_below (r := r) ((Below.refl w1.heap.size w1).alloc (Nat.le_refl _) _)).trans hf2)
    obtain ⟨ad2, cap2, hlt2, y0, y2, z0, z1, z2, z3⟩ := hR2.firsts HPR.out
    have hrl := hR2.lt
    have hal : ad2.block < w2.heap.size := by omega
    have hk : headK s0.R = p.kind := by rw [HPR.out]; rfl
    have HHK := Lib.hid hk
    clear hk hr
    by_cases k5 : p.kind = 5
    · have e5 : ((p.kind : Int) == 5) = true := by rw [beq_iff_eq]; omega
      have e6 : ((p.kind : Int) != 5) = false := by rw [bne, e5]; rfl
      have hs : s1 = s0 := by rw [HR1.out, if_pos (by rw [HHK.out]; exact k5)]
      subst hs
      have HR3 := Lib.hid hR2
      have HF3 := HF2
      clear hf2 HF2 k5 y2 HR3
      have hR3 := hR2
      clear hR2
      obtain ⟨w3, hw3⟩ : ∃ w3, w2 = w3 := ⟨_, rfl⟩
      subst hw3
      obtain ⟨y1, y2, A3, c3, y3, hN3⟩ := hR3.rest
      have hrl := hR3.lt
      have HBe := Lib.hid (HB1.out.trans ((HF3.out.below (by have := HRs.out; omega)).mono (by have := HB1.out.size; have := HRs.out; omega)))
      have HN3 := Lib.hid (HasN.base hN3 (by have := HB1.out.size; have := HRs.out; omega : w.heap.size ≤ r))
      obtain ⟨f1, hf1⟩ : ∃ f1 : Nat, s1.f = f1 := ⟨_, rfl⟩
      obtain ⟨a1, ha1⟩ : ∃ a1 : Nat, s1.a = a1 := ⟨_, rfl⟩
      obtain ⟨n1, hn1⟩ : ∃ n1 : Nat, s1.O.length = n1 := ⟨_, rfl⟩
      have hqv := HQ.out
      rw [hf1, ha1, hn1] at hqv
      rw [hf1] at y2
      rw [ha1] at y1
      rw [hn1] at y3 HN3
      have HN1 := Lib.hid hn1
      clear hR3 hN3 hf1 ha1 hn1
      by_cases e0 : f1 = 0
      · subst e0
        rw [if_neg (by simp)] at hqv
        by_cases e1 : 24 < n1
        · have i1 : ((24 : Int) < (n1 : Int)) = True := by simp; omega
          have d1 : decide (24 < n1) = true := decide_eq_true e1
          rw [if_pos e1] at hqv
          have HQV := Lib.hid hqv
          clear hqv
          go_wp2_with fail
          go_returns
          rw [HQV.out]
          exact ⟨_, rfl, HasN.nil _ _ _ _, HBe.out⟩
        · have i1 : ((24 : Int) < (n1 : Int)) = False := by simp; omega
          have d1 : decide (24 < n1) = false := decide_eq_false e1
          rw [if_neg e1] at hqv
          have HQV := Lib.hid hqv
          clear hqv
          go_wp2_with fail
          go_returns
          rw [HQV.out]
          exact ⟨_, rfl, by rw [HN1.out]; exact HN3.out, HBe.out⟩
      · have c1 : ((f1 : Int) == 0) = false := by rw [beq_eq_false_iff_ne]; omega
        have c2 : ((f1 : Int) != 0) = true := by rw [bne, c1]; rfl
        rw [if_pos e0] at hqv
        have HQV := Lib.hid hqv
        clear hqv e0
        go_wp2_with fail
        go_region
        go_wp2_with fail
        go_returns
        rw [HQV.out]
        exact ⟨_, rfl, HasN.nil _ _ _ _, HBe.out.drew⟩
    · have e5 : ((p.kind : Int) == 5) = false := by rw [beq_eq_false_iff_ne]; omega
      have e6 : ((p.kind : Int) != 5) = true := by rw [bne, e5]; rfl
      have hs : s1 = badS s0 3 := by rw [HR1.out, if_neg (by rw [HHK.out]; exact k5)]
      have HBd := Lib.hid (badC hR2 3)
      clear hR2 hf2 k5 y2
      go_wp2_with fail
      refine HBd.out.mono ?_
      rintro e w3 ⟨rfl, hR3, hf3⟩
      rw [← hs] at hR3
      have HF3 := Lib.hid (HF2.out.trans hf3)
      clear y0 z0 z1 z2 z3 hlt2 hal e5 hrl hf3 HF2 hs
      obtain ⟨y1, y2, A3, c3, y3, hN3⟩ := hR3.rest
      have hrl := hR3.lt
      have HBe := Lib.hid (HB1.out.trans ((HF3.out.below (by have := HRs.out; omega)).mono (by have := HB1.out.size; have := HRs.out; omega)))
      have HN3 := Lib.hid (HasN.base hN3 (by have := HB1.out.size; have := HRs.out; omega : w.heap.size ≤ r))
      obtain ⟨f1, hf1⟩ : ∃ f1 : Nat, s1.f = f1 := ⟨_, rfl⟩
      obtain ⟨a1, ha1⟩ : ∃ a1 : Nat, s1.a = a1 := ⟨_, rfl⟩
      obtain ⟨n1, hn1⟩ : ∃ n1 : Nat, s1.O.length = n1 := ⟨_, rfl⟩
      have hqv := HQ.out
      rw [hf1, ha1, hn1] at hqv
      rw [hf1] at y2
      rw [ha1] at y1
      rw [hn1] at y3 HN3
      have HN1 := Lib.hid hn1
      clear hR3 hN3 hf1 ha1 hn1
      by_cases e0 : f1 = 0
      · subst e0
        rw [if_neg (by simp)] at hqv
        by_cases e1 : 24 < n1
        · have i1 : ((24 : Int) < (n1 : Int)) = True := by simp; omega
          have d1 : decide (24 < n1) = true := decide_eq_true e1
          rw [if_pos e1] at hqv
          have HQV := Lib.hid hqv
          clear hqv
          go_wp2_with fail
          go_returns
          rw [HQV.out]
          exact ⟨_, rfl, HasN.nil _ _ _ _, HBe.out⟩
        · have i1 : ((24 : Int) < (n1 : Int)) = False := by simp; omega
          have d1 : decide (24 < n1) = false := decide_eq_false e1
          rw [if_neg e1] at hqv
          have HQV := Lib.hid hqv
          clear hqv
          go_wp2_with fail
          go_returns
          rw [HQV.out]
          exact ⟨_, rfl, by rw [HN1.out]; exact HN3.out, HBe.out⟩
      · have c1 : ((f1 : Int) == 0) = false := by rw [beq_eq_false_iff_ne]; omega
        have c2 : ((f1 : Int) != 0) = true := by rw [bne, c1]; rfl
        rw [if_pos e0] at hqv
        have HQV := Lib.hid hqv
        clear hqv e0
        go_wp2_with fail
        go_region
        go_wp2_with fail
        go_returns
        rw [HQV.out]
        exact ⟨_, rfl, HasN.nil _ _ _ _, HBe.out.drew⟩
  · have c0 : ((fe : Int) == 0) = false := by rw [beq_eq_false_iff_ne]; omega
    have hq : queryS s = ([], ae, fe) := by unfold queryS; rw [if_pos (by rw [hfe]; exact h0), hae, hfe]
    rw [hq]
    clear hE hfe hae hq
    go_enter Tryd.func15, Tryd.ntmps15
    go_wp2_with fail
    refine HP.out.mono ?_
    rintro e w1 ⟨v, rfl, hv, hb⟩
    go_wp2_with fail
    go_returns
    exact ⟨_, rfl, HasN.nil _ _ _ _, hb⟩
end Go.Proofs.YtdlfdkdcnabpoaaDoor.Pa
