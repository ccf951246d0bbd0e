/- Layer 17: Right, the program's. -/
import Derived.Test.YtdlfdkdcnabpoaaDoorPaA
namespace Go.Proofs.YtdlfdkdcnabpoaaDoor.Pa
set_option linter.unusedSimpArgs false
set_option linter.unusedVariables false
open Go.RowKit
open _root_.Go.Proofs.YtdlfdkdcnabpoaaDoor.Own
/-- A node that may stand somewhere. -/
def okN (x : Nd) : Prop := 0 ≤ argsI x.k ∧ 0 ≤ x.n ∧ x.n ≤ 15 ∧ (0 < x.n → x.k = 4 ∨ x.k = 5)
instance (x : Nd) : Decidable (okN x) := by unfold okN; infer_instance
/-- How many values the nodes leave, from so many on. -/
def rf : Nat → List Nd → Option Nat
  | h, [] => some h
  | h, x :: l => if okN x ∧ (argsI x.k).toNat ≤ h then rf (h + 1 - (argsI x.k).toNat) l else none
def rightB (l : List Nd) : Bool := rf 0 l == some 1 && decide (l.length ≤ 24)
theorem ndC_at (l : List Nd) (i : Nat) (x : Nd) (h : l[i]? = some x) : (ndC l)[i * 2]? = some (.int .i64 x.k) ∧ (ndC l)[i * 2 + 1]? = some (.int .i64 x.n) := by
  induction l generalizing i with
  | nil => cases h
  | cons y l ih =>
    cases i with
    | zero => cases h; exact ⟨rfl, rfl⟩
    | succ i =>
      have e := ih i h
      rw [show ndC (y :: l) = [.int .i64 y.k, .int .i64 y.n] ++ ndC l from rfl, List.getElem?_append_right (by simp; omega), List.getElem?_append_right (by simp; omega)]
      rw [show (i + 1) * 2 - [Value.int IntKind.i64 y.k, .int .i64 y.n].length = i * 2 by simp; omega, show (i + 1) * 2 + 1 - [Value.int IntKind.i64 y.k, .int .i64 y.n].length = i * 2 + 1 by simp; omega]
      exact e
/-- A node of a slice, as a walk asks for it. -/
theorem nd_at {w : World} {A : Option Addr} {l : List Nd} (h : Rd w A (ndC l)) {i : Nat} (hi : i < l.length) : ∃ ad x, A = some ad ∧ l[i]? = some x ∧ ad.block < w.heap.size ∧ ∀ W, Below w.heap.size w W →
    W.cell? (ad.add (i * 2)) = some (.int .i64 x.k) ∧ W.cell? ⟨(ad.add (i * 2)).block, (ad.add (i * 2)).off + 1, none⟩ = some (.int .i64 x.n) := by
  obtain ⟨ad, rfl, hc⟩ := h (i * 2) (by rw [ndC_length]; omega)
  have hp : l[i]? = some l[i] := List.getElem?_eq_getElem hi
  refine ⟨ad, l[i], rfl, hp, by have := cell_lt hc; rw [block_add] at this; exact this, fun W hb => ?_⟩
  have h' := h.below hb
  obtain ⟨c1, c2⟩ := ndC_at l i l[i] hp
  exact ⟨h'.cell c1, h'.part (by decide) c2⟩
set_option maxRecDepth 10000 in
set_option maxHeartbeats 8000000 in
theorem Right_calls {A : Option Addr} {c : Nat} {l : List Nd} {w : World} (hR : Rd w A (ndC l)) (n : Nat) (hn : n = l.length) (hc : n ≤ c) (hl : n ≤ 1000) :
    Calls Tryd.prog 18 #[.slice A n c] w fun e w' => e = .returned (.bool (rightB l)) ∧ Below w.heap.size w w' := by
  have HR := Lib.hid hR
  have HN := Lib.hid hn
  have hrb : rightB l = ((rf 0 l == some 1) && decide (n ≤ 24)) := by unfold rightB; rw [hn]
  obtain ⟨rb, hrb'⟩ : ∃ rb, rightB l = rb := ⟨_, rfl⟩
  rw [hrb'] at hrb ⊢
  have HRB := Lib.hid hrb
  clear hR hn hrb hrb'
  go_enter Tryd.func18, Tryd.ntmps18
  go_wp2_with fail
  go_loopw [3, 10] (fun v3 v10 wr => ∃ i h : Nat, v3 = .int .i64 h ∧ v10 = .int .i64 i ∧ i ≤ n ∧ h ≤ i ∧ Hid (rf h (l.drop i) = rf 0 l) ∧ Hid (Below w.heap.size w wr)) (fun _ v10 _ => n - (intOf v10).toNat)
  case atStart => exact ⟨0, 0, rfl, rfl, Nat.zero_le _, Nat.le_refl _, Lib.hid rfl, Lib.hid (Below.refl _ _)⟩
  case round =>
    obtain ⟨i, h, rfl, rfl, hi, hh, HE, HB⟩ := hrel
    by_cases hlt : i < n
    · have d3 : decide (i < n) = true := decide_eq_true hlt
      have d4 : ((i : Int) < (n : Int)) = True := by simp; omega
      obtain ⟨ad, x, rfl, hx, hal, X⟩ := nd_at HR.out (by rw [← HN.out]; exact hlt)
      obtain ⟨y0, y1⟩ := X wr HB.out
      have hal' : (ad.add (i * 2)).block < wr.heap.size := by rw [block_add]; have := HB.out.size; omega
      have hdr : l.drop i = x :: l.drop (i + 1) := by
        have hi' : i < l.length := by rw [← HN.out]; exact hlt
        rw [List.getElem?_eq_getElem hi'] at hx
        cases hx
        exact List.drop_eq_getElem_cons hi'
      have HD := Lib.hid hdr
      have hb1 : Below wr.heap.size wr (wr.alloc (.cells ⟨[.int .i64 x.k, .int .i64 x.n]⟩ 46)) := (Below.refl _ _).alloc (Nat.le_refl _) _
      have HB1 := Lib.hid (HB.out.trans (hb1.mono HB.out.size))
      have HAr := Lib.hid (fun w => Args_calls x.k w)
      have HAC := Lib.hid (argsI_cases x.k)
      have hyes : ((0 ≤ argsI x.k ∧ 0 ≤ x.n ∧ x.n ≤ 15 ∧ (0 < x.n → x.k = 4 ∨ x.k = 5)) ∧ (argsI x.k).toNat ≤ h) → rf (h + 1 - (argsI x.k).toNat) (l.drop (i + 1)) = rf 0 l := fun q => by
        rw [← HE.out, hdr]
        exact (if_pos (show okN x ∧ (argsI x.k).toNat ≤ h from q)).symm
      have hno : ¬ ((0 ≤ argsI x.k ∧ 0 ≤ x.n ∧ x.n ≤ 15 ∧ (0 < x.n → x.k = 4 ∨ x.k = 5)) ∧ (argsI x.k).toNat ≤ h) → rf 0 l = none := fun q => by
        rw [← HE.out, hdr]
        exact if_neg (show ¬ (okN x ∧ (argsI x.k).toNat ≤ h) from q)
      obtain ⟨a, ha⟩ : ∃ a, argsI x.k = a := ⟨_, rfl⟩
      rw [ha] at HAr hyes hno HAC
      obtain ⟨kk, hkk⟩ : ∃ kk, x.k = kk := ⟨_, rfl⟩
      obtain ⟨nn, hnn⟩ : ∃ nn, x.n = nn := ⟨_, rfl⟩
      rw [hkk] at HAr HAC
      rw [hkk] at y0
      rw [hnn] at y1
      rw [hkk, hnn] at HB1 hyes hno
      have HY := Lib.hid hyes
      have HNo := Lib.hid hno
      have ha2 : a ≤ 2 := by rcases HAC.out with h | h | h | h <;> omega
      have ha1 : -1 ≤ a := by rcases HAC.out with h | h | h | h <;> omega
      obtain ⟨b4, hb4⟩ : ∃ b4, (kk == 4) = b4 := ⟨_, rfl⟩
      obtain ⟨b5, hb5⟩ : ∃ b5, (kk == 5) = b5 := ⟨_, rfl⟩
      have HB4 := Lib.hid (And.intro hb4 hb5)
      clear hdr hb1 hyes hno ha hkk hnn X hx hal
      by_cases t1 : a < 0
      · have i1 : (a < 0) = True := by simp; omega
        cases b4 <;> cases b5 <;>
        · skip
          go_wp2_with fail
          refine (HAr.out _).mono ?_
          rintro e w2 ⟨rfl, rfl⟩
          go_wp2_with fail
          go_returns
          refine ⟨?_, HB1.out⟩
          have hnone : rf 0 l = none := HNo.out (by
            rintro ⟨⟨q1, q2, q3, q4⟩, q5⟩
            have : (a < 0) := of_eq_true i1
            omega)
          rw [HRB.out, hnone]
          rfl
      have i1 : (a < 0) = False := by simp; omega
      by_cases t2 : (h : Int) < a
      · have i2 : ((h : Int) < a) = True := by simp; omega
        cases b4 <;> cases b5 <;>
        · clear t1 t2
          go_wp2_with fail
          refine (HAr.out _).mono ?_
          rintro e w2 ⟨rfl, rfl⟩
          go_wp2_with fail
          go_returns
          refine ⟨?_, HB1.out⟩
          have hnone : rf 0 l = none := HNo.out (by
            rintro ⟨⟨q1, q2, q3, q4⟩, q5⟩
            have : ((h : Int) < a) := of_eq_true i2
            omega)
          rw [HRB.out, hnone]
          rfl
      have i2 : ((h : Int) < a) = False := by simp; omega
      by_cases t3 : nn < 0
      · have i3 : (nn < 0) = True := by simp; omega
        cases b4 <;> cases b5 <;>
        · clear t1 t2 t3
          go_wp2_with fail
          refine (HAr.out _).mono ?_
          rintro e w2 ⟨rfl, rfl⟩
          go_wp2_with fail
          go_returns
          refine ⟨?_, HB1.out⟩
          have hnone : rf 0 l = none := HNo.out (by
            rintro ⟨⟨q1, q2, q3, q4⟩, q5⟩
            have : (nn < 0) := of_eq_true i3
            omega)
          rw [HRB.out, hnone]
          rfl
      have i3 : (nn < 0) = False := by simp; omega
      by_cases t4 : 15 < nn
      · have i4 : ((15 : Int) < nn) = True := by simp; omega
        cases b4 <;> cases b5 <;>
        · clear t1 t2 t3 t4
          go_wp2_with fail
          refine (HAr.out _).mono ?_
          rintro e w2 ⟨rfl, rfl⟩
          go_wp2_with fail
          go_returns
          refine ⟨?_, HB1.out⟩
          have hnone : rf 0 l = none := HNo.out (by
            rintro ⟨⟨q1, q2, q3, q4⟩, q5⟩
            have : ((15 : Int) < nn) := of_eq_true i4
            omega)
          rw [HRB.out, hnone]
          rfl
      have i4 : ((15 : Int) < nn) = False := by simp; omega
      have e1 : wrap64 (1 - a) = 1 - a := by unfold wrap64; omega
      have e2 : wrap64 ((h : Int) + (1 - a)) = (h : Int) + (1 - a) := by unfold wrap64; omega
      have e3 : wrap64 ((i : Int) + 1) = (i : Int) + 1 := by unfold wrap64; omega
      have HT := Lib.hid (show 0 ≤ a ∧ a ≤ (h : Int) ∧ 0 ≤ nn ∧ nn ≤ 15 by omega)
      clear t1 t2 t3 t4
      by_cases t5 : 0 < nn
      · have i5 : (0 < nn) = True := by simp; omega
        clear t5
        cases b4
        · cases b5
          · skip
            go_wp2_with fail
            refine (HAr.out _).mono ?_
            rintro e w2 ⟨rfl, rfl⟩
            go_wp2_with fail
            go_returns
            refine ⟨?_, HB1.out⟩
            have hnone : rf 0 l = none := HNo.out (by
              rintro ⟨⟨q1, q2, q3, q4⟩, q5⟩
              have p5 : (0 < nn) := of_eq_true i5
              have h4 := beq_eq_false_iff_ne.1 HB4.out.1
              have h5 := beq_eq_false_iff_ne.1 HB4.out.2
              rcases q4 p5 with h | h
              · exact h4 h
              · exact h5 h)
            rw [HRB.out, hnone]
            rfl
          · skip
            go_wp2_with fail
            refine (HAr.out _).mono ?_
            rintro e w2 ⟨rfl, rfl⟩
            go_wp2_with fail
            have h2 := HY.out (show (0 ≤ a ∧ 0 ≤ nn ∧ nn ≤ 15 ∧ (0 < nn → kk = 4 ∨ kk = 5)) ∧ a.toNat ≤ h from ⟨⟨HT.out.1, HT.out.2.2.1, HT.out.2.2.2, fun q => by
              exact .inr (beq_iff_eq.1 HB4.out.2)
            ⟩, by have := HT.out; omega⟩)
            have h3 := HT.out
            go_roundw
            case rel => exact ⟨i + 1, h + 1 - a.toNat, by congr 1; omega, by go_num, by omega, by omega, Lib.hid h2, HB1⟩
            case measure => simp only [intOf]; omega
        · skip
          go_wp2_with fail
          refine (HAr.out _).mono ?_
          rintro e w2 ⟨rfl, rfl⟩
          go_wp2_with fail
          have h2 := HY.out (show (0 ≤ a ∧ 0 ≤ nn ∧ nn ≤ 15 ∧ (0 < nn → kk = 4 ∨ kk = 5)) ∧ a.toNat ≤ h from ⟨⟨HT.out.1, HT.out.2.2.1, HT.out.2.2.2, fun q => by
            exact .inl (beq_iff_eq.1 HB4.out.1)
          ⟩, by have := HT.out; omega⟩)
          have h3 := HT.out
          go_roundw
          case rel => exact ⟨i + 1, h + 1 - a.toNat, by congr 1; omega, by go_num, by omega, by omega, Lib.hid h2, HB1⟩
          case measure => simp only [intOf]; omega
      · have i5 : (0 < nn) = False := by simp; omega
        clear t5
        cases b4 <;> cases b5 <;>
        · skip
          go_wp2_with fail
          refine (HAr.out _).mono ?_
          rintro e w2 ⟨rfl, rfl⟩
          go_wp2_with fail
          have h2 := HY.out (show (0 ≤ a ∧ 0 ≤ nn ∧ nn ≤ 15 ∧ (0 < nn → kk = 4 ∨ kk = 5)) ∧ a.toNat ≤ h from ⟨⟨HT.out.1, HT.out.2.2.1, HT.out.2.2.2, fun q => by
            exact absurd q (of_eq_false i5)
          ⟩, by have := HT.out; omega⟩)
          have h3 := HT.out
          go_roundw
          case rel => exact ⟨i + 1, h + 1 - a.toNat, by congr 1; omega, by go_num, by omega, by omega, Lib.hid h2, HB1⟩
          case measure => simp only [intOf]; omega
    · have d3 : decide (i < n) = false := decide_eq_false hlt
      have d4 : ((i : Int) < (n : Int)) = False := by simp; omega
      have hin : i = n := by omega
      have hrf : rf 0 l = some h := by
        rw [← HE.out, List.drop_eq_nil_of_le (by rw [← HN.out]; omega)]
        rfl
      have hv := HRB.out
      rw [hrf] at hv
      by_cases h1 : h = 1
      · subst h1
        by_cases t : n ≤ 24
        · have i1 : ((n : Int) ≤ 24) = True := by simp; omega
          have i2 : decide (n ≤ 24) = true := decide_eq_true t
          have HV := Lib.hid hv
          clear hv hrf t hin hlt
          go_wp2_with fail
          go_returns
          exact ⟨by rw [HV.out]; simp [i2], HB.out⟩
        · have i1 : ((n : Int) ≤ 24) = False := by simp; omega
          have i2 : decide (n ≤ 24) = false := decide_eq_false t
          have HV := Lib.hid hv
          clear hv hrf t hin hlt
          go_wp2_with fail
          go_returns
          exact ⟨by rw [HV.out]; simp [i2], HB.out⟩
      · have e1 : ((h : Int) == 1) = false := by rw [beq_eq_false_iff_ne]; omega
        have HV := Lib.hid hv
        have H1 := Lib.hid h1
        clear hv hrf hin hlt h1
        go_wp2_with fail
        go_returns
        refine ⟨?_, HB.out⟩
        rw [HV.out]
        have : (some h == some 1) = false := by rw [beq_eq_false_iff_ne]; intro q; cases q; exact H1.out rfl
        rw [this]
        rfl
end Go.Proofs.YtdlfdkdcnabpoaaDoor.Pa
