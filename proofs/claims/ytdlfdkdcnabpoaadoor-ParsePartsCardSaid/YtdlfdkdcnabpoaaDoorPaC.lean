/- Layer 17: chain: what stands between signs. -/
import Derived.Test.YtdlfdkdcnabpoaaDoorPaP
import Derived.Test.YtdlfdkdcnabpoaaDoorTurn
namespace Go.Proofs.YtdlfdkdcnabpoaaDoor.Pa
set_option linter.unusedSimpArgs false
set_option linter.unusedVariables false
open Go.RowKit
open _root_.Go.Proofs.YtdlfdkdcnabpoaaDoor.Own
open Go.Proofs.YtdlfdkdcnabpoaaDoor.Lx
attribute [local go_sem] str_size str_extract str_append str_toList
/-- A function that reads a part, so deep. -/
def PartC (F : FuncId) (deep : Int) (g : St → St) : Prop := ∀ (r : Nat) (w : World) (s : St), RdS r w s → Wf s.R → s.O.length + s.R.length ≤ 200 →
  Calls Tryd.prog F #[.pointer (some ⟨r, 0, none⟩), .int .i64 deep] w fun x w' => x = .returned (.tuple #[]) ∧ RdS r w' (g s) ∧ Fr r w w'
/-- How many pieces are left, in the world. -/
def leftOf (r : Nat) (w : World) : Nat := match w.cell? ⟨r, 0, none⟩ with | some (.slice _ n _) => n | _ => 0
theorem leftOf_is {r : Nat} {w : World} {s : St} (h : RdS r w s) : leftOf r w = s.R.length := by
  obtain ⟨ad, cap, vo, hg, _⟩ := h.shape
  unfold leftOf
  rw [cell_of_row w r 0 _ _ _ hg]
  rfl
theorem Texts.fr {r b : Nat} {w w' : World} {ts : List (List UInt8)} (h : Texts w b ts) (hf : Fr r w w') (hn : b ≠ r) : Texts w' b ts := hf.row h hn (by decide)
theorem is_none {s : St} {ts : List (List UInt8)} (h : isS s ts = true) : ∃ p R, s.R = p :: R ∧ p.kind ≠ 5 ∧ s.f = 0 ∧ p.text ∈ ts := by
  unfold isS isT at h
  cases hR : s.R with
  | nil => simp [hR] at h
  | cons p R =>
    rw [hR] at h
    simp at h
    obtain ⟨h1, h2, h3⟩ := h
    exact ⟨p, R, rfl, by omega, h1, h3⟩
theorem loop_stop {g : St → St} {s : St} {ts : List (List UInt8)} (h : isS s ts = false) (n : Nat) : loopS g ts n s = s := by
  cases n with
  | zero => rfl
  | succ n => unfold loopS; rw [if_neg (by simp [h])]
theorem loop_go {g : St → St} {s : St} {ts : List (List UInt8)} (h : isS s ts = true) (n : Nat) : loopS g ts (n + 1) s = loopS g ts n (nodeS (g (takeS s)) (kindOf (headT s.R)) 0) := by
  rw [loopS, if_pos h]
theorem isC {r : Nat} {w : World} {s : St} (h : RdS r w s) (b n : Nat) (ts : List (List UInt8)) (hn : n = ts.length) (hl : ts.length ≤ 100) (hb : Texts w b ts) :
    Calls Tryd.prog 37 #[.pointer (some ⟨r, 0, none⟩), .slice (some ⟨b, 0, none⟩) n n] w fun e w' => e = .returned (.bool (isS s ts)) ∧ RdS r w' s ∧ Fr r w w' :=
  (is_calls h b n ts hn hl hb).mono fun e w' ⟨h1, h2⟩ => ⟨h1, Rdr.below h h2, .of_below h2⟩
theorem takeC {r : Nat} {w : World} {s : St} (h : RdS r w s) (hw : Wf s.R) :
    Calls Tryd.prog 38 #[.pointer (some ⟨r, 0, none⟩)] w fun e w' => (∃ p R, s.R = p :: R ∧ e = .returned (.agg ⟨[.int .i64 p.kind, .string (str p.text), .int .i64 p.n, .int .i64 p.pos]⟩)) ∧ RdS r w' (takeS s) ∧ Fr r w w' := by
  obtain ⟨R, O, a, f⟩ := s
  cases R with
  | nil => exact absurd rfl hw.ne
  | cons p R => exact (take_calls h hw.more).mono fun e w' ⟨h1, h2, h3⟩ => ⟨⟨p, R, rfl, h1⟩, h2, h3⟩
theorem nodeC {r : Nat} {w : World} {s : St} (h : RdS r w s) (hl : s.O.length ≤ 1000) (k n : Int) :
    Calls Tryd.prog 39 #[.pointer (some ⟨r, 0, none⟩), .int .i64 k, .int .i64 n] w fun e w' => e = .returned (.tuple #[]) ∧ RdS r w' (nodeS s k n) ∧ Fr r w w' := node_calls h k n hl
theorem badC {r : Nat} {w : World} {s : St} (h : RdS r w s) (c : Nat) :
    Calls Tryd.prog 28 #[.pointer (some ⟨r, 0, none⟩), .int .i64 c] w fun e w' => e = .returned (.tuple #[]) ∧ RdS r w' (badS s c) ∧ Fr r w w' := bad_calls h c
theorem RdS.lt {r : Nat} {w : World} {s : St} (h : RdS r w s) : r < w.heap.size := Rdr.lt h
theorem RdS.below {r : Nat} {w w' : World} {s : St} (h : RdS r w s) (hb : Below w.heap.size w w') : RdS r w' s := Rdr.below h hb
attribute [local irreducible] RdS
set_option maxRecDepth 10000 in
set_option maxHeartbeats 4000000 in
theorem chain_calls (F : FuncId) (hE : ∀ (xs : Array Value) (w : World), (callFunc F xs).run Tryd.prog w = .ok (.enter F xs) w) (deep : Int) (g : St → St) (hF : PartC F deep g) (hS : Shr g) (b n : Nat) (ts : List (List UInt8)) (hn : n = ts.length) (htl : ts.length ≤ 100) (hk : ∀ t ∈ ts, ∃ k, (t, k) ∈ kindL)
    {r : Nat} {w : World} {s : St} (h : RdS r w s) (hw : Wf s.R) (hl : s.O.length + s.R.length ≤ 200) (hb : Texts w b ts) (hbr : b ≠ r) :
    Calls Tryd.prog 48 #[.pointer (some ⟨r, 0, none⟩), .func (.func F) #[.pointer (some ⟨r, 0, none⟩)] #[], .int .i64 deep, .slice (some ⟨b, 0, none⟩) n n] w fun x w' => x = .returned (.tuple #[]) ∧ RdS r w' (partS g ts s) ∧ Fr r w w' := by
  have HF := Lib.hid hF
  have HP := Lib.hid (hF r w s h hw hl)
  obtain ⟨e1, e2, e3⟩ := hS s hw
  have HW1 := Lib.hid e1
  have HL1 := Lib.hid (Nat.le_trans e3 hl)
  have HTx := Lib.hid hb
  have HS := Lib.hid hS
  have HK := Lib.hid hk
  have HN := Lib.hid (And.intro hn htl)
  have hpart : partS g ts s = loopS g ts (g s).R.length (g s) := rfl
  rw [hpart]
  obtain ⟨s1, hs1⟩ : ∃ s1, g s = s1 := ⟨_, rfl⟩
  rw [hs1] at HP HW1 HL1 ⊢
  clear hn htl hF h hw hl e1 e2 e3 hs1 hS hb hk hpart
  go_enter Tryd.func48, Tryd.ntmps48
  go_wp2_with fail
  refine HP.out.mono ?_
  rintro e w1 ⟨rfl, hR1, hf1⟩
  have HR1 := Lib.hid hR1
  have HF1 := Lib.hid hf1
  clear hR1 hf1 HP
  go_wp2_with fail
  go_loopw [8] (fun v8 wr => ∃ (m : Nat) (s2 : St), Hid (loopS g ts m s2 = loopS g ts s1.R.length s1) ∧ Hid (s2.R.length ≤ m) ∧ Hid (RdS r wr s2) ∧ Hid (Wf s2.R) ∧ Hid (s2.O.length + s2.R.length ≤ 200) ∧ Hid (Fr r w wr)) (fun _ wr => leftOf r wr)
  case atStart => exact ⟨s1.R.length, s1, Lib.hid rfl, Lib.hid (Nat.le_refl _), HR1, HW1, HL1, HF1⟩
  case round =>
    clear HR1 HF1
    obtain ⟨m, s2, HM, HE, HR, HW, HL, HFr⟩ := hrel
    have HIs := Lib.hid (isC HR.out b n ts HN.out.1 HN.out.2 (HTx.out.fr HFr.out hbr))
    obtain ⟨bi, hbi⟩ : ∃ bi, isS s2 ts = bi := ⟨_, rfl⟩
    rw [hbi] at HIs
    cases bi with
    | false =>
      have HSt := Lib.hid ((loop_stop hbi m).symm.trans HM.out)
      clear hbi HR HL HW
      go_wp2_with fail
      refine HIs.out.mono ?_
      rintro e w2 ⟨rfl, hR2, hf2⟩
      have HR2 := Lib.hid hR2
      have HF2 := Lib.hid (HFr.out.trans hf2)
      clear hR2 hf2
      go_wp2_with fail
      go_returns
      exact ⟨rfl, HSt.out ▸ HR2.out, HF2.out⟩
    | true =>
      obtain ⟨p, R, hpR, hp5, hf0, hpt⟩ := is_none hbi
      have HLf := Lib.hid (leftOf_is HR.out)
      have HSh := Lib.hid (fun k => shr_round HS.out s2 HW.out hbi k)
      have HBi := Lib.hid hbi
      have HPR := Lib.hid hpR
      have HPT := Lib.hid hpt
      clear hbi hpR hpt hp5 hf0
      go_wp2_with fail
      refine HIs.out.mono ?_
      rintro e w2 ⟨rfl, hR2, hf2⟩
      have HR2 := Lib.hid hR2
      have HF2 := Lib.hid (HFr.out.trans hf2)
      clear hR2 hf2
      go_wp2_with fail
      refine Turn.region_seq [1, 2, 3, 0, 4, 5, 6, 7] (fun i => i == 0 || i == 4 || i == 6) (fun _ => True) (by kernel_rfl) (by kernel_rfl) trivial ?_
      repeat (first | (apply Turn.seq_yes; (· simp only [List.getElem?_toArray, List.getElem?_cons_succ, List.getElem?_cons_zero]; rfl); (· rfl); (· go_simp); (· intro w1 h1; go_simp; first | exact ⟨rfl, rfl, h1⟩ | exact ⟨rfl, h1⟩ | exact rfl); (· go_simp; rfl)) | (apply Turn.seq_no; (· simp only [List.getElem?_toArray, List.getElem?_cons_succ, List.getElem?_cons_zero]; rfl); (· go_simp); (· go_simp; rfl)))
      apply Turn.seq_call
      · simp only [List.getElem?_toArray, List.getElem?_cons_succ, List.getElem?_cons_zero]; rfl
      · rfl
      · go_simp
      · intro v; go_simp; rfl
      go_simp
      refine (kinds_calls _).mono ?_
      rintro e w3 ⟨rfl, hK, hb3⟩
      have HR3 := Lib.hid (RdS.below (RdS.below HR2.out (Below.refl _ w2).drew) hb3)
      have HF3 := Lib.hid ((HF2.out.trans (.of_below (Below.refl _ w2).drew)).trans (.of_below hb3))
      have hBr : w2.drew.heap.size ≠ r := by
        have := (RdS.below HR2.out (Below.refl _ w2).drew).lt
        omega
      have HKi := Lib.hid (And.intro hK hBr)
      clear hK hb3 hBr
      obtain ⟨B, hB⟩ : ∃ B, w2.drew.heap.size = B := ⟨_, rfl⟩
      rw [hB] at HKi ⊢
      clear hB
      refine ⟨_, rfl, ?_⟩
      repeat (first | (apply Turn.seq_yes; (· simp only [List.getElem?_toArray, List.getElem?_cons_succ, List.getElem?_cons_zero]; rfl); (· rfl); (· go_simp); (· intro w1 h1; go_simp; first | exact ⟨rfl, rfl, h1⟩ | exact ⟨rfl, h1⟩ | exact rfl); (· go_simp; rfl)) | (apply Turn.seq_no; (· simp only [List.getElem?_toArray, List.getElem?_cons_succ, List.getElem?_cons_zero]; rfl); (· go_simp); (· go_simp; rfl)))
      apply Turn.seq_call
      · simp only [List.getElem?_toArray, List.getElem?_cons_succ, List.getElem?_cons_zero]; rfl
      · rfl
      · go_simp
      · intro v; go_simp; rfl
      go_simp
      refine (takeC HR3.out HW.out).mono ?_
      rintro e w4 ⟨⟨p', R', hp', rfl⟩, hR4, hf4⟩
      have hlk := kindOf_get (HKi.out.1.fr hf4 HKi.out.2) p.text (HK.out _ HPT.out)
      rw [HPR.out] at hp'
      cases hp'
      have HR4 := Lib.hid hR4
      have HF4 := Lib.hid (HF3.out.trans hf4)
      have hkd : headT s2.R = p.text := by rw [HPR.out]; rfl
      have HKD := Lib.hid hkd
      clear hR4 hf4 hkd
      refine ⟨_, rfl, ?_⟩
      repeat (first | (apply Turn.seq_yes; (· simp only [List.getElem?_toArray, List.getElem?_cons_succ, List.getElem?_cons_zero]; rfl); (· rfl); (· go_simp); (· intro w1 h1; go_simp; first | exact ⟨rfl, rfl, h1⟩ | exact ⟨rfl, h1⟩ | exact rfl); (· go_simp; rfl)) | (apply Turn.seq_no; (· simp only [List.getElem?_toArray, List.getElem?_cons_succ, List.getElem?_cons_zero]; rfl); (· go_simp); (· go_simp; rfl)))
      apply Turn.seq_call
      · simp only [List.getElem?_toArray, List.getElem?_cons_succ, List.getElem?_cons_zero]; rfl
      · rfl
      · go_simp
      · intro v; go_simp; rfl
      go_simp
      repeat (first | (apply Turn.seq_yes; (· simp only [List.getElem?_toArray, List.getElem?_cons_succ, List.getElem?_cons_zero]; rfl); (· rfl); (· go_simp); (· intro w1 h1; go_simp; first | exact ⟨rfl, rfl, h1⟩ | exact ⟨rfl, h1⟩ | exact rfl); (· go_simp; rfl)) | (apply Turn.seq_no; (· simp only [List.getElem?_toArray, List.getElem?_cons_succ, List.getElem?_cons_zero]; rfl); (· go_simp); (· go_simp; rfl)))
      apply Turn.seq_nil
      clear hlk
      have HFp := Lib.hid (HF.out r w4 (takeS s2) HR4.out HW.out.adv (by have := HL.out; have := adv_le s2.R; rw [take_O, take_R]; omega))
      go_wp2_with fail
      refine HFp.out.mono ?_
      rintro e w5 ⟨rfl, hR5, hf5⟩
      have HR5 := Lib.hid hR5
      have HF5 := Lib.hid (HF4.out.trans hf5)
      clear hR5 hf5
      have hln : (g (takeS s2)).O.length ≤ 1000 := by
        have h1 := (HSh.out 0).2.2
        have h2 := HL.out
        rw [node_len] at h1
        omega
      have HNo := Lib.hid (nodeC HR5.out hln (kindOf p.text) 0)
      clear hln
      go_wp2_with fail
      refine HNo.out.mono ?_
      rintro e w6 ⟨rfl, hR6, hf6⟩
      have HR6 := Lib.hid hR6
      have HF6 := Lib.hid (HF5.out.trans hf6)
      clear hR6 hf6
      go_wp2_with fail
      have h7 := (HSh.out (kindOf p.text))
      have h8 := HE.out
      have h9 := HL.out
      obtain ⟨m', rfl⟩ : ∃ m', m = m' + 1 := ⟨m - 1, by have := h7.2.1; omega⟩
      go_roundw
      case rel => exact ⟨m', _, Lib.hid (by rw [← HM.out, loop_go HBi.out, HKD.out]), Lib.hid (by have := h7.2.1; omega), HR6, Lib.hid h7.1, Lib.hid (by have := h7.2.2; omega), HF6⟩
      case measure => rw [leftOf_is HR6.out, HLf.out]; exact h7.2.1
end Go.Proofs.YtdlfdkdcnabpoaaDoor.Pa

