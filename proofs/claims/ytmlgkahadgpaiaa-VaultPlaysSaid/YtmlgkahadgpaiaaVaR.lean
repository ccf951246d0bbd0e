/- Chapter 10: the reference's Save. -/
import Derived.Test.YtmlgkahadgpaiaaVaO
import Derived.Test.YtmlgkahadgpaiaaDkF
import Derived.Test.YtmlgkahadgpaiaaVaI
import Derived.Test.YtmlgkahadgpaiaaDkB
namespace Go.Proofs.Ytmlgkahadgpaiaa.Va
open Go.RowKit _root_.Go.Proofs.Ytmlgkahadgpaiaa.Own
open Go.Proofs.Ytmlgkahadgpaiaa.Fr
open Go.Proofs.Ytmlgkahadgpaiaa.Dk (RD RIs rcells rowB rowB_length row_rd D Is Rel wst DOk torn putRow)
set_option linter.unusedVariables false
set_option linter.unusedSimpArgs false
/-- A write onto the reference's disk, beside the program's. -/
theorem rwrite_step {d : D} {rd : RD} {k n : Nat} (hr : Rel d rd k) (hk : k ≤ 1000000) (j : Nat) (hj : j < n) (hn : n ≤ 1024) (b : List UInt8) (hb : b.length = 128) :
    ∃ rd', Rel (wst d j b).2 rd' (k + 1) ∧ ∀ (h q : Nat) (a : Addr) (cb : Nat) (w : World), RIs h q n rd w → 128 ≤ cb → Rd w (some a) (bys b) → a.block ≠ h ∧ a.block ≠ q →
      Calls Try.prog 35 #[.pointer (some ⟨h, 0, none⟩), .int .i64 j, .slice (some a) 128 cb] w fun e w' => e = .returned (.int .i64 (wst d j b).1) ∧ Only [h, q] w w' ∧ RIs h q n rd' w' := by
  have hw : 0 ≤ rd.writes ∧ rd.writes < 1099511627776 := by rw [hr.wr]; have := hr.wb; omega
  unfold Dk.wst
  by_cases c1 : d.off = true
  · rw [if_pos c1]
    refine ⟨rd, hr.mono (by omega), ?_⟩
    intro h q a cb w hI _ _ _
    exact (Dk.RWriteBad_calls hI hn j (some a) 128 cb 19 (.inr (.inr ⟨by omega, rfl, by rw [hr.off]; exact c1, rfl⟩))).mono fun e w' ⟨h1, h2⟩ => ⟨h1, Only.of_below h2, hI.below h2⟩
  · rw [if_neg c1]
    have c2 : d.off = false := by simpa using c1
    have ho' : rd.off = false := by rw [hr.off]; exact c2
    cases c4 : d.armed with
    | true =>
      obtain ⟨e1, e2, e3⟩ := hr.on c4
      by_cases c5 : d.left = 0
      · rw [if_pos ⟨rfl, c5⟩]
        refine ⟨{ rd with all := putRow rd.all j (torn rd.keep.toNat b), off := true, fuse := -1, writes := rd.writes + 1 }, ?_, ?_⟩
        · refine ⟨by simp only; rw [hr.all, e2], rfl, by simp only; rw [hr.wr], ?_, ?_, hr.kp, by simp, fun _ => rfl⟩
          · have := hr.wb; simp only; omega
          · have := hr.lb; simp only; omega
        · intro h q a cb w hI hcb hR hne
          exact Dk.RWriteTorn_calls hI hn j hj ho' a cb b hb hcb hR hne hw hr.kp (by rw [e1]; exact c5)
      · rw [if_neg (fun z => c5 z.2)]
        refine ⟨{ rd with all := putRow rd.all j b, fuse := rd.fuse - 1, writes := rd.writes + 1 }, ?_, ?_⟩
        · refine ⟨by simp only; rw [hr.all], hr.off, by simp only; rw [hr.wr], ?_, ?_, hr.kp, ?_, ?_⟩
          · have := hr.wb; simp only; omega
          · have := hr.lb; simp only; omega
          · intro _; simp only; exact ⟨by rw [e1], e2, by omega⟩
          · intro h; simp only at h; first | exact absurd (c4.symm.trans h) (by simp) | cases h
        · intro h q a cb w hI hcb hR hne
          exact Dk.RWriteArmed_calls hI hn j hj ho' a cb b hb hcb hR hne hw hr.kp (by rw [e1]; simpa using c5) (by rw [e1, decide_eq_true_eq]; omega) (by rw [e1]; exact hr.lb.2)
    | false =>
      have e1 := hr.no c4
      rw [if_neg (fun z => nomatch z.1)]
      refine ⟨{ rd with all := putRow rd.all j b, writes := rd.writes + 1 }, ?_, ?_⟩
      · refine ⟨by simp only; rw [hr.all], hr.off, by simp only; rw [hr.wr], ?_, ?_, hr.kp, ?_, fun _ => e1⟩
        · have := hr.wb; simp only; omega
        · have := hr.lb; simp only; omega
        · intro h; simp only at h; first | exact absurd (c4.symm.trans h) (by simp) | cases h
      · intro h q a cb w hI hcb hR hne
        exact Dk.RWriteOk_calls hI hn j hj ho' a cb b hb hcb hR hne hw hr.kp (by rw [e1]; decide) (by rw [e1]; decide)
theorem chunk_fill (b : List UInt8) (j : Nat) (hj : j < blkN b.length) : ((fillN b).drop (j * 128)).take 128 = chunk b j := by
  apply List.ext_getElem?
  intro i
  have hbl := fill_le b.length
  have lhs : (((fillN b).drop (j * 128)).take 128)[i]? = if i < 128 then (fillN b)[j * 128 + i]? else none := by
    rw [List.getElem?_take]
    split
    · rw [List.getElem?_drop]
    · rfl
  have fl : ∀ p, (fillN b)[p]? = if p < b.length then b[p]? else if p - b.length < blkN b.length * 128 - b.length then some 0 else none := by
    intro p
    unfold fillN
    rw [List.getElem?_append, List.getElem?_replicate]
  have hml : ((b.drop (j * 128)).take 128).length = min 128 (b.length - j * 128) := by rw [List.length_take, List.length_drop]
  have rhs : (chunk b j)[i]? = if i < min 128 (b.length - j * 128) then (if i < 128 then b[j * 128 + i]? else none) else if i - min 128 (b.length - j * 128) < 128 - min 128 (b.length - j * 128) then some 0 else none := by
    unfold chunk
    rw [List.getElem?_append, hml, List.getElem?_replicate, List.getElem?_take, List.getElem?_drop]
  rw [lhs, rhs, fl]
  by_cases h1 : i < 128
  · by_cases h2 : j * 128 + i < b.length
    · rw [if_pos h1, if_pos h2, if_pos (by omega), if_pos h1]
    · rw [if_pos h1, if_neg h2, if_pos (by omega), if_neg (by omega), if_pos (by omega)]
  · rw [if_neg h1, if_neg (by omega), if_neg (by omega)]
theorem fill_len (b : List UInt8) : (fillN b).length = blkN b.length * 128 := by
  unfold fillN
  have := fill_le b.length
  rw [List.length_append, List.length_replicate]; omega
theorem rsave_range {h : Nat} (f gen : Int) (hg : gen < 0 ∨ 2147483647 < gen) (b : Value) (w : World) :
    Calls Try.prog 30 #[.pointer (some ⟨h, 0, none⟩), .int .i64 f, .int .i64 gen, b] w fun e w' => e = .returned (.int .i64 8) ∧ w = w' := by
  by_cases c1 : gen < 0
  · have m1 := decide_eq_true c1
    clear hg c1
    go_enter Try.func30, Try.ntmps30
    go_wp2_with fail
    go_ret
    exact ⟨rfl, rfl⟩
  · have m1 := decide_eq_false c1
    have c2 : 2147483647 < gen := by rcases hg with h | h <;> first | exact absurd h c1 | exact h
    have m3 : decide (gen > 2147483647) = true := decide_eq_true c2
    clear hg c1 c2
    go_enter Try.func30, Try.ntmps30
    go_wp2_with fail
    go_ret
    exact ⟨rfl, rfl⟩
theorem rsave_full {h : Nat} (f : Int) (gen : Nat) (hg : gen ≤ 2147483647) (A : Option Addr) (l c : Nat) (hl : 32640 < l) (hm : l ≤ 1000000) (w : World) :
    Calls Try.prog 30 #[.pointer (some ⟨h, 0, none⟩), .int .i64 f, .int .i64 gen, .slice A l c] w fun e w' => e = .returned (.int .i64 12) ∧ w = w' := by
  have m1 : decide ((gen : Int) < 0) = false := by rw [decide_eq_false_iff_not]; omega
  have m2 : decide ((gen : Int) > 2147483647) = false := by rw [decide_eq_false_iff_not]; omega
  have hbk : 255 < blkN l := by unfold blkN; omega
  have m3 : decide (((blkN l : Nat) : Int) > 255) = true := by rw [decide_eq_true_eq]; omega
  have m4 : decide (255 < blkN l) = true := decide_eq_true hbk
  have HBK := Lib.hid (RBlocks_calls l (by omega) w)
  clear hg hm hl hbk
  go_enter Try.func30, Try.ntmps30
  go_wp2_with fail
  refine HBK.out.mono ?_
  rintro e w1 ⟨rfl, rfl⟩
  go_wp2_with fail
  go_ret
  exact ⟨rfl, rfl⟩
set_option maxRecDepth 10000 in
set_option maxHeartbeats 8000000 in
theorem RSave_calls {d : D} {rd : RD} {k h q n f : Nat} {w : World} (hr : Rel d rd k) (hk : k ≤ 500000) (hI : RIs h q n rd w) (hf : f + 512 ≤ n) (hn : n ≤ 1024) (gen : Nat) (hg : gen ≤ 2147483647) (A : Option Addr) (l c : Nat) (b : List UInt8) (hl : l = b.length) (hb : l ≤ 32640) (hA : A = none → c = 0) (hR : Rd w A (bys b)) (hAg : ∀ a, A = some a → a.block ≠ h ∧ a.block ≠ q) :
    Calls Try.prog 30 #[.pointer (some ⟨h, 0, none⟩), .int .i64 f, .int .i64 gen, .slice A l c] w fun e w' => ∃ rd', e = .returned (.int .i64 (saveD d f gen b).1) ∧ Only [h, q] w w' ∧ RIs h q n rd' w' ∧ Rel (saveD d f gen b).2 rd' (k + blkN l + 1) := by
  have m1 : decide ((gen : Int) < 0) = false := by rw [decide_eq_false_iff_not]; omega
  have m2 : decide ((gen : Int) > 2147483647) = false := by rw [decide_eq_false_iff_not]; omega
  obtain ⟨B, hB⟩ : ∃ B, blkN l = B := ⟨_, rfl⟩
  have hbk : B ≤ 255 := by rw [← hB]; unfold blkN; omega
  have m3 : decide ((B : Int) > 255) = false := by rw [decide_eq_false_iff_not]; omega
  have m4 : decide (255 < B) = false := by rw [decide_eq_false_iff_not]; omega
  have HBk := Lib.hid (fun W : World => RBlocks_calls l (by omega) W)
  rw [hB] at HBk ⊢
  have HBB := Lib.hid hB
  have HR := Lib.hid hR
  have HL := Lib.hid hl
  have Hg := Lib.hid hg
  have HI := Lib.hid hI
  have HA := Lib.hid hA
  have HAG := Lib.hid hAg
  have HRel := Lib.hid hr
  have hbl : B * 128 ≤ 32640 := by omega
  have HSm := Lib.hid hb
  have HF := Lib.hid hf
  have HNN := Lib.hid hn
  have HKK := Lib.hid hk
  have har : areaN f gen + 256 ≤ n := by unfold areaN; omega
  have HAR := Lib.hid har
  have htm := tmod2 gen
  have hareaD : areaN f gen = f + gen % 2 * 256 := rfl
  have hmod : gen % 2 = 0 ∨ gen % 2 = 1 := by omega
  clear hB hR hl hg hI hA hAg hr hb hf hn hk har
  rcases hmod with hp | hp
  · rw [hp] at htm hareaD
    have hat : areaN f gen = f := by omega
    rw [hat] at HAR
    have HAT := Lib.hid hat
    clear hareaD hat hp
    go_enter Try.func30, Try.ntmps30
    go_wp2_with fail
    refine (HBk.out w).mono ?_
    rintro e w1 ⟨rfl, rfl⟩
    go_wp2_with fail
    refine (RFilled_calls A l c b HL.out HSm.out HA.out w HR.out).mono ?_
    rintro e w1 ⟨v10, rfl, hv10, hb1⟩
    have hI1 := HI.out.below hb1
    obtain ⟨A10, c10, rfl, hc10, hA10, hR10⟩ := hv10.form
    rw [bys_length, fill_len, ← HL.out, HBB.out] at hc10 ⊢
    have hne10 : ∀ a, A10 = some a → a.block ∉ [h, q] := by
      intro a ha hm
      have h1 := (hv10.blk a.block (by rw [ha]; rfl)).1
      have h2 := blk_lt HI.out.own
      have h3 := blk_lt HI.out.row
      simp at hm
      omega
    have HV := Lib.hid (And.intro hA10 (And.intro hR10 hne10))
    have HRb := Lib.hid (HR.out.below hb1)
    have HI1 := Lib.hid hI1
    have HO1 := Lib.hid (show Only [h, q] w w1 from Only.of_below hb1)
    have HC10 := Lib.hid hc10
    have HS0 := Lib.hid (show (saveN d f b 0).1 = 0 from rfl)
    have HR0 := Lib.hid (show Rel (saveN d f b 0).2 rd (k + 0) from HRel.out)
    clear hb1 hv10 hI1 hA10 hR10 hne10 hc10 m1 m2 m3 m4
    obtain ⟨L10, hL10⟩ : ∃ L10, B * 128 = L10 := ⟨_, rfl⟩
    rw [hL10] at HC10 ⊢
    have HL10 := Lib.hid hL10
    clear hL10
    go_wp2_with fail
    go_loopw [11] (fun v11 wr => ∃ (j : Nat) (rd' : RD), j ≤ B ∧ v11 = .int .i64 j ∧ Hid ((saveN d f b j).1 = 0) ∧ Hid (Rel (saveN d f b j).2 rd' (k + j)) ∧ Hid (RIs h q n rd' wr) ∧ Hid (Only [h, q] w1 wr)) (fun v11 _ => B - (intOf v11).toNat)
    case atStart => exact ⟨0, rd, Nat.zero_le _, rfl, HS0, HR0, HI1, Lib.hid (Only.refl _ _)⟩
    case round =>
      clear HS0 HR0 HI1
      obtain ⟨j, rd', hj, rfl, HS, HRl, HIr, HOr⟩ := hrel
      by_cases hlt : j < B
      · have hd : decide ((j : Int) < (B : Int)) = true := by rw [decide_eq_true_eq]; omega
        have hd2 : decide (j < B) = true := decide_eq_true hlt
        have hjl : j * 128 + 128 ≤ L10 := by have := HL10.out; omega
        have hL2 : L10 ≤ 32640 := by have := HL10.out; omega
        obtain ⟨a, rfl⟩ : ∃ a, A10 = some a := by
          cases A10 with
          | none => have h1 := HV.out.1 rfl; have h2 := HC10.out; omega
          | some a => exact ⟨a, rfl⟩
        have hcc := HC10.out
        have har := HAR.out
        have hnn := HNN.out
        obtain ⟨lo, hlo⟩ : ∃ lo, j * 128 = lo := ⟨_, rfl⟩
        have f1 : IntKind.i64.wrap (128 * (j : Int)) = (lo : Int) := by rw [IntKind.wrap_i64]; omega
        have f2 : IntKind.i64.wrap ((lo : Int) + 128) = ((lo + 128 : Nat) : Int) := by rw [IntKind.wrap_i64]; omega
        have f3 : IntKind.i64.wrap ((f : Int) + 1) = (f : Int) + 1 := by rw [IntKind.wrap_i64]; omega
        have f4 : IntKind.i64.wrap ((f : Int) + 1 + (j : Int)) = ((f + 1 + j : Nat) : Int) := by rw [IntKind.wrap_i64]; omega
        have f5 : (lo : Int) ≤ (lo : Int) + 128 ∧ (lo : Int) + 128 ≤ (c10 : Int) ∧ 0 ≤ (lo : Int) ∧ 0 ≤ (lo : Int) + 128 ∧ ((lo : Int) + 128).toNat = lo + 128 := by omega
        obtain ⟨f5, f6, f7, f8, f9⟩ := f5
        have g1 : lo ≤ lo + 128 ∧ lo + 128 ≤ c10 ∧ ¬ c10 = lo ∧ lo + 128 - lo = 128 := by omega
        obtain ⟨g1, g2, g3, g4⟩ := g1
        have hrd : Rd wr (some (a.add lo)) (bys (chunk b j)) := by
          have h1 := rd_keep HV.out.2.1 HOr.out HV.out.2.2
          have h2 := (h1.drop lo).take 128
          rw [show ((bys (fillN b)).drop lo).take 128 = bys (((fillN b).drop lo).take 128) from by simp [bys, List.map_drop, List.map_take], ← hlo, chunk_fill b j (by rw [← HL.out, HBB.out]; exact hlt)] at h2
          rw [← hlo]
          exact h2
        obtain ⟨rd2, hrel2, hW⟩ := rwrite_step HRl.out (by have := HKK.out; omega) (f + 1 + j) (by omega) HNN.out (chunk b j) (chunk_length b j)
        have hW2 := hW h q (a.add lo) (c10 - lo) wr HIr.out (by omega) hrd (by
          rw [block_add]
          have := HV.out.2.2 a rfl
          simp at this
          exact this)
        have hnext : saveN d f b (j + 1) = wst (saveN d f b j).2 (f + 1 + j) (chunk b j) := by
          show (if (saveN d f b j).1 = 0 then _ else _) = _
          rw [if_pos HS.out]
        rw [← hnext] at hW2 hrel2
        have HW2 := Lib.hid hW2
        have HRel2 := Lib.hid hrel2
        clear hW hW2 hrel2 hrd hlo hcc har hnn hjl hL2
        go_wp2_with fail
        refine (HBk.out wr).mono ?_
        rintro e w6 ⟨rfl, rfl⟩
        go_wp2_with fail
        refine HW2.out.mono ?_
        rintro e w6 ⟨rfl, ho6, hi6⟩
        have HO6 := Lib.hid (HOr.out.trans ho6)
        have HI6 := Lib.hid hi6
        clear ho6 hi6 HW2 f1 f2 f3 f4 f5 f6 f7 f8 f9 g1 g2 g3 g4
        by_cases hE : (saveN d f b (j + 1)).1 = 0
        · have HE := Lib.hid hE
          rw [hE]
          clear hE hnext
          have g9 : IntKind.i64.wrap ((j : Int) + 1) = ((j + 1 : Nat) : Int) := by rw [IntKind.wrap_i64]; omega
          go_wp2_with fail
          go_roundw
          case rel => exact ⟨j + 1, rd2, by omega, by simp, HE, HRel2, HI6, HO6⟩
          case measure => simp [intOf]; omega
        · have hst := saveN_stuck hE (B - (j + 1))
          rw [show j + 1 + (B - (j + 1)) = B by omega] at hst
          have hsd : saveD d f gen b = saveN d f b (j + 1) := by
            unfold saveD
            rw [HAT.out, ← HL.out, HBB.out, hst, if_neg hE]
          have HSD := Lib.hid hsd
          obtain ⟨E, hEq⟩ : ∃ E, (saveN d f b (j + 1)).1 = E := ⟨_, rfl⟩
          rw [hEq] at hE ⊢
          have HEq := Lib.hid hEq
          have hE2 : (E == 0) = false := beq_eq_false_iff_ne.2 hE
          clear hst hsd hEq hnext
          go_wp2_with fail
          go_ret
          refine ⟨rd2, ?_, HO1.out.trans HO6.out, HI6.out, ?_⟩
          · rw [HSD.out, HEq.out]; rfl
          · rw [HSD.out]; exact HRel2.out.mono (by omega)
      · have hd : decide ((j : Int) < (B : Int)) = false := by rw [decide_eq_false_iff_not]; omega
        have hd2 : decide (j < B) = false := decide_eq_false hlt
        obtain rfl : j = B := by omega
        have hHd := RHead_calls gen Hg.out A l c b HL.out HSm.out HA.out wr (rd_keep HRb.out HOr.out (by intro a ha; simp; exact HAG.out a ha))
        have HHd := Lib.hid hHd
        clear hHd
        go_wp2_with fail
        refine (HBk.out wr).mono ?_
        rintro e w6 ⟨rfl, rfl⟩
        go_wp2_with fail
        refine HHd.out.mono ?_
        rintro e w6 ⟨vh, rfl, hvh, hb6⟩
        obtain ⟨gh, ch, rfl, hch, -, hgb, -, hrh⟩ := Fr.Has.row hvh 127 (headF_length gen b)
        have hgne : gh ≠ h ∧ gh ≠ q := by
          have h2 := blk_lt HIr.out.own
          have h3 := blk_lt HIr.out.row
          omega
        obtain ⟨rd2, hrel2, hW⟩ := rwrite_step HRl.out (by have := HKK.out; omega) f (by have := HAR.out; omega) HNN.out (headF gen b) (headF_length gen b)
        have hW2 := hW h q ⟨gh, 0, none⟩ ch w6 (HIr.out.below hb6) hch hrh hgne
        have hsd : saveD d f gen b = wst (saveN d f b j).2 f (headF gen b) := by
          unfold saveD
          rw [HAT.out, ← HL.out, HBB.out, if_pos HS.out]
        rw [← hsd] at hW2 hrel2
        have HW2 := Lib.hid hW2
        have HRel2 := Lib.hid hrel2
        have HO6 := Lib.hid (HOr.out.trans (Only.of_below hb6))
        clear hW hW2 hrel2 hsd hb6 hvh hrh hgb
        go_wp2_with fail
        refine HW2.out.mono ?_
        rintro e w7 ⟨rfl, ho7, hi7⟩
        have HI7 := Lib.hid hi7
        have HO7 := Lib.hid (HO1.out.trans (HO6.out.trans ho7))
        obtain ⟨E, hEq⟩ : ∃ E, (saveD d f gen b).1 = E := ⟨_, rfl⟩
        rw [hEq]
        have HEq := Lib.hid hEq
        clear HW2 ho7 hi7 hEq
        go_wp2_with fail
        go_ret
        exact ⟨rd2, by rw [HEq.out]; rfl, HO7.out, HI7.out, HRel2.out⟩
  · rw [hp] at htm hareaD
    obtain ⟨at_, hat⟩ : ∃ at_, areaN f gen = at_ := ⟨_, rfl⟩
    rw [hat] at HAR hareaD
    have f0 : IntKind.i64.wrap ((f : Int) + 256) = (at_ : Int) := by rw [IntKind.wrap_i64]; have := HAR.out; have := HNN.out; omega
    have HAT := Lib.hid hat
    clear hareaD hat hp
    go_enter Try.func30, Try.ntmps30
    go_wp2_with fail
    refine (HBk.out w).mono ?_
    rintro e w1 ⟨rfl, rfl⟩
    go_wp2_with fail
    refine (RFilled_calls A l c b HL.out HSm.out HA.out w HR.out).mono ?_
    rintro e w1 ⟨v10, rfl, hv10, hb1⟩
    have hI1 := HI.out.below hb1
    obtain ⟨A10, c10, rfl, hc10, hA10, hR10⟩ := hv10.form
    rw [bys_length, fill_len, ← HL.out, HBB.out] at hc10 ⊢
    have hne10 : ∀ a, A10 = some a → a.block ∉ [h, q] := by
      intro a ha hm
      have h1 := (hv10.blk a.block (by rw [ha]; rfl)).1
      have h2 := blk_lt HI.out.own
      have h3 := blk_lt HI.out.row
      simp at hm
      omega
    have HV := Lib.hid (And.intro hA10 (And.intro hR10 hne10))
    have HRb := Lib.hid (HR.out.below hb1)
    have HI1 := Lib.hid hI1
    have HO1 := Lib.hid (show Only [h, q] w w1 from Only.of_below hb1)
    have HC10 := Lib.hid hc10
    have HS0 := Lib.hid (show (saveN d at_ b 0).1 = 0 from rfl)
    have HR0 := Lib.hid (show Rel (saveN d at_ b 0).2 rd (k + 0) from HRel.out)
    clear hb1 hv10 hI1 hA10 hR10 hne10 hc10 m1 m2 m3 m4
    obtain ⟨L10, hL10⟩ : ∃ L10, B * 128 = L10 := ⟨_, rfl⟩
    rw [hL10] at HC10 ⊢
    have HL10 := Lib.hid hL10
    clear hL10
    go_wp2_with fail
    go_loopw [11] (fun v11 wr => ∃ (j : Nat) (rd' : RD), j ≤ B ∧ v11 = .int .i64 j ∧ Hid ((saveN d at_ b j).1 = 0) ∧ Hid (Rel (saveN d at_ b j).2 rd' (k + j)) ∧ Hid (RIs h q n rd' wr) ∧ Hid (Only [h, q] w1 wr)) (fun v11 _ => B - (intOf v11).toNat)
    case atStart => exact ⟨0, rd, Nat.zero_le _, rfl, HS0, HR0, HI1, Lib.hid (Only.refl _ _)⟩
    case round =>
      clear HS0 HR0 HI1
      obtain ⟨j, rd', hj, rfl, HS, HRl, HIr, HOr⟩ := hrel
      by_cases hlt : j < B
      · have hd : decide ((j : Int) < (B : Int)) = true := by rw [decide_eq_true_eq]; omega
        have hd2 : decide (j < B) = true := decide_eq_true hlt
        have hjl : j * 128 + 128 ≤ L10 := by have := HL10.out; omega
        have hL2 : L10 ≤ 32640 := by have := HL10.out; omega
        obtain ⟨a, rfl⟩ : ∃ a, A10 = some a := by
          cases A10 with
          | none => have h1 := HV.out.1 rfl; have h2 := HC10.out; omega
          | some a => exact ⟨a, rfl⟩
        have hcc := HC10.out
        have har := HAR.out
        have hnn := HNN.out
        obtain ⟨lo, hlo⟩ : ∃ lo, j * 128 = lo := ⟨_, rfl⟩
        have f1 : IntKind.i64.wrap (128 * (j : Int)) = (lo : Int) := by rw [IntKind.wrap_i64]; omega
        have f2 : IntKind.i64.wrap ((lo : Int) + 128) = ((lo + 128 : Nat) : Int) := by rw [IntKind.wrap_i64]; omega
        have f3 : IntKind.i64.wrap ((at_ : Int) + 1) = (at_ : Int) + 1 := by rw [IntKind.wrap_i64]; omega
        have f4 : IntKind.i64.wrap ((at_ : Int) + 1 + (j : Int)) = ((at_ + 1 + j : Nat) : Int) := by rw [IntKind.wrap_i64]; omega
        have f5 : (lo : Int) ≤ (lo : Int) + 128 ∧ (lo : Int) + 128 ≤ (c10 : Int) ∧ 0 ≤ (lo : Int) ∧ 0 ≤ (lo : Int) + 128 ∧ ((lo : Int) + 128).toNat = lo + 128 := by omega
        obtain ⟨f5, f6, f7, f8, f9⟩ := f5
        have g1 : lo ≤ lo + 128 ∧ lo + 128 ≤ c10 ∧ ¬ c10 = lo ∧ lo + 128 - lo = 128 := by omega
        obtain ⟨g1, g2, g3, g4⟩ := g1
        have hrd : Rd wr (some (a.add lo)) (bys (chunk b j)) := by
          have h1 := rd_keep HV.out.2.1 HOr.out HV.out.2.2
          have h2 := (h1.drop lo).take 128
          rw [show ((bys (fillN b)).drop lo).take 128 = bys (((fillN b).drop lo).take 128) from by simp [bys, List.map_drop, List.map_take], ← hlo, chunk_fill b j (by rw [← HL.out, HBB.out]; exact hlt)] at h2
          rw [← hlo]
          exact h2
        obtain ⟨rd2, hrel2, hW⟩ := rwrite_step HRl.out (by have := HKK.out; omega) (at_ + 1 + j) (by omega) HNN.out (chunk b j) (chunk_length b j)
        have hW2 := hW h q (a.add lo) (c10 - lo) wr HIr.out (by omega) hrd (by
          rw [block_add]
          have := HV.out.2.2 a rfl
          simp at this
          exact this)
        have hnext : saveN d at_ b (j + 1) = wst (saveN d at_ b j).2 (at_ + 1 + j) (chunk b j) := by
          show (if (saveN d at_ b j).1 = 0 then _ else _) = _
          rw [if_pos HS.out]
        rw [← hnext] at hW2 hrel2
        have HW2 := Lib.hid hW2
        have HRel2 := Lib.hid hrel2
        clear hW hW2 hrel2 hrd hlo hcc har hnn hjl hL2
        go_wp2_with fail
        refine (HBk.out wr).mono ?_
        rintro e w6 ⟨rfl, rfl⟩
        go_wp2_with fail
        refine HW2.out.mono ?_
        rintro e w6 ⟨rfl, ho6, hi6⟩
        have HO6 := Lib.hid (HOr.out.trans ho6)
        have HI6 := Lib.hid hi6
        clear ho6 hi6 HW2 f1 f2 f3 f4 f5 f6 f7 f8 f9 g1 g2 g3 g4
        by_cases hE : (saveN d at_ b (j + 1)).1 = 0
        · have HE := Lib.hid hE
          rw [hE]
          clear hE hnext
          have g9 : IntKind.i64.wrap ((j : Int) + 1) = ((j + 1 : Nat) : Int) := by rw [IntKind.wrap_i64]; omega
          go_wp2_with fail
          go_roundw
          case rel => exact ⟨j + 1, rd2, by omega, by simp, HE, HRel2, HI6, HO6⟩
          case measure => simp [intOf]; omega
        · have hst := saveN_stuck hE (B - (j + 1))
          rw [show j + 1 + (B - (j + 1)) = B by omega] at hst
          have hsd : saveD d f gen b = saveN d at_ b (j + 1) := by
            unfold saveD
            rw [HAT.out, ← HL.out, HBB.out, hst, if_neg hE]
          have HSD := Lib.hid hsd
          obtain ⟨E, hEq⟩ : ∃ E, (saveN d at_ b (j + 1)).1 = E := ⟨_, rfl⟩
          rw [hEq] at hE ⊢
          have HEq := Lib.hid hEq
          have hE2 : (E == 0) = false := beq_eq_false_iff_ne.2 hE
          clear hst hsd hEq hnext
          go_wp2_with fail
          go_ret
          refine ⟨rd2, ?_, HO1.out.trans HO6.out, HI6.out, ?_⟩
          · rw [HSD.out, HEq.out]; rfl
          · rw [HSD.out]; exact HRel2.out.mono (by omega)
      · have hd : decide ((j : Int) < (B : Int)) = false := by rw [decide_eq_false_iff_not]; omega
        have hd2 : decide (j < B) = false := decide_eq_false hlt
        obtain rfl : j = B := by omega
        have hHd := RHead_calls gen Hg.out A l c b HL.out HSm.out HA.out wr (rd_keep HRb.out HOr.out (by intro a ha; simp; exact HAG.out a ha))
        have HHd := Lib.hid hHd
        clear hHd
        go_wp2_with fail
        refine (HBk.out wr).mono ?_
        rintro e w6 ⟨rfl, rfl⟩
        go_wp2_with fail
        refine HHd.out.mono ?_
        rintro e w6 ⟨vh, rfl, hvh, hb6⟩
        obtain ⟨gh, ch, rfl, hch, -, hgb, -, hrh⟩ := Fr.Has.row hvh 127 (headF_length gen b)
        have hgne : gh ≠ h ∧ gh ≠ q := by
          have h2 := blk_lt HIr.out.own
          have h3 := blk_lt HIr.out.row
          omega
        obtain ⟨rd2, hrel2, hW⟩ := rwrite_step HRl.out (by have := HKK.out; omega) at_ (by have := HAR.out; omega) HNN.out (headF gen b) (headF_length gen b)
        have hW2 := hW h q ⟨gh, 0, none⟩ ch w6 (HIr.out.below hb6) hch hrh hgne
        have hsd : saveD d f gen b = wst (saveN d at_ b j).2 at_ (headF gen b) := by
          unfold saveD
          rw [HAT.out, ← HL.out, HBB.out, if_pos HS.out]
        rw [← hsd] at hW2 hrel2
        have HW2 := Lib.hid hW2
        have HRel2 := Lib.hid hrel2
        have HO6 := Lib.hid (HOr.out.trans (Only.of_below hb6))
        clear hW hW2 hrel2 hsd hb6 hvh hrh hgb
        go_wp2_with fail
        refine HW2.out.mono ?_
        rintro e w7 ⟨rfl, ho7, hi7⟩
        have HI7 := Lib.hid hi7
        have HO7 := Lib.hid (HO1.out.trans (HO6.out.trans ho7))
        obtain ⟨E, hEq⟩ : ∃ E, (saveD d f gen b).1 = E := ⟨_, rfl⟩
        rw [hEq]
        have HEq := Lib.hid hEq
        clear HW2 ho7 hi7 hEq
        go_wp2_with fail
        go_ret
        exact ⟨rd2, by rw [HEq.out]; rfl, HO7.out, HI7.out, HRel2.out⟩
end Go.Proofs.Ytmlgkahadgpaiaa.Va
namespace Go.Proofs.Ytmlgkahadgpaiaa.Va
open Go.RowKit _root_.Go.Proofs.Ytmlgkahadgpaiaa.Own
open Go.Proofs.Ytmlgkahadgpaiaa.Fr
open Go.Proofs.Ytmlgkahadgpaiaa.Dk (RD RIs rcells rowB rowB_length row_rd D Is Rel wst DOk torn putRow PS)
set_option linter.unusedVariables false
set_option linter.unusedSimpArgs false
/-- What an act saves. -/
def upsA (b : UInt8) (n : Nat) : List UInt8 := (List.range n).map fun k => b + UInt8.ofNat k + UInt8.ofNat (k / 256)
theorem upsA_length (b : UInt8) (n : Nat) : (upsA b n).length = n := by simp [upsA]
theorem upsA_succ (b : UInt8) (n : Nat) : upsA b (n + 1) = upsA b n ++ [b + UInt8.ofNat n + UInt8.ofNat (n / 256)] := by simp [upsA, List.range_succ]
theorem nB_ofNat (k : Nat) : nB (UInt8.ofNat k) = ((k % 256 : Nat) : Int) := by unfold nB; rw [UInt8.toNat_ofNat']
theorem nB_add (x y : UInt8) : nB (x + y) = (nB x + nB y) % 256 := by unfold nB; rw [UInt8.toNat_add]; omega
theorem ua1 (j : Nat) : (j : Int) % 256 = nB (UInt8.ofNat j) := by rw [nB_ofNat]; omega
theorem ua2 (b : UInt8) (j : Nat) : (nB b + nB (UInt8.ofNat j)) % 256 = nB (b + UInt8.ofNat j) := (nB_add _ _).symm
theorem ua3 (b : UInt8) (j : Nat) (hj : j ≤ 33000) (c : UInt8) (hc : b + UInt8.ofNat j + UInt8.ofNat (j / 256) = c) : (nB (b + UInt8.ofNat j) + wrap64 ((j : Int) / 256)) % 256 = nB c ∧ (nB (b + UInt8.ofNat j) + (j : Int) / 256) % 256 = nB c := by
  rw [← hc, nB_add (b + UInt8.ofNat j), nB_ofNat]
  generalize nB (b + UInt8.ofNat j) = z
  have h1 : wrap64 ((j : Int) / 256) = (j : Int) / 256 := by unfold wrap64; omega
  rw [h1]
  omega
structure Ac where
  k : Int
  g : Int
  b : UInt8
  s : Int
  n : Int
  p : Int
  hk : 0 ≤ k ∧ k < 256
  hn : n ≤ 9223372036854775807
def Ac.cells (a : Ac) : List Value := [.int .u8 a.k, .int .i64 a.g, .int .u8 (nB a.b), .int .i64 a.s, .int .i64 a.n, .int .i64 a.p]
def ActsRd (w : World) (A : Option Addr) (l : List Ac) : Prop := ∀ j (h : j < l.length), ∃ a, A = some a ∧ ∀ f v, (l[j].cells)[f]? = some v → w.cell? (a.add (j * 6 + f)) = some v
theorem add_pos (a : Addr) (k : Nat) (hk : 0 < k) : a.add k = ⟨a.block, a.off + k, none⟩ := by unfold Addr.add; rw [if_neg (by omega)]
def lenA (s : Int) : Nat := (min s 33000).toNat
theorem lenA_le (s : Int) : lenA s ≤ 33000 := by unfold lenA; omega
set_option maxRecDepth 10000 in
set_option maxHeartbeats 4000000 in
theorem RBytes_calls (k g : Int) (b : UInt8) (s n p : Int) (w : World) :
    Calls Try.prog 29 #[.agg #[.int .u8 k, .int .i64 g, .int .u8 (nB b), .int .i64 s, .int .i64 n, .int .i64 p]] w fun e w' => ∃ v, e = .returned v ∧ Has w.heap.size 5 v (bys (upsA b (lenA s))) w' ∧ Below w.heap.size w w' := by
  have h0 := (At.refl w).alloc [.int .u8 k, .int .i64 g, .int .u8 (nB b), .int .i64 s, .int .i64 n, .int .i64 p] 65
  have H0 := Lib.hid h0
  obtain ⟨N, hN⟩ : ∃ N, lenA s = N := ⟨_, rfl⟩
  have HN := Lib.hid hN
  rw [hN]
  have hb0 := u8_lo b
  have hb1 := u8_hi b
  clear h0 hN
  go_enter Try.func29, Try.ntmps29
  go_wp2_with fail
  go_loopw [3, 4] (fun v3 v4 wr => ∃ j : Nat, j ≤ N ∧ v4 = .int .i64 j ∧ Hid (Has (w.heap.size + 1) 5 v3 (bys (upsA b j)) wr) ∧ Hid (At w [(w.heap.size, [.int .u8 k, .int .i64 g, .int .u8 (nB b), .int .i64 s, .int .i64 n, .int .i64 p], 65)] wr)) (fun _ v4 _ => N - (intOf v4).toNat)
  case atStart => exact ⟨0, Nat.zero_le _, rfl, Lib.hid (Has.nil _ _ _), H0⟩
  case round =>
    clear H0
    obtain ⟨j, hj, rfl, HV, HA⟩ := hrel
    have hR := (HA.out.rules _ (List.mem_cons_self ..)).1
    have hx3 : wr.cell? ⟨w.heap.size, 3, none⟩ = some (.int .i64 s) := hR 3
    have hx2 : wr.cell? ⟨w.heap.size, 2, none⟩ = some (.int .u8 (nB b)) := hR 2
    clear hR
    have hNl : N ≤ 33000 := by rw [← HN.out]; exact lenA_le s
    by_cases hlt : j < N
    · have hjs : (j : Int) < s ∧ (j : Int) < 33000 := by have h1 := HN.out; unfold lenA at h1; omega
      have d1 : decide ((j : Int) < s) = true := decide_eq_true hjs.1
      have d2 : decide ((j : Int) < 33000) = true := decide_eq_true hjs.2
      have d3 : decide (j < 33000) = true := by rw [decide_eq_true_eq]; omega
      have hbs := (HA.out.rules _ (List.mem_cons_self ..)).2.2.1
      simp only at hbs
      obtain ⟨c, hc⟩ : ∃ c, b + UInt8.ofNat j + UInt8.ofNat (j / 256) = c := ⟨_, rfl⟩
      have HC := Lib.hid (show upsA b (j + 1) = upsA b j ++ [c] from by rw [upsA_succ, hc])
      have hj9 := ua1 j
      have hj7 := ua2 b j
      have HW := Lib.hid (ua3 b j (by omega) c hc)
      have f9 : IntKind.i64.wrap ((j : Int) + 1) = ((j + 1 : Nat) : Int) := by rw [IntKind.wrap_i64]; omega
      have hj3 : j ≤ 33000 := by omega
      clear hc hjs hNl
      go_wp2_with (at_builtin; refine wpList_app rfl _ _ 23 rfl (w.heap.size + 1) 5 (.int .u8 0) 1 Try.underlying23 infoB rfl _ (bys (upsA b j)) rfl ?hOwn _ _ _ [.int .u8 (nB c)] rfl rfl ?hNil ?hRd ?h1 ?hCap ?hCap2 ?hBase ?_)
      case hOwn => exact World.ownsRow.alloc HV.out _
      case hNil => exact fun h => nomatch h
      case hRd => first | rw [HW.out.1] | rw [HW.out.2]
                  exact Rd.mark _ _ _
      case h1 => simp [Value.oneCell']
      case hCap => clear hj9 hj7; rw [bys_length, upsA_length]; simp [maxLen]; omega
      case hCap2 => clear hj9 hj7; rw [bys_length, upsA_length]; simp; omega
      case hBase => clear hj9 hj7; simp; omega
      intro v' w2 hv hg
      rw [show [Value.int .u8 (nB c)] = bys [c] from rfl, ← bys_append, ← HC.out] at hv
      have HV2 := Lib.hid hv
      have HA2 := Lib.hid (At.grown (HA.out.other _) hg (w.heap.size + 1) (fun r hr => (Has.blk HV.out r hr).1) (by omega) (by simp))
      clear hv hg hj9 hj7
      go_wp2_with fail
      go_roundw
      case rel => exact ⟨j + 1, by omega, by simp, HV2, HA2⟩
      case measure => simp [intOf]; omega
    · obtain rfl : j = N := by omega
      have hjs : ¬ ((j : Int) < s ∧ (j : Int) < 33000) := by have h1 := HN.out; unfold lenA at h1; omega
      by_cases h1 : (j : Int) < s
      · have d1 : decide ((j : Int) < s) = true := decide_eq_true h1
        have d2 : decide ((j : Int) < 33000) = false := decide_eq_false (fun h => hjs ⟨h1, h⟩)
        have d3 : decide (j < 33000) = false := by rw [decide_eq_false_iff_not]; omega
        clear hjs h1
        go_wp2_with fail
        go_ret
        exact ⟨_, rfl, Has.base HV.out (by omega), HA.out.below⟩
      · have d1 : decide ((j : Int) < s) = false := decide_eq_false h1
        clear hjs h1
        go_wp2_with fail
        go_ret
        exact ⟨_, rfl, Has.base HV.out (by omega), HA.out.below⟩
theorem RBytes_sl (k g : Int) (b : UInt8) (s n p : Int) (w : World) :
    Calls Try.prog 29 #[.agg #[.int .u8 k, .int .i64 g, .int .u8 (nB b), .int .i64 s, .int .i64 n, .int .i64 p]] w fun e w' => ∃ A c, e = .returned (.slice A (lenA s) c) ∧ lenA s ≤ c ∧ (A = none → c = 0) ∧ Rd w' A (bys (upsA b (lenA s))) ∧ (∀ a, A = some a → w.heap.size ≤ a.block) ∧ Below w.heap.size w w' := by
  refine (RBytes_calls k g b s n p w).mono ?_
  rintro e w' ⟨v, rfl, hv, hb⟩
  obtain ⟨A, c, rfl, hc, hA, hR⟩ := hv.form
  rw [bys_length, upsA_length] at hc ⊢
  exact ⟨A, c, rfl, hc, hA, hR, fun a ha => (hv.blk a.block (by subst ha; rfl)).1, hb⟩
/-- Both disks, and the vault, behind w. -/
structure VP (w : World) (v g r n h q f : Nat) (d : D) (rd : RD) (W : World) : Prop where
  ps : PS w g r n h q d rd W
  vis : VIs v g f W
theorem VP.ne {w : World} {v g r n h q f : Nat} {d : D} {rd : RD} {W : World} (p : VP w v g r n h q f d rd W) : v ∉ [g, r] ∧ v ∉ [h, q] := by
  refine ⟨?_, ?_⟩ <;> intro hm <;> simp at hm <;> rcases hm with rfl | rfl
  · have := p.ps.is.own.symm.trans p.vis; simp at this
  · have := p.ps.is.row.symm.trans p.vis; simp at this
  · have := p.ps.ris.own.symm.trans p.vis; simp at this
  · have := p.ps.ris.row.symm.trans p.vis; simp at this
theorem VP.call {w : World} {v g r n h q f : Nat} {d : D} {rd : RD} {W W' : World} (p : VP w v g r n h q f d rd W) (hb : Below W.heap.size W W') : VP w v g r n h q f d rd W' := ⟨p.ps.call hb, p.vis.below hb⟩
theorem VP.turn {w : World} {v g r n h q f : Nat} {d d' : D} {rd : RD} {W W' : World} (p : VP w v g r n h q f d rd W) (ho : Only [g, r] W W') (hi : Is g r n n [] d' W') : VP w v g r n h q f d' rd W' :=
  ⟨p.ps.turn ho hi, (ho.keep v (blk_lt p.vis) p.ne.1).trans p.vis⟩
theorem VP.rturn {w : World} {v g r n h q f : Nat} {d : D} {rd rd' : RD} {W W' : World} (p : VP w v g r n h q f d rd W) (ho : Only [h, q] W W') (hi : RIs h q n rd' W') : VP w v g r n h q f d rd' W' :=
  ⟨p.ps.rturn ho hi, (ho.keep v (blk_lt p.vis) p.ne.2).trans p.vis⟩
theorem VP.vs {w : World} {v g r n h q f : Nat} {d : D} {rd : RD} {W : World} (p : VP w v g r n h q f d rd W) : VS W v g r n f d W := ⟨Only.refl _ _, p.ps.is, p.vis, blk_lt p.ps.is.own, blk_lt p.ps.is.row, blk_lt p.vis⟩
/-- What is alike behind each call. -/
structure Both (d : D) (rd : RD) (k : Nat) : Prop where
  rel : Rel d rd k
  dok : DOk d k
theorem Both.mono {d : D} {rd : RD} {k k' : Nat} (h : Both d rd k) (hk : k ≤ k') : Both d rd k' := ⟨h.rel.mono hk, h.dok.mono hk⟩
theorem both0 (n : Nat) : Both (Dk.D0 n) (Dk.RD0 n) 0 := ⟨Rel.new n, by simp [Dk.D0], by simp [Dk.D0], by simp [Dk.D0]⟩
theorem Both.power {d : D} {rd : RD} {k : Nat} (h : Both d rd k) : Both { d with off := false, armed := false } { rd with off := false, fuse := -1 } k := ⟨h.rel.power, h.dok.wr, h.dok.lf, h.dok.kp⟩
theorem Both.arm {d : D} {rd : RD} {k : Nat} (h : Both d rd k) (m p : Int) (hm : m ≤ 9223372036854775807) : Both (Dk.armD d m p) (Dk.armR rd m p) k := by
  refine ⟨h.rel.arm m p hm, ?_⟩
  unfold Dk.armD
  split
  · exact h.dok
  · rename_i hh
    exact ⟨h.dok.wr, by simp only; omega, by simp only; omega⟩
/-- One Save on both. -/
theorem save_step {d : D} {rd : RD} {k n f : Nat} (hb : Both d rd k) (hk : k ≤ 400000) (hf : f + 512 ≤ n) (hn : n ≤ 1024) (gen : Int) (b : List UInt8) (hl : b.length ≤ 33000) :
    ∃ (E : Int) (d' : D),
      (∀ (v g r A c) (W : World), VS W v g r n f d W → b.length ≤ c → (A = none → c = 0) → Rd W A (bys b) → (∀ a, A = some a → a.block ≠ g ∧ a.block ≠ r) →
        Calls Try.prog 13 #[.pointer (some ⟨v, 0, none⟩), .int .i64 gen, .slice A b.length c] W fun e w' => e = .returned (.int .i64 E) ∧ Only [g, r] W w' ∧ Is g r n n [] d' w') ∧
      (∀ (h q A c) (W : World), RIs h q n rd W → b.length ≤ c → (A = none → c = 0) → Rd W A (bys b) → (∀ a, A = some a → a.block ≠ h ∧ a.block ≠ q) →
        Calls Try.prog 30 #[.pointer (some ⟨h, 0, none⟩), .int .i64 f, .int .i64 gen, .slice A b.length c] W fun e w' => e = .returned (.int .i64 E) ∧ ∃ rd', Only [h, q] W w' ∧ RIs h q n rd' w' ∧ Both d' rd' (k + 300)) := by
  by_cases c1 : gen < 0 ∨ 2147483647 < gen
  · refine ⟨8, d, ?_, ?_⟩
    · intro v g r A c W p _ _ _ _
      exact (SaveRange_calls p.vis gen c1 _).mono fun e w' ⟨h1, h2⟩ => ⟨h1, h2 ▸ Only.refl _ _, h2 ▸ p.is⟩
    · intro h q A c W hI _ _ _ _
      exact (rsave_range f gen c1 _ W).mono fun e w' ⟨h1, h2⟩ => ⟨h1, rd, h2 ▸ Only.refl _ _, h2 ▸ hI, hb.mono (by omega)⟩
  · obtain ⟨G, rfl⟩ : ∃ G : Nat, gen = G := ⟨gen.toNat, by omega⟩
    have hG : G ≤ 2147483647 := by omega
    by_cases c2 : 32640 < b.length
    · refine ⟨12, d, ?_, ?_⟩
      · intro v g r A c W p _ _ _ _
        exact (SaveFull_calls p.vis G hG A b.length c c2 (by omega)).mono fun e w' ⟨h1, h2⟩ => ⟨h1, h2 ▸ Only.refl _ _, h2 ▸ p.is⟩
      · intro h q A c W hI _ _ _ _
        exact (rsave_full f G hG A b.length c c2 (by omega) W).mono fun e w' ⟨h1, h2⟩ => ⟨h1, rd, h2 ▸ Only.refl _ _, h2 ▸ hI, hb.mono (by omega)⟩
    · have hbl : b.length ≤ 32640 := by omega
      have hbk := blk_le hbl
      refine ⟨(saveD d f G b).1, (saveD d f G b).2, ?_, ?_⟩
      · intro v g r A c W p hc hA hR hne
        refine (Save_calls (VSself p) hb.dok (by omega) hf hn G hG A b.length c b rfl hbl hc hA hR (fun _ => hne)).mono ?_
        rintro e w' ⟨h1, h2⟩
        exact ⟨h1, h2.only, h2.is⟩
      · intro h q A c W hI hc hA hR hne
        refine (RSave_calls hb.rel (by omega) hI hf hn G hG A b.length c b rfl hbl hA hR hne).mono ?_
        rintro e w' ⟨rd', h1, h2, h3, h4⟩
        exact ⟨h1, rd', h2, h3, h4.mono (by omega), (dok_save hb.dok).mono (by omega)⟩
/-- One block turned on both. -/
theorem turn_step {d : D} {rd : RD} {k n : Nat} (hb : Both d rd k) (hk : k ≤ 400000) (hn : n ≤ 1024) (j : Nat) (hj : j < n) (b : List UInt8) (hl : b.length = 128) :
    ∃ (E : Int) (d' : D) (rd' : RD), Both d' rd' (k + 300) ∧
      (∀ (g r c) (a : Addr) (W : World), Is g r n n [] d W → 128 ≤ c → Rd W (some a) (bys b) → a.block ≠ g →
        Calls Try.prog 34 #[.pointer (some ⟨g, 0, none⟩), .int .i64 j, .slice (some a) 128 c] W fun e w' => e = .returned (.int .i64 E) ∧ Only [g, r] W w' ∧ Is g r n n [] d' w') ∧
      (∀ (h q c) (a : Addr) (W : World), RIs h q n rd W → 128 ≤ c → Rd W (some a) (bys b) → (a.block ≠ h ∧ a.block ≠ q) →
        Calls Try.prog 35 #[.pointer (some ⟨h, 0, none⟩), .int .i64 j, .slice (some a) 128 c] W fun e w' => e = .returned (.int .i64 E) ∧ Only [h, q] W w' ∧ RIs h q n rd' w') := by
  obtain ⟨rd', h1, h2⟩ := rwrite_step hb.rel (by omega) j hj hn b hl
  refine ⟨(wst d j b).1, (wst d j b).2, rd', ⟨h1.mono (by omega), (hb.dok.wst j b).mono (by omega)⟩, ?_, ?_⟩
  · intro g r c a W hI hc hR hne
    exact Dk.Write_fun hI hb.dok (by omega) j hj (Nat.le_refl n) a c b hl hc hR hne
  · intro h q c a W hI hc hR hne
    exact h2 h q a c W hI hc hR hne
end Go.Proofs.Ytmlgkahadgpaiaa.Va
