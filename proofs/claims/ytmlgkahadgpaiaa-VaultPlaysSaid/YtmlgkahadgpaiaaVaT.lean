/- Chapter 10: the walk of VaultPlays. -/
import Derived.Test.YtmlgkahadgpaiaaVaR
import Derived.Test.YtmlgkahadgpaiaaDkT
import Derived.Deep.DeepCutAuto
import Derived.Deep.CutBlock
import Derived.ProofKit
import Derived.SizedLaws
import Derived.Lib.SmallJoins
import Derived.Deep.SlicePairs
namespace Go.Proofs.Ytmlgkahadgpaiaa.Va
open Go.RowKit _root_.Go.Proofs.Ytmlgkahadgpaiaa.Own
open Go.Proofs.Ytmlgkahadgpaiaa.Fr
open Go.Proofs.Ytmlgkahadgpaiaa.Dk (RD RIs rcells rcells_is rowB rowB_length row_rd D Is Rel wst DOk torn putRow PS D0 RD0 armE armD armR)
set_option linter.unusedVariables false
set_option linter.unusedSimpArgs false
def xorB (x y : UInt8) : UInt8 := ⟨x.toBitVec ^^^ y.toBitVec⟩
theorem b8_xor (x y : UInt8) : bits .xor .u8 (nB x) (nB y) = nB (xorB x y) := by
  unfold nB
  rw [u8_xor_nat _ _ x.toNat_lt y.toNat_lt]
  show ((x.toBitVec.toNat ^^^ y.toBitVec.toNat : Nat) : Int) = ((x.toBitVec ^^^ y.toBitVec).toNat : Nat)
  rw [BitVec.toNat_xor]
set_option maxRecDepth 10000 in
set_option maxHeartbeats 4000000 in
theorem plays_bad (m : Int) (hm : m < 0 ∨ m > 4) (A : Option Addr) (N c : Nat) (w : World) : Calls Try.prog 8 #[.int .i64 m, .slice A N c] w fun e w' => e = .returned (.bool true) ∧ Below w.heap.size w w' := by
  by_cases h1 : m < 0
  all_goals
    first | have m1 : decide (m < 0) = true := decide_eq_true h1 | have m1 : decide (m < 0) = false := decide_eq_false h1
    try have m2 : decide (m > 4) = true := by rw [decide_eq_true_eq]; omega
    go_enter Try.func8, Try.ntmps8
    go_wp2_with fail
    refine (Dk.New_calls 516 (by decide) (by decide) w).mono ?_
    rintro e w1 ⟨g, r, rfl, hg, hr, hI, hb⟩
    have HI := Lib.hid hI
    have HB := Lib.hid hb
    clear hI hb
    go_wp2_with fail
    refine (NewRange_calls HI.out m (by decide) (by omega)).mono ?_
    rintro e w2 ⟨rfl, hb2⟩
    have HB2 := Lib.hid (HB.out.trans (hb2.mono HB.out.size))
    clear hb2 HB HI
    go_wp2_with fail
    refine (alive10 w2).mono ?_
    rintro e w3 ⟨rfl, hb3⟩
    have HB3 := Lib.hid (HB2.out.trans (hb3.mono HB2.out.size))
    clear hb3 HB2
    go_wp2_with fail
    go_ret
    exact ⟨rfl, HB3.out⟩
set_option maxRecDepth 10000 in
set_option maxHeartbeats 4000000 in
theorem plays_long (f : Nat) (hf : f ≤ 4) (A : Option Addr) (N c : Nat) (hN : N > 12) (hm : N ≤ maxLen) (w : World) : Calls Try.prog 8 #[.int .i64 f, .slice A N c] w fun e w' => e = .returned (.bool true) ∧ Below w.heap.size w w' := by
  unfold maxLen at hm
  have m1 : decide ((f : Int) < 0) = false := by rw [decide_eq_false_iff_not]; omega
  have m2 : decide ((f : Int) > 4) = false := by rw [decide_eq_false_iff_not]; omega
  have m3 : decide ((N : Int) > 12) = true := by rw [decide_eq_true_eq]; omega
  have m4 : decide (4 < f) = false := by rw [decide_eq_false_iff_not]; omega
  have m5 : decide (12 < N) = true := by rw [decide_eq_true_eq]; omega
  clear hm hN
  go_enter Try.func8, Try.ntmps8
  go_wp2_with fail
  refine (Dk.New_calls 516 (by decide) (by decide) w).mono ?_
  rintro e w1 ⟨g, r, rfl, hg, hr, hI, hb⟩
  have HI := Lib.hid hI
  have HB := Lib.hid hb
  clear hI hb
  go_wp2_with fail
  refine (New_calls HI.out f (by omega) (by decide)).mono ?_
  rintro e w2 ⟨v, rfl, -, -, hb2⟩
  have HB2 := Lib.hid (HB.out.trans (hb2.mono HB.out.size))
  clear hb2 HB HI
  go_wp2_with fail
  refine (alive10 w2).mono ?_
  rintro e w3 ⟨rfl, hb3⟩
  have HB3 := Lib.hid (HB2.out.trans (hb3.mono HB2.out.size))
  clear hb3 HB2
  go_wp2_with fail
  go_ret
  exact ⟨rfl, HB3.out⟩
/-- One Load on both. -/
theorem both_loads {d : D} {rd : RD} {k n f : Nat} (hb : Both d rd k) (hf : f + 512 ≤ n) (hn : n ≤ 1024) : ∃ (G : Int) (xs : List UInt8) (E : Int),
    (∀ (v g r) (W : World), VS W v g r n f d W → Calls Try.prog 17 #[.pointer (some ⟨v, 0, none⟩)] W fun e w' => (∃ A c, e = .returned (.tuple #[.int .i64 G, .slice A xs.length c, .int .i64 E]) ∧ (A = none → c = 0) ∧ Rd w' A (bys xs)) ∧ Below W.heap.size W w') ∧
    (∀ (h q) (W : World), RIs h q n rd W → Calls Try.prog 36 #[.pointer (some ⟨h, 0, none⟩), .int .i64 f] W fun e w' => (∃ A c, e = .returned (.tuple #[.int .i64 G, .slice A xs.length c, .int .i64 E]) ∧ (A = none → c = 0) ∧ Rd w' A (bys xs)) ∧ Below W.heap.size W w') := by
  have hoff := hb.rel.off
  have hall := hb.rel.all
  cases c2 : d.off with
  | true =>
    refine ⟨0, [], 19, ?_, ?_⟩
    · intro v g r W p
      exact (LoadOff_calls p c2).mono fun e w' ⟨h1, h2⟩ => ⟨⟨none, 0, h1, fun _ => rfl, Rd.nil _ _⟩, h2⟩
    · intro h q W hI
      exact (RLoadOff_calls hI (hoff.trans c2) f).mono fun e w' ⟨h1, h2⟩ => ⟨⟨none, 0, h1, fun _ => rfl, Rd.nil _ _⟩, h2⟩
  | false =>
    cases ho : loadD d.all f with
    | none =>
      refine ⟨0, [], 6, ?_, ?_⟩
      · intro v g r W p
        have h := LoadOn_calls p c2 hf hn
        rw [ho] at h
        exact h.mono fun e w' ⟨h1, h2⟩ => ⟨⟨none, 0, h1.2 rfl, fun _ => rfl, Rd.nil _ _⟩, h2⟩
      · intro h q W hI
        have h := RLoadOn_calls hI hn (hoff.trans c2) f hf
        rw [hall, ho] at h
        exact h.mono fun e w' ⟨h1, h2⟩ => ⟨⟨none, 0, h1.2 rfl, fun _ => rfl, Rd.nil _ _⟩, h2⟩
    | some gb =>
      obtain ⟨G, b⟩ := gb
      refine ⟨G, b, 0, ?_, ?_⟩
      · intro v g r W p
        have h := LoadOn_calls p c2 hf hn
        rw [ho] at h
        refine h.mono fun e w' ⟨h1, h2⟩ => ?_
        obtain ⟨A, c, he, -, h4, h5, -⟩ := h1.1 G b rfl
        exact ⟨⟨A, c, he, h4, h5⟩, h2⟩
      · intro h q W hI
        have h := RLoadOn_calls hI hn (hoff.trans c2) f hf
        rw [hall, ho] at h
        refine h.mono fun e w' ⟨h1, h2⟩ => ?_
        obtain ⟨A, c, he, -, h4, h5, -⟩ := h1.1 G b rfl
        exact ⟨⟨A, c, he, h4, h5⟩, h2⟩
theorem add_zero' (g k : Nat) : (⟨g, 0, none⟩ : Addr).add k = ⟨g, k, none⟩ := by unfold Addr.add; split <;> simp_all
/-- An act's cells, in whatever world behind the caller's. -/
theorem acts_at {w : World} {A : Option Addr} {l : List Ac} (hR : ActsRd w A l) (j : Nat) (hj : j < l.length) : ∃ ad, A = some ad ∧ ∀ W, Below w.heap.size w W →
    W.cell? (ad.add (j * 6)) = some (.int .u8 l[j].k) ∧ W.cell? ⟨(ad.add (j * 6)).block, (ad.add (j * 6)).off + 1, none⟩ = some (.int .i64 l[j].g) ∧ W.cell? ⟨(ad.add (j * 6)).block, (ad.add (j * 6)).off + 2, none⟩ = some (.int .u8 (nB l[j].b)) ∧
    W.cell? ⟨(ad.add (j * 6)).block, (ad.add (j * 6)).off + 3, none⟩ = some (.int .i64 l[j].s) ∧ W.cell? ⟨(ad.add (j * 6)).block, (ad.add (j * 6)).off + 4, none⟩ = some (.int .i64 l[j].n) ∧ W.cell? ⟨(ad.add (j * 6)).block, (ad.add (j * 6)).off + 5, none⟩ = some (.int .i64 l[j].p) := by
  obtain ⟨ad, rfl, hc⟩ := hR j hj
  refine ⟨ad, rfl, fun W hb => ?_⟩
  have k : ∀ f v, (l[j].cells)[f]? = some v → W.cell? (ad.add (j * 6 + f)) = some v := fun f v hv => (hb.cell (World.block_lt_of_cell? w _ (hc f v hv))).trans (hc f v hv)
  have x0 := k 0 _ rfl
  have x1 := k 1 _ rfl
  have x2 := k 2 _ rfl
  have x3 := k 3 _ rfl
  have x4 := k 4 _ rfl
  have x5 := k 5 _ rfl
  rw [← add_add', add_pos _ 1 (by decide)] at x1
  rw [← add_add', add_pos _ 2 (by decide)] at x2
  rw [← add_add', add_pos _ 3 (by decide)] at x3
  rw [← add_add', add_pos _ 4 (by decide)] at x4
  rw [← add_add', add_pos _ 5 (by decide)] at x5
  exact ⟨x0, x1, x2, x3, x4, x5⟩
set_option maxRecDepth 10000 in
set_option maxHeartbeats 8000000 in
theorem plays_walk (f : Nat) (hf : f ≤ 4) (A : Option Addr) (c : Nat) (l : List Ac) (hl : l.length ≤ 12) (w : World) (hR : ActsRd w A l) : Calls Try.prog 8 #[.int .i64 f, .slice A l.length c] w fun e w' => e = .returned (.bool true) ∧ Below w.heap.size w w' := by
  have m1 : decide ((f : Int) < 0) = false := by rw [decide_eq_false_iff_not]; omega
  have m2 : decide ((f : Int) > 4) = false := by rw [decide_eq_false_iff_not]; omega
  have m3 : decide ((l.length : Int) > 12) = false := by rw [decide_eq_false_iff_not]; omega
  have m4 : decide (4 < f) = false := by rw [decide_eq_false_iff_not]; omega
  have m5 : decide (12 < l.length) = false := by rw [decide_eq_false_iff_not]; omega
  have HR := Lib.hid hR
  clear hR
  obtain ⟨n, hn⟩ : ∃ n, 516 = n := ⟨_, rfl⟩
  have HNew : Hid (Calls Try.prog 11 #[.int .i64 516] w fun e w' => ∃ g r, e = .returned (.tuple #[.pointer (some ⟨g, 0, none⟩), .int .i64 0]) ∧ w.heap.size ≤ g ∧ w.heap.size ≤ r ∧ Is g r n n [] (D0 n) w' ∧ Below w.heap.size w w') := Lib.hid (by rw [← hn]; exact Dk.New_calls 516 (by decide) (by decide) w)
  have HRNew : Hid (∀ w : World, Calls Try.prog 28 #[.int .i64 516] w fun e w' => ∃ q, e = .returned (.agg ⟨rcells q (n * 128) (RD0 n)⟩) ∧ w.heap.size ≤ q ∧ w'.heap[q]? = some (.cells ⟨bys (RD0 n).all⟩ 5 (0, 0)) ∧ Below w.heap.size w w') := Lib.hid (fun w => by rw [← hn]; exact Dk.RNew_calls 516 (by decide) w)
  have hn1 : f + 512 ≤ n := by omega
  have hn2 : n ≤ 1024 := by omega
  clear hn
  go_enter Try.func8, Try.ntmps8
  go_wp2_with fail
  refine HNew.out.mono ?_
  rintro e w1 ⟨g, r, rfl, hg, hr, hI, hb⟩
  have HI := Lib.hid hI
  have HB := Lib.hid hb
  clear hI hb HNew
  go_wp2_with fail
  refine (New_calls HI.out f hn1 hn2).mono ?_
  rintro e w2 ⟨v, rfl, hv, hvg, hb2⟩
  have HV := Lib.hid hv
  have HB2 := Lib.hid (HB.out.trans (hb2.mono HB.out.size))
  have HI2 := Lib.hid (HI.out.below hb2)
  clear hv hb2 HI HB
  go_wp2_with fail
  refine (HRNew.out w2).mono ?_
  rintro e w3 ⟨q, rfl, hq, hqr, hb3⟩
  have HI3 := Lib.hid (HI2.out.below hb3)
  have HV3 := Lib.hid (HV.out.below hb3)
  have HB3 := Lib.hid (HB2.out.trans (hb3.mono HB2.out.size))
  have HQ := Lib.hid hqr
  have hqw : w.heap.size ≤ q := Nat.le_trans HB2.out.size hq
  have hp : VP w v g r n w3.heap.size q f (D0 n) (RD0 n) (w3.alloc (.cells ⟨rcells q (n * 128) (RD0 n)⟩ 62 (0, 0))) :=
    ⟨⟨HB3.out.alloc HB3.out.size _, HI3.out.below ((Below.refl _ _).alloc (Nat.le_refl _) _), ⟨heap_alloc_new w3 _, (Below.heap_alloc w3 _ q (blk_lt hqr)).trans hqr, by simp [RD0]⟩, hg, hr, HB3.out.size, hqw⟩, HV3.out.below ((Below.refl _ _).alloc (Nat.le_refl _) _)⟩
  have HP0 := Lib.hid hp
  clear hp hqr hb3 HRNew HV HI2 HB2 hvg hq
  rw [rcells_is]
  go_wp2_with fail
  obtain ⟨h, hh⟩ : ∃ h, w3.heap.size = h := ⟨_, rfl⟩
  rw [hh] at HP0 ⊢
  clear hh
  go_loopw [10] (fun v10 wr => ∃ (j : Nat) (d : D) (rd : RD), j ≤ l.length ∧ v10 = .int .i64 j ∧ Hid (Both d rd (j * 300)) ∧ Hid (VP w v g r n h q f d rd wr)) (fun v10 _ => l.length - (intOf v10).toNat)
  case atStart => exact ⟨0, D0 n, RD0 n, Nat.zero_le _, rfl, Lib.hid (by rw [Nat.zero_mul]; exact both0 n), HP0⟩
  case round =>
    clear HP0 HI3 HV3 HB3 HQ
    obtain ⟨j, d, rd, hj, rfl, HL, HP⟩ := hrel
    by_cases hlt : j < l.length
    · have hd : decide ((j : Int) < (l.length : Int)) = true := by rw [decide_eq_true_eq]; omega
      obtain ⟨ad, rfl, hcell⟩ := acts_at HR.out j hlt
      obtain ⟨⟨ak, ag, ab, az, ai, ap, hk, hi⟩, hx⟩ : ∃ x, l[j] = x := ⟨_, rfl⟩
      rw [hx] at hcell
      simp only at hcell
      have HX := Lib.hid hcell
      obtain ⟨x0, x1, x2, x3, x4, x5⟩ := hcell wr HP.out.ps.below
      clear hcell hx m1 m2 m3 m4 m5
      have hm : ak.tmod 4 = 0 ∨ ak.tmod 4 = 1 ∨ ak.tmod 4 = 2 ∨ ak.tmod 4 = 3 := by
        rw [Int.tmod_eq_emod_of_nonneg hk.1]; omega
      obtain ⟨z, hz⟩ : ∃ z, ak.tmod 4 = z := ⟨_, rfl⟩
      rw [hz] at hm
      have HM := Lib.hid hm
      have HK := Lib.hid hk
      have HII := Lib.hid hi
      have hb3600 : j * 300 ≤ 400000 := by omega
      clear hm hk hi
      go_upto_block 2 with fail
      go_cut [11, 12, 13, 14] (fun ok _ _ _ wx => ok = .bool true ∧ Hid (∃ d' rd', Both d' rd' ((j + 1) * 300) ∧ VP w v g r n h q f d' rd' wx))
      case first =>
        rcases HM.out with rfl | rfl | rfl | rfl
        · -- Save
          as_aux_lemma =>
            go_wp2_with fail
            refine (RBytes_sl ak ag ab az ai ap wr).mono ?_
            rintro e w4 ⟨A4, c4, rfl, hc4, hA4, hR4, hn4, hb4⟩
            have HP4 := Lib.hid (HP.out.call hb4)
            have hne4 : (∀ a, A4 = some a → a.block ∉ [g, r]) ∧ (∀ a, A4 = some a → a.block ∉ [h, q]) := by
              have q1 := blk_lt HP.out.ps.is.own
              have q2 := blk_lt HP.out.ps.is.row
              have q3 := blk_lt HP.out.ps.ris.own
              have q4 := blk_lt HP.out.ps.ris.row
              refine ⟨?_, ?_⟩ <;> intro a ha hm <;> have := hn4 a ha <;> simp at hm <;> omega
            have HNE := Lib.hid hne4
            have HR4 := Lib.hid hR4
            have HC4 := Lib.hid (And.intro hc4 hA4)
            obtain ⟨X, hX⟩ : ∃ X, upsA ab (lenA az) = X := ⟨_, rfl⟩
            have hXl : lenA az = X.length := by rw [← hX, upsA_length]
            have hXm : X.length ≤ 33000 := by rw [← hXl]; exact lenA_le az
            rw [hX] at HR4
            rw [hXl] at HC4 ⊢
            obtain ⟨E, d', hS, hRS⟩ := save_step HL.out hb3600 hn1 hn2 ag X hXm
            have HS := Lib.hid hS
            have HRS := Lib.hid hRS
            clear hS hRS hX hXl hXm hc4 hA4 hR4 hn4 hb4 hne4 x0 x1 x2 x3 x4 x5
            obtain ⟨J, hJ⟩ : ∃ J : World → Prop, ∀ W, J W ↔ Below w.heap.size w W := ⟨_, fun _ => Iff.rfl⟩
            have K := fun W h => HX.out W ((hJ W).1 h)
            have HJ := Lib.hid hJ
            clear hJ
            have hj1 := (HJ.out w4.drew).2 HP4.out.ps.below.drew
            go_wp2_with fail
            refine Turn.region_seq [0, 1, 2, 3, 4, 5, 6, 8, 9, 10, 11, 12, 13, 14, 7, 15, 16, 17] (fun i => i == 7 || i == 15) J (by kernel_rfl) (by kernel_rfl) hj1 ?_
            have HP5 := Lib.hid (HP4.out.call ((Below.refl _ _).drew))
            have HR5 := Lib.hid (HR4.out.below ((Below.refl _ _).drew))
            clear hj1
            repeat (first | (apply Turn.seq_yes; (· simp only [List.getElem?_toArray, List.getElem?_cons_succ, List.getElem?_cons_zero]; rfl); (· rfl); (· go_simp); (· intro w1 h1; obtain ⟨z0, z1, z2, z3, z4, z5⟩ := K w1 h1; go_simp; exact ⟨rfl, h1⟩); (· go_simp; rfl)) | (apply Turn.seq_no; (· simp only [List.getElem?_toArray, List.getElem?_cons_succ, List.getElem?_cons_zero]; rfl); (· go_simp); (· go_simp; rfl)))
            apply Turn.seq_call
            · simp only [List.getElem?_toArray, List.getElem?_cons_succ, List.getElem?_cons_zero]; rfl
            · rfl
            · go_simp
            · intro v; go_simp; rfl
            go_simp
            refine (HS.out v g r A4 c4 _ HP5.out.vs HC4.out.1 HC4.out.2 HR5.out (fun a ha => by have := HNE.out.1 a ha; simp at this; exact this)).mono ?_
            rintro e w6 ⟨rfl, ho6, hi6⟩
            have HP6 := Lib.hid (HP5.out.turn ho6 hi6)
            have HR6 := Lib.hid (rd_keep HR5.out ho6 HNE.out.1)
            have hj6 := (HJ.out _).2 HP6.out.ps.below
            clear ho6 hi6 HP5
            refine ⟨_, rfl, hj6, ?_⟩
            repeat (first | (apply Turn.seq_yes; (· simp only [List.getElem?_toArray, List.getElem?_cons_succ, List.getElem?_cons_zero]; rfl); (· rfl); (· go_simp); (· intro w1 h1; obtain ⟨z0, z1, z2, z3, z4, z5⟩ := K w1 h1; go_simp; exact ⟨rfl, h1⟩); (· go_simp; rfl)) | (apply Turn.seq_no; (· simp only [List.getElem?_toArray, List.getElem?_cons_succ, List.getElem?_cons_zero]; rfl); (· go_simp); (· go_simp; rfl)))
            apply Turn.seq_call
            · simp only [List.getElem?_toArray, List.getElem?_cons_succ, List.getElem?_cons_zero]; rfl
            · rfl
            · go_simp
            · intro v; go_simp; rfl
            go_simp
            refine (HRS.out h q A4 c4 _ HP6.out.ps.ris HC4.out.1 HC4.out.2 HR6.out (fun a ha => by have := HNE.out.2 a ha; simp at this; exact this)).mono ?_
            rintro e w7 ⟨rfl, rd', ho7, hi7, hb7⟩
            have HP7 := Lib.hid (HP6.out.rturn ho7 hi7)
            have hj7 := (HJ.out _).2 HP7.out.ps.below
            have HB7 := Lib.hid hb7
            clear ho7 hi7 hb7 HP6
            refine ⟨_, rfl, hj7, ?_⟩
            repeat (first | (apply Turn.seq_yes; (· simp only [List.getElem?_toArray, List.getElem?_cons_succ, List.getElem?_cons_zero]; rfl); (· rfl); (· go_simp); (· intro w1 h1; obtain ⟨z0, z1, z2, z3, z4, z5⟩ := K w1 h1; go_simp; exact ⟨rfl, h1⟩); (· go_simp; rfl)) | (apply Turn.seq_no; (· simp only [List.getElem?_toArray, List.getElem?_cons_succ, List.getElem?_cons_zero]; rfl); (· go_simp); (· go_simp; rfl)))
            apply Turn.seq_nil
            clear K HJ hj7 hj6
            go_wp2_with fail
            go_meet
            exact ⟨rfl, Lib.hid ⟨d', rd', HB7.out.mono (by omega), HP7.out⟩⟩
        · -- Arm
          as_aux_lemma =>
            obtain ⟨J, hJ⟩ : ∃ J : World → Prop, ∀ W, J W ↔ Below w.heap.size w W := ⟨_, fun _ => Iff.rfl⟩
            have K := fun W h => HX.out W ((hJ W).1 h)
            have HJ := Lib.hid hJ
            clear hJ
            have hj1 := (HJ.out wr.drew).2 HP.out.ps.below.drew
            clear x1 x2 x3 x4 x5
            go_wp2_with fail
            refine Turn.region_seq [0, 1, 2, 3, 4, 5, 6, 7, 8, 9, 10, 12, 13, 14, 15, 16, 17, 18, 19, 20, 21, 11, 22, 23, 24] (fun i => i == 11 || i == 22) J (by kernel_rfl) (by kernel_rfl) hj1 ?_
            have HP2 := Lib.hid (HP.out.call ((Below.refl _ _).drew))
            clear hj1 x0
            repeat (first | (apply Turn.seq_yes; (· simp only [List.getElem?_toArray, List.getElem?_cons_succ, List.getElem?_cons_zero]; rfl); (· rfl); (· go_simp); (· intro w1 h1; obtain ⟨z0, z1, z2, z3, z4, z5⟩ := K w1 h1; go_simp; exact ⟨rfl, h1⟩); (· go_simp; rfl)) | (apply Turn.seq_no; (· simp only [List.getElem?_toArray, List.getElem?_cons_succ, List.getElem?_cons_zero]; rfl); (· go_simp); (· go_simp; rfl)))
            apply Turn.seq_call
            · simp only [List.getElem?_toArray, List.getElem?_cons_succ, List.getElem?_cons_zero]; rfl
            · rfl
            · go_simp
            · intro v; go_simp; rfl
            go_simp
            refine (Dk.Arm_calls HP2.out.ps.is ai ap).mono ?_
            rintro e w3 ⟨rfl, ho3, hi3⟩
            have HP3 := Lib.hid (HP2.out.turn (ho3.mono (by simp)) hi3)
            have hj3 := (HJ.out _).2 HP3.out.ps.below
            clear ho3 hi3
            refine ⟨_, rfl, hj3, ?_⟩
            repeat (first | (apply Turn.seq_yes; (· simp only [List.getElem?_toArray, List.getElem?_cons_succ, List.getElem?_cons_zero]; rfl); (· rfl); (· go_simp); (· intro w1 h1; obtain ⟨z0, z1, z2, z3, z4, z5⟩ := K w1 h1; go_simp; exact ⟨rfl, h1⟩); (· go_simp; rfl)) | (apply Turn.seq_no; (· simp only [List.getElem?_toArray, List.getElem?_cons_succ, List.getElem?_cons_zero]; rfl); (· go_simp); (· go_simp; rfl)))
            apply Turn.seq_call
            · simp only [List.getElem?_toArray, List.getElem?_cons_succ, List.getElem?_cons_zero]; rfl
            · rfl
            · go_simp
            · intro v; go_simp; rfl
            go_simp
            refine (Dk.RArm_calls HP3.out.ps.ris ai ap).mono ?_
            rintro e w4 ⟨rfl, ho4, hi4⟩
            have HP4 := Lib.hid (HP3.out.rturn (ho4.mono (by simp)) hi4)
            have hj4 := (HJ.out _).2 HP4.out.ps.below
            clear ho4 hi4
            refine ⟨_, rfl, hj4, ?_⟩
            repeat (first | (apply Turn.seq_yes; (· simp only [List.getElem?_toArray, List.getElem?_cons_succ, List.getElem?_cons_zero]; rfl); (· rfl); (· go_simp); (· intro w1 h1; obtain ⟨z0, z1, z2, z3, z4, z5⟩ := K w1 h1; go_simp; exact ⟨rfl, h1⟩); (· go_simp; rfl)) | (apply Turn.seq_no; (· simp only [List.getElem?_toArray, List.getElem?_cons_succ, List.getElem?_cons_zero]; rfl); (· go_simp); (· go_simp; rfl)))
            apply Turn.seq_nil
            clear K HJ hj4 hj3
            go_wp2_with fail
            go_meet
            exact ⟨rfl, Lib.hid ⟨_, _, (HL.out.arm ai ap HII.out).mono (by omega), HP4.out⟩⟩
        · -- Power
          as_aux_lemma =>
            go_wp2_with fail
            refine (Dk.Power_calls HP.out.ps.is).mono ?_
            rintro e w3 ⟨rfl, ho3, hi3⟩
            have HP3 := Lib.hid (HP.out.turn (ho3.mono (by simp)) hi3)
            clear ho3 hi3 x0 x1 x2 x3 x4 x5
            go_wp2_with fail
            refine (Dk.RPower_calls HP3.out.ps.ris).mono ?_
            rintro e w4 ⟨rfl, ho4, hi4⟩
            have HP4 := Lib.hid (HP3.out.rturn (ho4.mono (by simp)) hi4)
            clear ho4 hi4
            go_wp2_with fail
            go_meet
            exact ⟨rfl, Lib.hid ⟨_, _, (HL.out.power).mono (by omega), HP4.out⟩⟩
        · -- a block turned
          as_aux_lemma =>
            have ho := HL.out.rel.off
            go_wp2_with fail
            by_cases c1 : 0 ≤ ai ∧ ai < n
            · cases c2 : rd.off with
              | true =>
                refine (Dk.RReadBad_calls HP.out.ps.ris hn2 ai 19 (.inr ⟨c1, c2, rfl⟩)).mono ?_
                rintro e w3 ⟨rfl, hb3⟩
                have HP3 := Lib.hid (HP.out.call hb3)
                clear hb3 x0 x1 x2 x3 x4 x5
                go_wp2_with fail
                go_meet
                exact ⟨rfl, Lib.hid ⟨d, rd, HL.out.mono (by omega), HP3.out⟩⟩
              | false =>
                obtain ⟨i, rfl⟩ : ∃ i : Nat, ai = i := ⟨ai.toNat, by omega⟩
                have hin : i < n := by omega
                refine (Dk.RReadOk_calls HP.out.ps.ris hn2 i hin c2).mono ?_
                rintro e w3 ⟨v3, rfl, hv3, hb3⟩
                have HP3 := Lib.hid (HP.out.call hb3)
                obtain ⟨y0, y1, y2, y3, y4, y5⟩ := HX.out w3 HP3.out.ps.below
                obtain ⟨X, hX⟩ : ∃ X, rowB rd.all i = X := ⟨_, rfl⟩
                have hXl : X.length = 128 := by rw [← hX]; exact rowB_length _ _ _ HP.out.ps.ris.len hin
                rw [hX] at hv3
                obtain ⟨gx, cx, rfl, hcx, hcm, hgb, hgl, hrx⟩ := Fr.Has.row hv3 127 hXl
                have hv4 : Has wr.heap.size 5 (.slice (some ⟨gx, 0, none⟩) (bys X).length cx) (bys X) w3 := by rw [bys_length, hXl]; exact hv3
                have HV3 := Lib.hid hv4
                have HRX := Lib.hid hrx
                have HXl := Lib.hid hXl
                have HB3 := Lib.hid hb3
                clear hb3 hX hXl hv3 hv4 hrx x0 x1 x2 x3 x4 x5
                by_cases c3 : 0 ≤ ap
                · have d1 : decide (ap ≥ 0) = true := decide_eq_true c3
                  by_cases c4 : ap < 128
                  · have d2 : decide (ap < 128) = true := decide_eq_true c4
                    obtain ⟨kp, rfl⟩ : ∃ kp : Nat, ap = kp := ⟨ap.toNat, by omega⟩
                    have hkp : kp < 128 := by omega
                    obtain ⟨cb, hcb⟩ : ∃ cb, X[kp]'(by rw [HXl.out]; exact hkp) = cb := ⟨_, rfl⟩
                    have hcl : w3.cell? ⟨gx, kp, none⟩ = some (.int .u8 (nB cb)) := by
                      obtain ⟨a', ha', hc'⟩ := HRX.out.byte (k := kp) (by rw [HXl.out]; exact hkp)
                      cases ha'
                      rw [add_zero' gx kp, hcb] at hc'
                      exact hc'
                    have hfz : w3.frozen? ⟨gx, kp, none⟩ = false := World.ownsRow.frozenAt HV3.out kp
                    have hxx := b8_xor cb ab
                    have d4 : kp < 128 := hkp
                    have d5 : (kp : Int) < 128 := by omega
                    have hst := World.ownsRow.stored (HV3.out.below (Below.refl _ _).drew) kp (.int .u8 (nB (xorB cb ab)))
                    have HST := Lib.hid hst
                    have HXX := Lib.hid hxx
                    clear hcb hst hxx hkp c3 c4
                    go_wp2_with fail
                    have hxx := HXX.out
                    refine still_tail 21 (by kernel_rfl) (by kernel_rfl) ?_
                    simp only [List.take_succ_cons, List.take_zero, List.drop_succ_cons, List.drop_zero]
                    repeat still_step
                    refine wpStill_nil ?_
                    have hset : (bys X).set kp (.int .u8 (nB (xorB cb ab))) = bys (X.set kp (xorB cb ab)) := by unfold bys; rw [List.map_set]
                    have hst := HST.out.1
                    rw [hset] at hst
                    have hXn : (X.set kp (xorB cb ab)).length = 128 := by rw [List.length_set]; exact HXl.out
                    have hv6 : Has wr.heap.size 5 (.slice (some ⟨gx, 0, none⟩) (bys (X.set kp (xorB cb ab))).length cx) (bys (X.set kp (xorB cb ab))) (w3.drew.setCell ⟨gx, kp, none⟩ (.int .u8 (nB (xorB cb ab)))) := by
                      rw [bys_length, HXl.out] at hst
                      unfold Has
                      rw [bys_length, hXn]
                      exact hst
                    obtain ⟨A6, c6, he6, hc6, -, hr6⟩ := hv6.form
                    injection he6 with e1 e2 e3
                    subst e1
                    clear e2 e3 hc6
                    have HP6 := Lib.hid (HP.out.call (HB3.out.drew.setCell (p := ⟨gx, kp, none⟩) hgb (.int .u8 (nB (xorB cb ab)))))
                    have HR6 := Lib.hid hr6
                    have hne6 : gx ∉ [g, r] ∧ gx ∉ [h, q] := by
                      have q1 := blk_lt HP.out.ps.is.own
                      have q2 := blk_lt HP.out.ps.is.row
                      have q3 := blk_lt HP.out.ps.ris.own
                      have q4 := blk_lt HP.out.ps.ris.row
                      refine ⟨?_, ?_⟩ <;> intro hm <;> simp at hm <;> omega
                    have HNE := Lib.hid hne6
                    obtain ⟨Y, hY⟩ : ∃ Y, X.set kp (xorB cb ab) = Y := ⟨_, rfl⟩
                    rw [hY] at HR6 hXn
                    obtain ⟨E, d', rd', hboth, hW, hRW⟩ := turn_step HL.out hb3600 hn2 i hin Y hXn
                    have HBt := Lib.hid hboth
                    have HW := Lib.hid hW
                    have HRW := Lib.hid hRW
                    clear hset hst hv6 hr6 hne6 hY hXn hboth hW hRW HST HXX HV3 HRX
                    rw [show w3.drew.setCell ⟨gx, kp, none⟩ (.int .u8 (nB (xorB cb ab))) = (w3.setCell ⟨gx, kp, none⟩ (.int .u8 (nB (xorB cb ab)))).drew from rfl] at HP6 HR6
                    go_wp2_with fail
                    generalize (w3.setCell ⟨gx, kp, none⟩ (.int .u8 (nB (xorB cb ab)))).drew = w6 at *
                    obtain ⟨J, hJ⟩ : ∃ J : World → Prop, ∀ W, J W ↔ Below w.heap.size w W := ⟨_, fun _ => Iff.rfl⟩
                    have K := fun W h => HX.out W ((hJ W).1 h)
                    have HJ := Lib.hid hJ
                    clear hJ y0 y1 y2 y3 y4 y5
                    try clear hcl
                    try clear hfz
                    try clear hxx
                    have hj1 := (HJ.out w6.drew).2 HP6.out.ps.below.drew
                    refine Turn.region_seq [0, 1, 2, 3, 4, 5, 6, 8, 9, 10, 11, 12, 13, 7, 14, 15, 16] (fun i => i == 7 || i == 14) J (by kernel_rfl) (by kernel_rfl) hj1 ?_
                    have HP7 := Lib.hid (HP6.out.call ((Below.refl _ _).drew))
                    have HR7 := Lib.hid (HR6.out.below ((Below.refl _ _).drew))
                    clear hj1
                    repeat (first | (apply Turn.seq_yes; (· simp only [List.getElem?_toArray, List.getElem?_cons_succ, List.getElem?_cons_zero]; rfl); (· rfl); (· go_simp); (· intro w1 h1; obtain ⟨z0, z1, z2, z3, z4, z5⟩ := K w1 h1; go_simp; exact ⟨rfl, h1⟩); (· go_simp; rfl)) | (apply Turn.seq_no; (· simp only [List.getElem?_toArray, List.getElem?_cons_succ, List.getElem?_cons_zero]; rfl); (· go_simp); (· go_simp; rfl)))
                    apply Turn.seq_call
                    · simp only [List.getElem?_toArray, List.getElem?_cons_succ, List.getElem?_cons_zero]; rfl
                    · rfl
                    · go_simp
                    · intro v; go_simp; rfl
                    go_simp
                    refine (HW.out g r cx ⟨gx, 0, none⟩ _ HP7.out.ps.is hcx HR7.out (fun e => HNE.out.1 (by simp only at e; rw [e]; simp))).mono ?_
                    rintro e w8 ⟨rfl, ho8, hi8⟩
                    have HP8 := Lib.hid (HP7.out.turn ho8 hi8)
                    have HR8 := Lib.hid (rd_keep HR7.out ho8 (by intro a ha; cases ha; exact HNE.out.1))
                    have hj8 := (HJ.out _).2 HP8.out.ps.below
                    clear ho8 hi8
                    refine ⟨_, rfl, hj8, ?_⟩
                    repeat (first | (apply Turn.seq_yes; (· simp only [List.getElem?_toArray, List.getElem?_cons_succ, List.getElem?_cons_zero]; rfl); (· rfl); (· go_simp); (· intro w1 h1; obtain ⟨z0, z1, z2, z3, z4, z5⟩ := K w1 h1; go_simp; exact ⟨rfl, h1⟩); (· go_simp; rfl)) | (apply Turn.seq_no; (· simp only [List.getElem?_toArray, List.getElem?_cons_succ, List.getElem?_cons_zero]; rfl); (· go_simp); (· go_simp; rfl)))
                    apply Turn.seq_call
                    · simp only [List.getElem?_toArray, List.getElem?_cons_succ, List.getElem?_cons_zero]; rfl
                    · rfl
                    · go_simp
                    · intro v; go_simp; rfl
                    go_simp
                    refine (HRW.out h q cx ⟨gx, 0, none⟩ _ HP8.out.ps.ris hcx HR8.out (by have := HNE.out.2; simp at this; exact this)).mono ?_
                    rintro e w9 ⟨rfl, ho9, hi9⟩
                    have HP9 := Lib.hid (HP8.out.rturn ho9 hi9)
                    have hj9 := (HJ.out _).2 HP9.out.ps.below
                    clear ho9 hi9
                    refine ⟨_, rfl, hj9, ?_⟩
                    repeat (first | (apply Turn.seq_yes; (· simp only [List.getElem?_toArray, List.getElem?_cons_succ, List.getElem?_cons_zero]; rfl); (· rfl); (· go_simp); (· intro w1 h1; obtain ⟨z0, z1, z2, z3, z4, z5⟩ := K w1 h1; go_simp; exact ⟨rfl, h1⟩); (· go_simp; rfl)) | (apply Turn.seq_no; (· simp only [List.getElem?_toArray, List.getElem?_cons_succ, List.getElem?_cons_zero]; rfl); (· go_simp); (· go_simp; rfl)))
                    apply Turn.seq_nil
                    clear K HJ hj9 hj8
                    go_wp2_with fail
                    go_meet
                    exact ⟨rfl, Lib.hid ⟨d', rd', HBt.out.mono (by omega), HP9.out⟩⟩
                  · have d2 : decide (ap < 128) = false := decide_eq_false c4
                    go_wp2_with fail
                    go_meet
                    exact ⟨rfl, Lib.hid ⟨d, rd, HL.out.mono (by omega), HP3.out⟩⟩
                · have d1 : decide (ap ≥ 0) = false := decide_eq_false c3
                  go_wp2_with fail
                  go_meet
                  exact ⟨rfl, Lib.hid ⟨d, rd, HL.out.mono (by omega), HP3.out⟩⟩
            · refine (Dk.RReadBad_calls HP.out.ps.ris hn2 ai 8 (.inl ⟨c1, rfl⟩)).mono ?_
              rintro e w3 ⟨rfl, hb3⟩
              have HP3 := Lib.hid (HP.out.call hb3)
              clear hb3 x0 x1 x2 x3 x4 x5
              go_wp2_with fail
              go_meet
              exact ⟨rfl, Lib.hid ⟨d, rd, HL.out.mono (by omega), HP3.out⟩⟩
      case rest =>
        obtain ⟨rfl, HREL⟩ := hcut
        obtain ⟨d2, rd2, hb2, hp2⟩ := HREL.out
        have HL2 := Lib.hid hb2
        have HP2 := Lib.hid hp2
        clear hb2 hp2 HREL HL HP HX x0 x1 x2 x3 x4 x5
        have hoff := HL2.out.rel.off
        have hwr := HL2.out.rel.wr
        have f9 : IntKind.i64.wrap ((j : Int) + 1) = ((j + 1 : Nat) : Int) := by rw [IntKind.wrap_i64]; omega
        obtain ⟨G, xs, E, hLd, hRL⟩ := both_loads (f := f) HL2.out hn1 hn2
        have HLd := Lib.hid hLd
        have HRL := Lib.hid hRL
        obtain ⟨o2, c2⟩ : ∃ o2, d2.off = o2 := ⟨_, rfl⟩
        clear hLd hRL
        go_wp2_with fail
        refine (HLd.out _ _ _ _ HP2.out.vs).mono ?_
        rintro e w8 ⟨⟨A8, c8, rfl, hn8, hr8⟩, hb8⟩
        have HP8 := Lib.hid (HP2.out.call hb8)
        have HR8 := Lib.hid (And.intro hn8 hr8)
        clear hb8 hn8 hr8
        go_wp2_with fail
        refine (HRL.out _ _ _ HP8.out.ps.ris).mono ?_
        rintro e w9 ⟨⟨A9, c9, rfl, hn9, hr9⟩, hb9⟩
        have HP9 := Lib.hid (HP8.out.call hb9)
        have HR8b := Lib.hid (HR8.out.2.below hb9)
        have HR9 := Lib.hid (And.intro hn9 hr9)
        clear hb9 hn9 hr9
        have kx := fun W (hb : Below w9.heap.size w9 W) => run_string_of (w := W) Try.underlying23 Try.underlying5 Try.underlying9 A8 xs.length c8 xs rfl (HR8.out.1) (HR8b.out.below hb)
        have ky := fun W (hb : Below w9.heap.size w9 W) => run_string_of (w := W) Try.underlying23 Try.underlying5 Try.underlying9 A9 xs.length c9 xs rfl (HR9.out.1) (HR9.out.2.below hb)
        have HOn : Hid (∀ W, Below w9.heap.size w9 W → Calls Try.prog 21 #[.pointer (some ⟨g, 0, none⟩)] W fun e w' => e = .returned (.bool (!o2)) ∧ Below W.heap.size W w') := Lib.hid (fun W hb => by rw [← c2]; exact Dk.On_calls (HP9.out.call hb).ps.is)
        have HWr : Hid (∀ W, Below w9.heap.size w9 W → Calls Try.prog 37 #[.pointer (some ⟨g, 0, none⟩)] W fun e w' => e = .returned (.int .i64 d2.writes) ∧ Below W.heap.size W w') := Lib.hid (fun W hb => Dk.Writes_calls (HP9.out.call hb).ps.is)
        have ks := fun W (hb : Below w9.heap.size w9 W) => (HP9.out.call hb).ps.ris.cells
        have hoff2 := hoff.trans c2
        have hj0 : Below w9.heap.size w9 w9.drew := (Below.refl _ _).drew
        rw [hoff2] at ks
        rw [hwr] at ks
        obtain ⟨J, hJ⟩ : ∃ J : World → Prop, ∀ W, J W ↔ Below w9.heap.size w9 W := ⟨_, fun _ => Iff.rfl⟩
        have K := fun W (hb : J W) => And.intro (kx W ((hJ W).1 hb)) (And.intro (ky W ((hJ W).1 hb)) (And.intro (ks W ((hJ W).1 hb)).2.1 (ks W ((hJ W).1 hb)).2.2.2.2))
        have HJ := Lib.hid hJ
        have hj1 := (HJ.out w9.drew).2 hj0
        obtain ⟨WR, hWR⟩ : ∃ WR, d2.writes = WR := ⟨_, rfl⟩
        rw [hWR] at K HWr
        clear kx ky ks hJ hj0 hoff2 hoff hwr c2 hWR
        have hbb : ((!o2) == o2) = false := by cases o2 <;> rfl
        go_wp2_with fail
        refine region_inv J (by kernel_rfl) (by kernel_rfl) hj1 ?_
        repeat (first | (apply inv_yes; (· go_simp); (· intro w1 h1; obtain ⟨kx1, ky1, z1, z4⟩ := K w1 h1; go_simp; exact ⟨rfl, h1⟩); (· go_simp; rfl)) | (apply inv_no; (· go_simp); (· go_simp; rfl)))
        apply inv_yes
        · go_simp
        · intro w1 h1; go_simp; exact (HOn.out w1 ((HJ.out _).1 h1)).mono fun _ _ h => ⟨h.1, (HJ.out _).2 (((HJ.out _).1 h1).trans (h.2.mono ((HJ.out _).1 h1).size))⟩
        · go_simp; rfl
        repeat (first | (apply inv_yes; (· go_simp); (· intro w1 h1; obtain ⟨kx1, ky1, z1, z4⟩ := K w1 h1; go_simp; exact ⟨rfl, h1⟩); (· go_simp; rfl)) | (apply inv_no; (· go_simp); (· go_simp; rfl)))
        apply inv_yes
        · go_simp
        · intro w1 h1; go_simp; exact (HWr.out w1 ((HJ.out _).1 h1)).mono fun _ _ h => ⟨h.1, (HJ.out _).2 (((HJ.out _).1 h1).trans (h.2.mono ((HJ.out _).1 h1).size))⟩
        · go_simp; rfl
        repeat (first | (apply inv_yes; (· go_simp); (· intro w1 h1; obtain ⟨kx1, ky1, z1, z4⟩ := K w1 h1; go_simp; exact ⟨rfl, h1⟩); (· go_simp; rfl)) | (apply inv_no; (· go_simp); (· go_simp; rfl)))
        refine wpInv_nil (fun wa ha => ?_)
        have HPa := Lib.hid (HP9.out.call ((HJ.out _).1 ha))
        clear K HJ ha hj1 HOn HWr
        go_wp2_with fail
        go_roundw
        case rel => first | exact ⟨j + 1, d2, rd2, by omega, by simp, HL2, HPa⟩ | ((repeat apply Exists.intro); exact ⟨⟨by omega, by simp, HL2, HPa⟩, rfl⟩)
        case measure => simp [intOf]; omega
    · have hd : decide ((j : Int) < (l.length : Int)) = false := by rw [decide_eq_false_iff_not]; omega
      go_wp2_with fail
      refine (alive10 wr).mono ?_
      rintro e w9 ⟨rfl, hb9⟩
      have HP9 := Lib.hid (HP.out.call hb9)
      clear hb9
      go_wp2_with fail
      go_ret
      exact ⟨rfl, HP9.out.ps.below⟩
end Go.Proofs.Ytmlgkahadgpaiaa.Va
namespace Go.Proofs.Ytmlgkahadgpaiaa.Va
open Go.ChangeShapes Go.WideShapes Go.ChangeAt Go.RowKit Go.Joins Go.Deep
open _root_.Go.Proofs.Ytmlgkahadgpaiaa.Own
set_option linter.unusedVariables false
section
variable {H : Type} {enc : TypeId × Value → H} {P : Program} {w : World} {base : Nat} {spare : Nat → Bool} {held : Bool}
theorem each6 {e : TypeId} {f0 f1 f2 f3 f4 f5 : Field} (he : P.underlying e = some (.struct #[f0, f1, f2, f3, f4, f5])) (hone : oneCellFields P #[f0, f1, f2, f3, f4, f5] = true)
    (hC : P.cellsOf e = 6) {n : Nat} {a : Addr} {i : Nat} {cs' : List Value} {D : DataW H} {Pl : List MemPlace}
    (h1 : w.cells? base (a.add (i * P.cellsOf e)) (P.cellsOf e) = some cs') (h2 : DataW.trod enc P w base spare held n e cs' = some (D, Pl)) :
    ∃ (v0 v1 v2 v3 v4 v5 : Value) (y0 y1 y2 y3 y4 y5 : DataW H × List MemPlace) (k : Nat), (∀ f v, [v0, v1, v2, v3, v4, v5][f]? = some v → w.cell? (a.add (i * 6 + f)) = some v) ∧
      DataW.trod enc P w base spare held k f0.type [v0] = some y0 ∧ DataW.trod enc P w base spare held k f1.type [v1] = some y1 ∧ DataW.trod enc P w base spare held k f2.type [v2] = some y2 ∧ DataW.trod enc P w base spare held k f3.type [v3] = some y3 ∧ DataW.trod enc P w base spare held k f4.type [v4] = some y4 ∧ DataW.trod enc P w base spare held k f5.type [v5] = some y5 := by
  rw [hC] at h1
  obtain ⟨_, hlen, hcell⟩ := World.cells?_some h1
  obtain ⟨xs, k, hk, hxy, _, hxl, hf⟩ := DataW.trod_struct he h2
  match xs, hxl, cs', hlen with
  | [y0, y1, y2, y3, y4, y5], _, [v0, v1, v2, v3, v4, v5], _ =>
    have g0 := hf 0 f0 rfl
    have g1 := hf 1 f1 rfl
    have g2 := hf 2 f2 rfl
    have g3 := hf 3 f3 rfl
    have g4 := hf 4 f4 rfl
    have g5 := hf 5 f5 rfl
    obtain ⟨o0, k0⟩ := hone_of hone 0 f0 rfl
    obtain ⟨o1, k1⟩ := hone_of hone 1 f1 rfl
    obtain ⟨o2, k2⟩ := hone_of hone 2 f2 rfl
    obtain ⟨o3, k3⟩ := hone_of hone 3 f3 rfl
    obtain ⟨o4, k4⟩ := hone_of hone 4 f4 rfl
    obtain ⟨o5, k5⟩ := hone_of hone 5 f5 rfl
    refine ⟨v0, v1, v2, v3, v4, v5, y0, y1, y2, y3, y4, y5, k, ?_, by simpa [o0, k0] using g0, by simpa [o1, k1] using g1, by simpa [o2, k2] using g2, by simpa [o3, k3] using g3, by simpa [o4, k4] using g4, by simpa [o5, k5] using g5⟩
    intro f v hfv
    obtain ⟨hf6, -⟩ := List.getElem?_eq_some_iff.1 hfv
    have := hcell f (by simpa using hf6)
    rw [Go.Deep.add_add] at this
    rw [this, hfv]
set_option maxRecDepth 100000 in
theorem open_acts {v : Value} {d : DataW H} {p : List MemPlace} (hval : Value.okWide Try.prog w .any base 60 v) (h : DataW.Trod enc Try.prog w 0 (fun _ => true) held 60 v d p) :
    ∃ (A : Option Addr) (cap : Nat) (l : List Ac), v = .slice A l.length cap ∧ l.length ≤ cap ∧ l.length ≤ maxLen ∧ ActsRd w A l := by
  obtain ⟨a0, len, cap, rfl⟩ := okWide_slice Try.underlying60 hval
  obtain ⟨fuel, hf⟩ := h
  rcases open_slice Try.underlying60 hf with ⟨hcs, -⟩ | ⟨a, len', cap', m, n, D, Pl, hcs, _, hl, hm, hmm, -, hx⟩
  · simp [Value.cells] at hcs
    obtain ⟨rfl, rfl, rfl⟩ := hcs
    exact ⟨none, 0, [], rfl, Nat.le_refl _, by decide, fun j hj => absurd hj (by simp)⟩
  · simp [Value.cells] at hcs
    obtain ⟨rfl, rfl, rfl⟩ := hcs
    simp only [if_true] at hmm
    subst hmm
    have each : ∀ i, i < m → ∃ x : Ac, ∀ f v, (x.cells)[f]? = some v → w.cell? (a.add (i * 6 + f)) = some v := by
      intro i hi
      obtain ⟨cs', h1, h2⟩ := hx i hi
      obtain ⟨v0, v1, v2, v3, v4, v5, y0, y1, y2, y3, y4, y5, n, hc, h0, h1, h2, h3, h4, h5⟩ := each6 Try.underlying65 (by kernel_rfl) (by kernel_rfl) h1 h2
      obtain ⟨k, e0, -, hk⟩ := DataW.trod_int Try.underlying5 h0
      obtain ⟨g, e1, -, -⟩ := DataW.trod_int Try.underlying3 h1
      obtain ⟨b, e2, -, hb⟩ := DataW.trod_int Try.underlying5 h2
      obtain ⟨s, e3, -, -⟩ := DataW.trod_int Try.underlying3 h3
      obtain ⟨n', e4, -, hn'⟩ := DataW.trod_int Try.underlying3 h4
      obtain ⟨q, e5, -, -⟩ := DataW.trod_int Try.underlying3 h5
      simp at e0 e1 e2 e3 e4 e5
      subst e0 e1 e2 e3 e4 e5
      obtain ⟨b', rfl⟩ := u8_of b hb
      simp [Lit.wf] at hk hn'
      exact ⟨⟨k, g, b', s, n', q, ⟨Int.le_trans (by decide) hk.1, Int.lt_of_le_of_lt hk.2 (by decide)⟩, Int.le_trans hn'.2 (by decide)⟩, hc⟩
    haveI : Inhabited Ac := ⟨⟨0, 0, 0, 0, 0, 0, by decide, by decide⟩⟩
    obtain ⟨X, hX⟩ := choose_lt each
    have hlen : ((List.range len).map X).length = len := by simp
    refine ⟨some a, m, (List.range len).map X, by rw [hlen], by rw [hlen]; exact hl, by rw [hlen]; exact Nat.le_trans hl hm, ?_⟩
    intro j hj
    rw [hlen] at hj
    refine ⟨a, rfl, ?_⟩
    rw [List.getElem_map, List.getElem_range]
    exact hX j (by omega)
end
/-- VaultPlays, whatever comes in. -/
theorem plays_all (m : Int) (A : Option Addr) (c : Nat) (l : List Ac) (hm : l.length ≤ maxLen) (w : World) (hR : ActsRd w A l) : Calls Try.prog 8 #[.int .i64 m, .slice A l.length c] w fun e w' => e = .returned (.bool true) ∧ Below w.heap.size w w' := by
  by_cases h1 : m < 0 ∨ m > 4
  · exact plays_bad m h1 A l.length c w
  · obtain ⟨f, rfl⟩ : ∃ f : Nat, m = f := ⟨m.toNat, by omega⟩
    by_cases h2 : l.length > 12
    · exact plays_long f (by omega) A l.length c h2 hm w
    · exact plays_walk f (by omega) A c l (by omega) w hR
end Go.Proofs.Ytmlgkahadgpaiaa.Va
