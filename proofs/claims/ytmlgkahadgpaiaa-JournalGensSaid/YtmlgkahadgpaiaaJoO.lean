/- Chapter 09: the plain law of generations, and the walk of JournalGens. -/
import Derived.Test.YtmlgkahadgpaiaaJoL
import Derived.Test.YtmlgkahadgpaiaaJoK
import Derived.Test.YtmlgkahadgpaiaaOpens
namespace Go.Proofs.Ytmlgkahadgpaiaa.Jo
open Go.RowKit _root_.Go.Proofs.Ytmlgkahadgpaiaa.Own
open Go.Proofs.Ytmlgkahadgpaiaa.Fr
open Go.Proofs.Ytmlgkahadgpaiaa.Dk (D Is D0 torn putRow rowB wst DOk rowB_length)
set_option linter.unusedVariables false
set_option linter.unusedSimpArgs false
/-- What was added is none of another generation's. -/
theorem add_gen {d : D} {n : Nat} (hl : d.all.length = n * 128) (hkp : 0 ≤ d.keep ∧ d.keep ≤ 128) {f G N : Nat} (hf : f + 2 * N + 1 < n) (b : List UInt8) (hG : G ≤ 2147483647) (hN : N ≤ 65535) (hb : b.length ≤ 112) (h : (addD d f G N b).1 = 0) (G' : Nat) (hne : G ≠ G') : placeD (addD d f G N b).2.1.all f G' N = none := by
  obtain ⟨a1, a2, a3, a4, a5⟩ := Va.wst_row hl hkp (f + 2 * N) (by omega) (blockF 82 G N b) (rec_length 82 G N b hG hN hb)
  have hc := rec_length 67 G N [] hG hN (by simp)
  unfold addD at h ⊢
  by_cases h1 : (wst d (f + 2 * N) (blockF 82 G N b)).1 = 0
  · rw [if_pos h1] at h ⊢
    have r1 := a3 h1
    generalize (wst d (f + 2 * N) (blockF 82 G N b)).2 = d1 at *
    obtain ⟨c1, c2, c3, c4, c5⟩ := Va.wst_row a1 (by rw [a5]; exact hkp) (f + 2 * N + 1) (by omega) (blockF 67 G N []) hc
    have e : rowB (wst d1 (f + 2 * N + 1) (blockF 67 G N [])).2.all (f + 2 * N) = blockF 82 G N b := (c2 _ (by omega) (by omega)).trans r1
    by_cases h2 : (wst d1 (f + 2 * N + 1) (blockF 67 G N [])).1 = 0
    · rw [if_pos h2]
      refine place_rec ?_
      show stF 82 (rowB (wst d1 (f + 2 * N + 1) (blockF 67 G N [])).2.all (f + 2 * N)) G' N = none
      rw [e]; exact st_gen 82 82 G G' N N b hG hN hb hne
    · rw [if_neg h2] at h; exact absurd h h2
  · rw [if_neg h1] at h; exact absurd h h1
/-- Behind i Adds of a generation. -/
structure GRun (B : Nat → List UInt8) (G i k : Nat) (d : D) : Prop where
  len : d.all.length = 20 * 128
  calm : Va.Calm d k
  here : ∀ q, q < i → placeD d.all 0 G q = some (B q)
  more : ∀ q, i ≤ q → q < 10 → placeD d.all 0 G q = none
def NoneOf (G : Nat) (d : D) : Prop := ∀ q, q < 10 → placeD d.all 0 G q = none
theorem none0 (G : Nat) : NoneOf G (D0 20) := fun q hq => place_rec (by rw [Va.rowB_zero 20 _ (by omega)]; exact gone_zero 82 G q)
theorem GRun.start {d : D} {k : Nat} (hl : d.all.length = 20 * 128) (hc : Va.Calm d k) (B : Nat → List UInt8) (G : Nat) (hn : NoneOf G d) : GRun B G 0 k d := ⟨hl, hc, fun q h => by omega, fun q _ h => hn q h⟩
theorem GRun.add {B : Nat → List UInt8} {G i k : Nat} {d : D} (h : GRun B G i k d) (hi : i < 10) (hG : G ≤ 2147483647) (hb : (B i).length ≤ 112) :
    (addD d 0 G i (B i)).1 = 0 ∧ (addD d 0 G i (B i)).2.2 = i + 1 ∧ GRun B G (i + 1) (k + 2) (addD d 0 G i (B i)).2.1 ∧ ∀ G', G ≠ G' → NoneOf G' d → NoneOf G' (addD d 0 G i (B i)).2.1 := by
  obtain ⟨a1, a2, a3, a4, a5⟩ := add_law (n := 20) h.len h.calm.dok.kp (f := 0) (G := G) (N := i) (by omega) (B i) hG (by omega) hb
  have oth := fun q G' hq hne => add_other (n := 20) h.len h.calm.dok.kp (f := 0) (G := G) (N := i) (by omega) (B i) hG (by omega) hb q G' hq hne
  obtain ⟨c1, c2, c3⟩ := calm_add h.calm 0 G i (B i)
  refine ⟨c1, c2, ⟨a1, c3, fun q hq => ?_, fun q h1 h2 => ?_⟩, fun G' hne hno q hq => ?_⟩
  · by_cases hq' : q = i
    · subst hq'; exact (a4 c1).2
    · exact (oth q G (by omega) hq').trans (h.here q (by omega))
  · exact (oth q G (by omega) (by omega)).trans (h.more q (by omega) h2)
  · by_cases hq' : q = i
    · subst hq'; exact add_gen (n := 20) h.len h.calm.dok.kp (by omega) (B q) hG (by omega) hb c1 G' hne
    · exact (oth q G' (by omega) hq').trans (hno q hq)
theorem NoneOf.holds {G : Nat} {d : D} (h : NoneOf G d) (hl : d.all.length = 20 * 128) : Holds 20 0 10 G [] d := ⟨hl, by decide, fun q hq => absurd hq (by simp), fun _ => h 0 (by decide)⟩
theorem GRun.holds {B : Nat → List UInt8} {G i k : Nat} {d : D} (h : GRun B G i k d) (ls : List (List UInt8)) (hi : i = ls.length) (hB : ∀ q, B q = ls.getD q []) (h10 : ls.length ≤ 10) : Holds 20 0 10 G ls d := by
  subst hi
  refine ⟨h.len, h10, fun q hq => ?_, fun hq => h.more _ (Nat.le_refl _) hq⟩
  rw [h.here q hq, hB, List.getD_eq_getElem?_getD, List.getElem?_eq_getElem hq]; rfl
theorem part' {w : World} {A : Option Addr} {ps : List (Option Addr × Nat × List UInt8)} (h : Rd w A (sls ps)) {k : Nat} (hk : k < ps.length) : ∃ a, A = some a ∧ w.cell? (a.add k) = some (.slice ps[k].1 ps[k].2.2.length ps[k].2.1) := h.part hk
theorem JL.rd {W w0 : World} {j g r n f m : Nat} {d : D} {G N : Nat} {w : World} (q : JL W w0 j g r n f m d G N w) {A : Option Addr} {xs : List Value} (h : Rd W A xs) : Rd w A xs := h.below q.below
set_option maxRecDepth 10000 in
set_option maxHeartbeats 4000000 in
theorem gens_long (A : Option Addr) (n c : Nat) (A2 : Option Addr) (m c2 : Nat) (G H : Nat) (hn : n ≤ maxLen) (hm : m ≤ maxLen) (h : 10 < n ∨ 10 < m ∨ G = H) (w : World) :
    Calls Try.prog 6 #[.slice A n c, .slice A2 m c2, .int .u16 (G : Nat), .int .u16 (H : Nat)] w fun e w' => e = .returned (.bool true) ∧ Below w.heap.size w w' := by
  unfold maxLen at hn hm
  by_cases c1 : 10 < n
  · have d1 : decide ((n : Int) > 10) = true := by rw [decide_eq_true_eq]; omega
    have d2 : decide (10 < n) = true := decide_eq_true c1
    clear hn hm h c1
    go_enter Try.func6, Try.ntmps6
    go_wp2_with fail
    refine (alive09 _).mono ?_
    rintro e w1 ⟨rfl, hb1⟩
    have HB1 := Lib.hid hb1
    clear hb1
    go_wp2_with fail
    go_ret
    exact ⟨rfl, HB1.out⟩
  · have d1 : decide ((n : Int) > 10) = false := by rw [decide_eq_false_iff_not]; omega
    have d2 : decide (10 < n) = false := decide_eq_false c1
    by_cases c3 : 10 < m
    · have d3 : decide ((m : Int) > 10) = true := by rw [decide_eq_true_eq]; omega
      have d4 : decide (10 < m) = true := decide_eq_true c3
      clear hn hm h c1 c3
      go_enter Try.func6, Try.ntmps6
      go_wp2_with fail
      refine (alive09 _).mono ?_
      rintro e w1 ⟨rfl, hb1⟩
      have HB1 := Lib.hid hb1
      clear hb1
      go_wp2_with fail
      go_ret
      exact ⟨rfl, HB1.out⟩
    · have d3 : decide ((m : Int) > 10) = false := by rw [decide_eq_false_iff_not]; omega
      have d4 : decide (10 < m) = false := decide_eq_false c3
      have d5 : ((G : Int) == (H : Int)) = true := by rw [beq_iff_eq]; omega
      have d6 : (G == H) = true := by rw [beq_iff_eq]; omega
      have d7 : decide (G = H) = true := decide_eq_true (by omega)
      clear hn hm h c1 c3
      go_enter Try.func6, Try.ntmps6
      go_wp2_with fail
      refine (alive09 _).mono ?_
      rintro e w1 ⟨rfl, hb1⟩
      have HB1 := Lib.hid hb1
      clear hb1
      go_wp2_with fail
      go_ret
      exact ⟨rfl, HB1.out⟩
set_option maxRecDepth 10000 in
set_option maxHeartbeats 8000000 in
theorem gens_short (A : Option Addr) (c : Nat) (ps : List (Option Addr × Nat × List UInt8)) (A2 : Option Addr) (c2 : Nat) (qs : List (Option Addr × Nat × List UInt8)) (G H : Nat) (hl : ps.length ≤ 10) (hm : qs.length ≤ 10) (hne : G ≠ H) (hG : G ≤ 65535) (hH : H ≤ 65535) (w : World)
    (hR : Rd w A (sls ps)) (hps : ∀ p ∈ ps, (p.1 = none → p.2.1 = 0) ∧ p.2.2.length ≤ maxLen ∧ p.2.2.length ≤ p.2.1 ∧ Rd w p.1 (bys p.2.2))
    (hR2 : Rd w A2 (sls qs)) (hqs : ∀ p ∈ qs, (p.1 = none → p.2.1 = 0) ∧ p.2.2.length ≤ maxLen ∧ p.2.2.length ≤ p.2.1 ∧ Rd w p.1 (bys p.2.2)) :
    Calls Try.prog 6 #[.slice A ps.length c, .slice A2 qs.length c2, .int .u16 (G : Nat), .int .u16 (H : Nat)] w fun e w' => e = .returned (.bool true) ∧ Below w.heap.size w w' := by
  have d1 : decide ((ps.length : Int) > 10) = false := by rw [decide_eq_false_iff_not]; omega
  have d2 : decide (10 < ps.length) = false := decide_eq_false (by omega)
  have d3 : decide ((qs.length : Int) > 10) = false := by rw [decide_eq_false_iff_not]; omega
  have d4 : decide (10 < qs.length) = false := decide_eq_false (by omega)
  have d5 : ((G : Int) == (H : Int)) = false := by rw [beq_eq_false_iff_ne]; omega
  have d6 : (G == H) = false := by rw [beq_eq_false_iff_ne]; omega
  have d7 : decide (G = H) = false := decide_eq_false (by omega)
  have HR := Lib.hid hR
  have HPS := Lib.hid hps
  have HR2 := Lib.hid hR2
  have HQS := Lib.hid hqs
  have HNE := Lib.hid (And.intro hne (And.intro hG hH))
  have w1 : IntKind.i64.wrap (G : Int) = (G : Int) := by rw [IntKind.wrap_i64]; omega
  have w2 : IntKind.i64.wrap (H : Int) = (H : Int) := by rw [IntKind.wrap_i64]; omega
  have w3 : wrap64 (G : Int) = (G : Int) := by unfold wrap64; omega
  have w4 : wrap64 (H : Int) = (H : Int) := by unfold wrap64; omega
  obtain ⟨B, hB⟩ : ∃ B : Nat → List UInt8, ∀ q, B q = (ps.map fun p => p.2.2).getD q [] := ⟨_, fun _ => rfl⟩
  obtain ⟨C, hC⟩ : ∃ C : Nat → List UInt8, ∀ q, C q = (qs.map fun p => p.2.2).getD q [] := ⟨_, fun _ => rfl⟩
  have HBq := Lib.hid hB
  have HCq := Lib.hid hC
  clear hR hps hR2 hqs hB hC hne hG hH
  go_enter Try.func6, Try.ntmps6
  go_wp2_with fail
  refine (Dk.New_calls 20 (by decide) (by decide) w).mono ?_
  rintro e w1' ⟨g, r, rfl, hg, hr, hI, hb⟩
  have HI := Lib.hid hI
  have HB := Lib.hid hb
  clear hI hb d1 d2 d3 d4 d5 d6 d7
  go_wp2_with fail
  refine (New_calls HI.out 0 10 (by decide) (by decide) (by decide) (by decide)).mono ?_
  rintro e w2' ⟨x, rfl, hv, hvg, hb2⟩
  have L2 := Lib.hid (JL.start HI.out HB.out hg hr (Nat.le_trans HB.out.size hvg) hv hb2)
  clear hv hb2 HI HB hvg hg hr
  have hO := OpenH_calls L2.out.js (Va.calm0 20).off (by decide) (by decide) (by decide) G (by have := HNE.out; omega) ((none0 G).holds List.length_replicate)
  have HO := Lib.hid hO
  clear hO
  go_wp2_with fail
  refine HO.out.mono ?_
  rintro e w3' ⟨A3, c3, rfl, -, js3⟩
  have L3 := Lib.hid (L2.out.set js3)
  have HRun := Lib.hid (GRun.start (d := D0 20) List.length_replicate (Va.calm0 20) B G (none0 G))
  have HNo := Lib.hid (none0 H)
  generalize D0 20 = dA at *
  clear HO js3 L2
  go_wp2_with fail
  go_loopw [13] (fun vs wr => ∃ (i : Nat) (d : D), i ≤ ps.length ∧ vs = .int .i64 i ∧ Hid (GRun B G i (0 + 2 * i) d) ∧ Hid (NoneOf H d) ∧ Hid (JL w w2' x g r 20 0 10 d G i wr)) (fun vs _ => ps.length - (intOf vs).toNat)
  case atStart => exact ⟨0, dA, Nat.zero_le _, rfl, HRun, HNo, L3⟩
  case round =>
    clear HRun L3 
    obtain ⟨i, d, hi, rfl, HRu, HNo, HL⟩ := hrel
    by_cases hlt : i < ps.length
    · have e1 : decide ((i : Int) < (ps.length : Int)) = true := by rw [decide_eq_true_eq]; omega
      have e2 : decide (i < ps.length) = true := decide_eq_true hlt
      obtain ⟨a, rfl, hc⟩ := part' (HL.out.rd HR.out) hlt
      obtain ⟨p1, p2, p3, p4⟩ := HPS.out ps[i] (List.getElem_mem hlt)
      have hbi : B i = ps[i].2.2 := by rw [HBq.out, List.getD_eq_getElem?_getD, List.getElem?_eq_getElem (by rw [List.length_map]; exact hlt), List.getElem_map]; rfl
      have P1 := Lib.hid p1
      have P4 := Lib.hid p4
      have HBI := Lib.hid hbi
      clear p1 p3 p4 hbi
      by_cases hlong : 112 < ps[i].2.2.length
      · unfold maxLen at p2
        have q1 : decide ((ps[i].2.2.length : Int) > 112) = true := by rw [decide_eq_true_eq]; omega
        have q2 : decide (112 < ps[i].2.2.length) = true := decide_eq_true hlong
        go_wp2_with fail
        refine (alive09 _).mono ?_
        rintro e w5 ⟨rfl, hb5⟩
        have HB5 := Lib.hid (HL.out.below.trans (hb5.mono HL.out.below.size))
        clear hb5
        go_wp2_with fail
        go_ret
        exact ⟨rfl, HB5.out⟩
      · have q1 : decide ((ps[i].2.2.length : Int) > 112) = false := by rw [decide_eq_false_iff_not]; omega
        have q2 : decide (112 < ps[i].2.2.length) = false := decide_eq_false hlong
        have f1 : IntKind.i64.wrap ((i : Int) + 1) = ((i + 1 : Nat) : Int) := by rw [IntKind.wrap_i64]; omega
        have hS := Add_calls HL.out.js (by omega) (by decide) (by decide) (by decide) HRu.out.calm.dok (by omega) (by have := HNE.out; omega) ps[i].1 ps[i].2.2.length ps[i].2.1 ps[i].2.2 rfl (by omega) P1.out (HL.out.rd P4.out)
        obtain ⟨h1, h2, h3, h4⟩ := HRu.out.add (by omega) (by have := HNE.out; omega) (by rw [HBI.out]; omega)
        rw [HBI.out] at h1 h2 h3 h4
        rw [h1, h2] at hS
        have HNo' := Lib.hid (h4 H HNE.out.1 HNo.out)
        generalize (addD d 0 G i ps[i].2.2).2.1 = d' at *
        have HS := Lib.hid hS
        have HR' := Lib.hid h3
        clear hS p2 h1 h2 h3 h4
        go_wp2_with fail
        refine HS.out.mono ?_
        rintro e w5 ⟨rfl, p5⟩
        have HL5 := Lib.hid (HL.out.set p5)
        clear p5 HS
        go_wp2_with fail
        go_roundw
        case rel => exact ⟨i + 1, d', by omega, by simp, by rw [show 0 + 2 * (i + 1) = 0 + 2 * i + 2 by omega]; exact HR', HNo', HL5⟩
        case measure => simp [intOf]; omega
    · obtain rfl : i = ps.length := by omega
      have e1 : decide ((ps.length : Int) < (ps.length : Int)) = false := by rw [decide_eq_false_iff_not]; omega
      clear hlt
      have hn1 := HNo.out.holds HRu.out.len
      have hg1 := HRu.out.holds (ps.map fun p => p.2.2) (by rw [List.length_map]) HBq.out (by rw [List.length_map]; exact hl)
      have HN1 := Lib.hid hn1
      have HG1 := Lib.hid hg1
      have HC1 := Lib.hid HRu.out.calm
      have HLn := Lib.hid HRu.out.len
      clear hn1 hg1 HRu
      have hO := OpenH_calls HL.out.js HC1.out.off (by decide) (by decide) (by decide) H (by have := HNE.out; omega) HN1.out
      have HO := Lib.hid hO
      clear hO
      go_wp2_with fail
      refine HO.out.mono ?_
      rintro e w6 ⟨A6, c6, rfl, -, js6⟩
      have L6 := Lib.hid (HL.out.set js6)
      clear HO js6 HL
      have hO := OpenH_calls L6.out.js.self HC1.out.off (by decide) (by decide) (by decide) G (by have := HNE.out; omega) HG1.out
      have HO := Lib.hid hO
      clear hO
      go_wp2_with fail
      refine HO.out.mono ?_
      rintro e w7 ⟨A7, c7, rfl, st7, js7⟩
      have R7 := Lib.hid (st7 _ (Only.refl _ _))
      have L7 := Lib.hid (L6.out.set (L6.out.js.back js7))
      clear HO st7 js7 L6
      have hRt := rows_of (L7.out.rd HR.out) (fun p hp => ⟨(HPS.out p hp).1, L7.out.rd (HPS.out p hp).2.2.2⟩)
      have hS := Same_calls A7 A c7 c _ _ R7.out hRt (by rw [List.length_map]; omega)
      rw [decide_eq_true rfl, List.length_map] at hS
      have HS := Lib.hid hS
      rw [List.length_map]
      clear hS hRt R7
      go_wp2_with fail
      refine HS.out.mono ?_
      rintro e w8 ⟨rfl, hb8⟩
      have L8 := Lib.hid (L7.out.call hb8)
      clear hb8 HS L7
      have hO := OpenH_calls L8.out.js HC1.out.off (by decide) (by decide) (by decide) H (by have := HNE.out; omega) HN1.out
      have HO := Lib.hid hO
      clear hO
      go_wp2_with fail
      refine HO.out.mono ?_
      rintro e w9 ⟨A9, c9, rfl, -, js9⟩
      have L9 := Lib.hid (L8.out.set js9)
      have HRun := Lib.hid (GRun.start HLn.out HC1.out C H HNo.out)
      clear HO js9 L8 HG1 HN1 HLn HC1 HNo
      generalize d = dB at *
      go_wp2_with fail
      go_loopw [18] (fun vs wr => ∃ (i : Nat) (d : D), i ≤ qs.length ∧ vs = .int .i64 i ∧ Hid (GRun C H i (0 + 2 * ps.length + 2 * i) d) ∧ Hid (JL w w2' x g r 20 0 10 d H i wr)) (fun vs _ => qs.length - (intOf vs).toNat)
      case atStart => exact ⟨0, dB, Nat.zero_le _, rfl, HRun, L9⟩
      case round =>
        clear HRun L9 
        obtain ⟨i, d, hi, rfl, HRu, HL⟩ := hrel
        by_cases hlt : i < qs.length
        · have e1 : decide ((i : Int) < (qs.length : Int)) = true := by rw [decide_eq_true_eq]; omega
          have e2 : decide (i < qs.length) = true := decide_eq_true hlt
          obtain ⟨a, rfl, hc⟩ := part' (HL.out.rd HR2.out) hlt
          obtain ⟨p1, p2, p3, p4⟩ := HQS.out qs[i] (List.getElem_mem hlt)
          have hbi : C i = qs[i].2.2 := by rw [HCq.out, List.getD_eq_getElem?_getD, List.getElem?_eq_getElem (by rw [List.length_map]; exact hlt), List.getElem_map]; rfl
          have P1 := Lib.hid p1
          have P4 := Lib.hid p4
          have HBI := Lib.hid hbi
          clear p1 p3 p4 hbi
          by_cases hlong : 112 < qs[i].2.2.length
          · unfold maxLen at p2
            have q1 : decide ((qs[i].2.2.length : Int) > 112) = true := by rw [decide_eq_true_eq]; omega
            have q2 : decide (112 < qs[i].2.2.length) = true := decide_eq_true hlong
            go_wp2_with fail
            refine (alive09 _).mono ?_
            rintro e w5 ⟨rfl, hb5⟩
            have HB5 := Lib.hid (HL.out.below.trans (hb5.mono HL.out.below.size))
            clear hb5
            go_wp2_with fail
            go_ret
            exact ⟨rfl, HB5.out⟩
          · have q1 : decide ((qs[i].2.2.length : Int) > 112) = false := by rw [decide_eq_false_iff_not]; omega
            have q2 : decide (112 < qs[i].2.2.length) = false := decide_eq_false hlong
            have f1 : IntKind.i64.wrap ((i : Int) + 1) = ((i + 1 : Nat) : Int) := by rw [IntKind.wrap_i64]; omega
            have hS := Add_calls HL.out.js (by omega) (by decide) (by decide) (by decide) HRu.out.calm.dok (by omega) (by have := HNE.out; omega) qs[i].1 qs[i].2.2.length qs[i].2.1 qs[i].2.2 rfl (by omega) P1.out (HL.out.rd P4.out)
            obtain ⟨h1, h2, h3, h4⟩ := HRu.out.add (by omega) (by have := HNE.out; omega) (by rw [HBI.out]; omega)
            rw [HBI.out] at h1 h2 h3 h4
            rw [h1, h2] at hS
            generalize (addD d 0 H i qs[i].2.2).2.1 = d' at *
            have HS := Lib.hid hS
            have HR' := Lib.hid h3
            clear hS p2 h1 h2 h3 h4
            go_wp2_with fail
            refine HS.out.mono ?_
            rintro e w5 ⟨rfl, p5⟩
            have HL5 := Lib.hid (HL.out.set p5)
            clear p5 HS
            go_wp2_with fail
            go_roundw
            case rel => exact ⟨i + 1, d', by omega, by simp, by rw [show 0 + 2 * ps.length + 2 * (i + 1) = 0 + 2 * ps.length + 2 * i + 2 by omega]; exact HR', HL5⟩
            case measure => simp [intOf]; omega
        · obtain rfl : i = qs.length := by omega
          have e1 : decide ((qs.length : Int) < (qs.length : Int)) = false := by rw [decide_eq_false_iff_not]; omega
          clear hlt
          have hg1 := HRu.out.holds (qs.map fun p => p.2.2) (by rw [List.length_map]) HCq.out (by rw [List.length_map]; exact hm)
          have HG1 := Lib.hid hg1
          have HC1 := Lib.hid HRu.out.calm
          clear hg1 HRu
          have hO := OpenH_calls HL.out.js.self HC1.out.off (by decide) (by decide) (by decide) H (by have := HNE.out; omega) HG1.out
          have HO := Lib.hid hO
          clear hO
          go_wp2_with fail
          refine HO.out.mono ?_
          rintro e w16 ⟨A16, c16, rfl, st16, js16⟩
          have R16 := Lib.hid (st16 _ (Only.refl _ _))
          have L16 := Lib.hid (HL.out.set (HL.out.js.back js16))
          clear HO st16 js16 HL
          have hRt := rows_of (L16.out.rd HR2.out) (fun p hp => ⟨(HQS.out p hp).1, L16.out.rd (HQS.out p hp).2.2.2⟩)
          have hS := Same_calls A16 A2 c16 c2 _ _ R16.out hRt (by rw [List.length_map]; omega)
          rw [decide_eq_true rfl, List.length_map] at hS
          have HS := Lib.hid hS
          rw [List.length_map]
          clear hS hRt R16
          go_wp2_with fail
          refine HS.out.mono ?_
          rintro e w18 ⟨rfl, hb18⟩
          have L18 := Lib.hid (L16.out.call hb18)
          clear hb18 HS L16
          go_wp2_with fail
          refine (Gen_calls L18.out.js.jis).mono ?_
          rintro e w19 ⟨rfl, rfl⟩
          go_wp2_with fail
          refine (alive09 _).mono ?_
          rintro e w19 ⟨rfl, hb19⟩
          have HBA := Lib.hid (L18.out.below.trans (hb19.mono L18.out.below.size))
          clear hb19
          go_wp2_with fail
          go_ret
          exact ⟨rfl, HBA.out⟩
theorem gens_all (A : Option Addr) (c : Nat) (ps : List (Option Addr × Nat × List UInt8)) (hp : ps.length ≤ maxLen) (A2 : Option Addr) (c2 : Nat) (qs : List (Option Addr × Nat × List UInt8)) (hq : qs.length ≤ maxLen) (g : Int) (hg : (Lit.int .u16 g).wf = true) (h : Int) (hh : (Lit.int .u16 h).wf = true) (w : World)
    (hR : Rd w A (sls ps)) (hps : ∀ p ∈ ps, (p.1 = none → p.2.1 = 0) ∧ p.2.2.length ≤ maxLen ∧ p.2.2.length ≤ p.2.1 ∧ Rd w p.1 (bys p.2.2))
    (hR2 : Rd w A2 (sls qs)) (hqs : ∀ p ∈ qs, (p.1 = none → p.2.1 = 0) ∧ p.2.2.length ≤ maxLen ∧ p.2.2.length ≤ p.2.1 ∧ Rd w p.1 (bys p.2.2)) :
    Calls Try.prog 6 #[.slice A ps.length c, .slice A2 qs.length c2, .int .u16 g, .int .u16 h] w fun e w' => e = .returned (.bool true) ∧ Below w.heap.size w w' := by
  have one : ∀ s : Int, (Lit.int .u16 s).wf = true → ∃ m : Nat, s = (m : Int) ∧ m ≤ 65535 := by
    intro s hs
    have h0 : 0 ≤ s ∧ s < 65536 := by
      simp [Lit.wf, IntKind.min, IntKind.max, IntKind.bits, IntKind.signed] at hs
      omega
    exact ⟨s.toNat, by omega, by omega⟩
  obtain ⟨G, rfl, hG⟩ := one g hg
  obtain ⟨H, rfl, hH⟩ := one h hh
  by_cases hx : 10 < ps.length ∨ 10 < qs.length ∨ G = H
  · exact gens_long A ps.length c A2 qs.length c2 G H hp hq hx w
  · exact gens_short A c ps A2 c2 qs G H (by omega) (by omega) (by omega) hG hH w hR hps hR2 hqs
end Go.Proofs.Ytmlgkahadgpaiaa.Jo
