/- Chapter 10: the walk of VaultKeeps. -/
import Derived.Test.YtmlgkahadgpaiaaVaI
import Derived.Test.YtmlgkahadgpaiaaOpens
namespace Go.Proofs.Ytmlgkahadgpaiaa.Va
open Go.RowKit _root_.Go.Proofs.Ytmlgkahadgpaiaa.Own
open Go.Proofs.Ytmlgkahadgpaiaa.Fr
open Go.Proofs.Ytmlgkahadgpaiaa.Dk (D Is D0 torn putRow rowB wst DOk rowB_length armE armD)
set_option linter.unusedVariables false
set_option linter.unusedSimpArgs false
/-- What was saved ahead of the k-th. -/
def lastOf (ps : List (Option Addr × Nat × List UInt8)) (k : Nat) : List UInt8 := (ps[k - 1]?.map fun p => p.2.2).getD []
theorem lastOf_succ (ps : List (Option Addr × Nat × List UInt8)) (k : Nat) (h : k < ps.length) : lastOf ps (k + 1) = ps[k].2.2 := by
  unfold lastOf
  rw [Nat.add_sub_cancel, List.getElem?_eq_getElem h]; rfl
/-- How the torn save comes out. -/
inductive Out (n f K : Nat) (old b : List UInt8) (at_ kp : Nat) : Int → List UInt8 → Prop where
  | whole {all : List UInt8} : at_ = blkN b.length + 1 → Kept n f (K + 1) b all → Out n f K old b at_ kp 0 all
  | head {all : List UInt8} : at_ = blkN b.length → kp = 128 → Kept n f (K + 1) b all → Out n f K old b at_ kp 19 all
  | torn {all : List UInt8} : at_ < blkN b.length + 1 → ¬ (at_ = blkN b.length ∧ kp = 128) → Kept n f K old all → Out n f K old b at_ kp 19 all
theorem out_of {d : D} {k n f K : Nat} {old b : List UInt8} (hc : Calm d k) (hk : Kept n f K old d.all) (hf : f + 512 ≤ n) (hK : K < 2147483647) (hb : b.length ≤ 32640) (at_ kp : Nat) (ha : at_ ≤ blkN b.length + 1) (hkp : kp ≤ 128) :
    armE at_ kp = 0 ∧ DOk (armD d at_ kp) (k + 1000) ∧ Out n f K old b at_ kp (saveD (armD d at_ kp) f (K + 1) b).1 (saveD (armD d at_ kp) f (K + 1) b).2.all := by
  have hne : ¬ ((at_ : Int) < 0 ∨ (kp : Int) < 0 ∨ (kp : Int) > 128) := by omega
  have hbk := blk_le hb
  have e1 : armD d at_ kp = { d with armed := true, left := at_, keep := kp } := if_neg hne
  refine ⟨if_neg hne, ?_, ?_⟩
  · rw [e1]
    exact ⟨by have := hc.dok.wr; simp only; omega, by simp only; omega, by simp only; omega⟩
  · obtain ⟨d', hd'⟩ : ∃ d', armD d at_ kp = d' := ⟨_, rfl⟩
    rw [hd'] at e1 ⊢
    have a1 : d'.all = d.all := by rw [e1]
    have a2 : d'.off = false := by rw [e1]; exact hc.off
    have a3 : d'.armed = true := by rw [e1]
    have a4 : d'.left = (at_ : Int) := by rw [e1]
    have a5 : d'.keep = (kp : Int) := by rw [e1]
    have hl : d'.all.length = n * 128 := by rw [a1]; exact hk.len
    have hkp' : 0 ≤ d'.keep ∧ d'.keep ≤ 128 := by rw [a5]; omega
    clear e1 hd'
    by_cases c1 : at_ = blkN b.length + 1
    · obtain ⟨h1, h2, -⟩ := saveD_ok (gen := K + 1) hl hkp' hf hb a2 (.inr (by rw [a4]; omega))
      rw [h1]
      rw [a1] at h2
      exact .whole c1 (hk.save hf hK hb h2)
    · by_cases c2 : at_ = blkN b.length
      · obtain ⟨h1, h2, h3⟩ := saveD_head (gen := K + 1) hl hkp' hf hb a2 a3 (by rw [a4, c2])
        rw [h1]
        rw [a1, a5] at h2 h3
        by_cases c3 : kp = 128
        · exact .head c2 c3 (hk.save hf hK hb (h2 (by omega)))
        · exact .torn (by omega) (fun h => c3 h.2) (hk.torn hf (h3 (by omega)))
      · obtain ⟨h1, h2⟩ := saveD_part (gen := K + 1) hl hkp' hf hb a2 a3 (by rw [a4]; omega) (by rw [a4]; omega)
        rw [h1]
        rw [a1] at h2
        exact .torn (by omega) (fun h => c2 h.1) (hk.torn hf h2)
theorem kk1 (b : Nat) (h : b ≤ 255) : IntKind.i64.wrap ((b : Int) + 1) = ((b + 1 : Nat) : Int) := by rw [IntKind.wrap_i64]; omega
theorem kk2 (x : UInt8) (m : Nat) : (nB x).tmod (m : Int) = ((x.toNat % m : Nat) : Int) := by rw [nB_tmod]; unfold nB; simp
theorem kk3 (x : UInt8) : wrap64 (nB x) = nB x := by have := u8_lo x; have := u8_hi x; unfold wrap64; omega
theorem VL.rd {W w0 : World} {v g r n f : Nat} {d : D} {w : World} (q : VL W w0 v g r n f d w) {A : Option Addr} {xs : List Value} (h : Rd W A xs) : Rd w A xs := h.below q.below
theorem VL.ne {W w0 : World} {v g r n f : Nat} {d : D} {w : World} (q : VL W w0 v g r n f d w) {A : Option Addr} {xs : List UInt8} (h : Rd W A (bys xs)) : 0 < xs.length → ∀ a, A = some a → a.block ≠ g ∧ a.block ≠ r := by
  intro h0 a ha
  obtain ⟨a', ha', hc⟩ := h 0 (by rw [bys_length]; exact h0)
  rw [ha] at ha'
  cases ha'
  have h1 := World.block_lt_of_cell? W _ hc
  rw [block_add] at h1
  have := q.gr
  omega
set_option maxRecDepth 10000 in
set_option maxHeartbeats 4000000 in
theorem keeps_long (A : Option Addr) (n c : Nat) (B : Option Addr) (m c2 : Nat) (x y : Int) (hn : n ≤ maxLen) (hm : m ≤ maxLen) (h : 6 < n ∨ 1000 < m) (w : World) :
    Calls Try.prog 3 #[.slice A n c, .slice B m c2, .int .u8 x, .int .u8 y] w fun e w' => e = .returned (.bool true) ∧ Below w.heap.size w w' := by
  unfold maxLen at hn hm
  by_cases c1 : 6 < n
  · have d1 : decide ((n : Int) > 6) = true := by rw [decide_eq_true_eq]; omega
    have d2 : decide (6 < n) = true := decide_eq_true c1
    clear hn hm h c1
    go_enter Try.func3, Try.ntmps3
    go_wp2_with fail
    refine (alive10 _).mono ?_
    rintro e w1 ⟨rfl, hb1⟩
    have HB1 := Lib.hid hb1
    clear hb1
    go_wp2_with fail
    go_ret
    exact ⟨rfl, HB1.out⟩
  · have c3 : 1000 < m := by omega
    have d1 : decide ((n : Int) > 6) = false := by rw [decide_eq_false_iff_not]; omega
    have d2 : decide (6 < n) = false := decide_eq_false c1
    have d3 : decide ((m : Int) > 1000) = true := by rw [decide_eq_true_eq]; omega
    have d4 : decide (1000 < m) = true := decide_eq_true c3
    clear hn hm h c1 c3
    go_enter Try.func3, Try.ntmps3
    go_wp2_with fail
    refine (alive10 _).mono ?_
    rintro e w1 ⟨rfl, hb1⟩
    have HB1 := Lib.hid hb1
    clear hb1
    go_wp2_with fail
    go_ret
    exact ⟨rfl, HB1.out⟩
theorem part' {w : World} {A : Option Addr} {ps : List (Option Addr × Nat × List UInt8)} (h : Rd w A (sls ps)) {k : Nat} (hk : k < ps.length) : ∃ a, A = some a ∧ w.cell? (a.add k) = some (.slice ps[k].1 ps[k].2.2.length ps[k].2.1) := h.part hk
set_option maxRecDepth 10000 in
set_option maxHeartbeats 8000000 in
theorem keeps_short (A : Option Addr) (c : Nat) (ps : List (Option Addr × Nat × List UInt8)) (B : Option Addr) (c2 : Nat) (last : List UInt8) (x y : UInt8) (hl : ps.length ≤ 6) (hm : last.length ≤ 1000) (hc2 : last.length ≤ c2) (hB : B = none → c2 = 0) (w : World)
    (hR : Rd w A (sls ps)) (hps : ∀ p ∈ ps, (p.1 = none → p.2.1 = 0) ∧ p.2.2.length ≤ maxLen ∧ p.2.2.length ≤ p.2.1 ∧ Rd w p.1 (bys p.2.2)) (hRB : Rd w B (bys last)) :
    Calls Try.prog 3 #[.slice A ps.length c, .slice B last.length c2, .int .u8 (nB x), .int .u8 (nB y)] w fun e w' => e = .returned (.bool true) ∧ Below w.heap.size w w' := by
  have d1 : decide ((ps.length : Int) > 6) = false := by rw [decide_eq_false_iff_not]; omega
  have d2 : decide (6 < ps.length) = false := decide_eq_false (by omega)
  have d3 : decide ((last.length : Int) > 1000) = false := by rw [decide_eq_false_iff_not]; omega
  have d4 : decide (1000 < last.length) = false := decide_eq_false (by omega)
  have HR := Lib.hid hR
  have HPS := Lib.hid hps
  have HRB := Lib.hid hRB
  have HBn := Lib.hid hB
  have HC2 := Lib.hid hc2
  clear hR hps hRB hB hc2
  go_enter Try.func3, Try.ntmps3
  go_wp2_with fail
  refine (Dk.New_calls 512 (by decide) (by decide) w).mono ?_
  rintro e w1 ⟨g, r, rfl, hg, hr, hI, hb⟩
  have HI := Lib.hid hI
  have HB := Lib.hid hb
  clear hI hb d1 d2 d3 d4
  go_wp2_with fail
  refine (New_calls HI.out 0 (by decide) (by decide)).mono ?_
  rintro e w2 ⟨v, rfl, hv, hvg, hb2⟩
  have L2 := Lib.hid (VL.start HI.out HB.out hg hr hv hb2)
  have K0 := Lib.hid (kept0 512 0 (by decide) (lastOf ps 0))
  have C0 := Lib.hid (calm0 512)
  generalize D0 512 = d0 at *
  clear hv hb2 HI HB hvg hg hr
  go_wp2_with fail
  go_loopw [13] (fun v13 wr => ∃ (k : Nat) (d : D), k ≤ ps.length ∧ v13 = .int .i64 k ∧ Hid (Calm d (k * 1000)) ∧ Hid (Kept 512 0 k (lastOf ps k) d.all) ∧ Hid (VL w w2 v g r 512 0 d wr)) (fun v13 _ => ps.length - (intOf v13).toNat)
  case atStart => exact ⟨0, d0, Nat.zero_le _, rfl, C0, K0, L2⟩
  case round =>
    clear C0 K0 L2
    obtain ⟨k, d, hk, rfl, HCa, HK, HL⟩ := hrel
    by_cases hlt : k < ps.length
    · have e1 : decide ((k : Int) < (ps.length : Int)) = true := by rw [decide_eq_true_eq]; omega
      have e2 : decide (k < ps.length) = true := decide_eq_true hlt
      obtain ⟨a, rfl, hc⟩ := part' (HL.out.rd HR.out) hlt
      obtain ⟨p1, p2, p3, p4⟩ := HPS.out ps[k] (List.getElem_mem hlt)
      have P1 := Lib.hid p1
      have P3 := Lib.hid p3
      have P4 := Lib.hid p4
      clear p1 p3 p4
      by_cases hlong : 1000 < ps[k].2.2.length
      · unfold maxLen at p2
        have q1 : decide ((ps[k].2.2.length : Int) > 1000) = true := by rw [decide_eq_true_eq]; omega
        have q2 : decide (1000 < ps[k].2.2.length) = true := decide_eq_true hlong
        go_wp2_with fail
        refine (alive10 _).mono ?_
        rintro e w3 ⟨rfl, hb3⟩
        have HB3 := Lib.hid (HL.out.below.trans (hb3.mono HL.out.below.size))
        clear hb3
        go_wp2_with fail
        go_ret
        exact ⟨rfl, HB3.out⟩
      · have q1 : decide ((ps[k].2.2.length : Int) > 1000) = false := by rw [decide_eq_false_iff_not]; omega
        have q2 : decide (1000 < ps[k].2.2.length) = false := decide_eq_false hlong
        have f1 : IntKind.i64.wrap ((k : Int) + 1) = ((k + 1 : Nat) : Int) := by rw [IntKind.wrap_i64]; omega
        have hS := Save_calls HL.out.vs HCa.out.dok (by omega) (by decide) (by decide) (k + 1) (by omega) ps[k].1 ps[k].2.2.length ps[k].2.1 ps[k].2.2 rfl (by omega) P3.out P1.out (HL.out.rd P4.out) (HL.out.ne P4.out)
        obtain ⟨s1, s2, s3, s4⟩ := calm_save HCa.out HK.out (by decide) (by omega) (b := ps[k].2.2) (by omega)
        rw [s1] at hS
        have HS := Lib.hid hS
        have hbk : blkN ps[k].2.2.length ≤ 255 := by unfold blkN; omega
        have HCb := Lib.hid (show Calm (saveD d 0 (k + 1) ps[k].2.2).2 ((k + 1) * 1000) from ⟨s2.off, s2.armed, s2.dok.mono (by omega)⟩)
        rw [← lastOf_succ ps k hlt] at s3
        have HKb := Lib.hid s3
        rw [lastOf_succ ps k hlt] at HKb
        clear hS s1 s2 s3 s4 p2
        go_wp2_with fail
        refine HS.out.mono ?_
        rintro e w3 ⟨rfl, p3⟩
        have HL3 := Lib.hid (HL.out.set p3)
        clear p3 HS
        go_wp2_with fail
        go_roundw
        case rel => exact ⟨k + 1, _, by omega, by simp, HCb, by rw [lastOf_succ ps k hlt]; exact HKb, HL3⟩
        case measure => simp [intOf]; omega
    · obtain rfl : k = ps.length := by omega
      have e1 : decide ((ps.length : Int) < (ps.length : Int)) = false := by rw [decide_eq_false_iff_not]; omega
      have hbk : blkN last.length ≤ 255 := blk_le (by omega)
      have HBk := Lib.hid (Blocks_calls last.length (by omega) wr)
      obtain ⟨bl, hbl⟩ : ∃ bl, blkN last.length = bl := ⟨_, rfl⟩
      rw [hbl] at HBk hbk
      have HBL := Lib.hid hbl
      have g1 := kk1 bl hbk
      have g2 := kk1 (bl + 1) (by unfold blkN at hbl; omega)
      have g3 : (nB x).tmod ((bl : Int) + 1 + 1) = ((x.toNat % (bl + 1 + 1) : Nat) : Int) := kk2 x (bl + 1 + 1)
      have g4 : (nB y).tmod 129 = ((y.toNat % 129 : Nat) : Int) := kk2 y 129
      have g5 := kk3 x
      have g6 := kk3 y
      obtain ⟨at_, hat⟩ : ∃ at_, x.toNat % (bl + 1 + 1) = at_ := ⟨_, rfl⟩
      obtain ⟨kp, hkp⟩ : ∃ kp, y.toNat % 129 = kp := ⟨_, rfl⟩
      have ha1 : at_ ≤ bl + 1 := by have := Nat.mod_lt x.toNat (show 0 < bl + 1 + 1 by omega); omega
      have hk1 : kp ≤ 128 := by have := Nat.mod_lt y.toNat (show 0 < 129 by decide); omega
      rw [hat] at g3
      rw [hkp] at g4
      obtain ⟨o1, o2, o3⟩ := out_of (b := last) HCa.out HK.out (by decide) (by omega) (by omega) at_ kp (by rw [hbl]; exact ha1) hk1
      have hA := Dk.Arm_calls HL.out.vs.is at_ kp
      rw [o1] at hA
      have HA := Lib.hid hA
      have O2 := Lib.hid o2
      have O3 := Lib.hid o3
      clear hbl hat hkp hA o1 o2 o3 HCa HK
      generalize armD d at_ kp = dA at *
      go_wp2_with fail
      refine HBk.out.mono ?_
      rintro e w3 ⟨rfl, rfl⟩
      go_wp2_with fail
      refine HA.out.mono ?_
      rintro e w4 ⟨rfl, o4, i4⟩
      have L4 := Lib.hid (HL.out.turn o4 i4)
      have f1 : IntKind.i64.wrap ((ps.length : Int) + 1) = ((ps.length + 1 : Nat) : Int) := by rw [IntKind.wrap_i64]; omega
      have hS := Save_calls L4.out.vs O2.out (by omega) (by decide) (by decide) (ps.length + 1) (by omega) B last.length c2 last rfl (by omega) HC2.out HBn.out (L4.out.rd HRB.out) (L4.out.ne HRB.out)
      have q1 := dok_save (f := 0) (gen := ps.length + 1) (b := last) O2.out
      generalize (saveD dA 0 (ps.length + 1) last) = pr at *
      obtain ⟨E, d3⟩ := pr
      have HS := Lib.hid hS
      have Q1 := Lib.hid q1
      clear o4 i4 hS q1 HL HA O2
      go_wp2_with fail
      refine HS.out.mono ?_
      rintro e w5 ⟨rfl, p5⟩
      have L5 := Lib.hid (L4.out.set p5)
      clear p5 HS L4
      go_wp2_with fail
      refine (Dk.Power_calls L5.out.vs.is).mono ?_
      rintro e w6 ⟨rfl, o6, i6⟩
      have L6 := Lib.hid (L5.out.turn o6 i6)
      clear o6 i6 L5 HBk
      have h6 := O3.out
      obtain ⟨d6, hd6⟩ : ∃ d6 : D, ({ d3 with off := false, armed := false } : D) = d6 := ⟨_, rfl⟩
      have ho6 : d6.off = false := by rw [← hd6]
      have HO6 := Lib.hid ho6
      rw [show d3.all = d6.all from by rw [← hd6]] at h6
      rw [show ({ d3 with off := false, armed := false } : D) = d6 from hd6] at L6
      clear O3 hd6 ho6 g1 g2 g3 g4 g5 g6 Q1
      have s1 : IntKind.i64.wrap ((bl : Int) + 1 - 1) = (bl : Int) := by rw [IntKind.wrap_i64]; omega
      generalize E = E0 at *
      cases h6 with
      | whole c1 hk =>
        rw [HBL.out] at c1
        have t1 : ((at_ : Int) == (bl : Int) + 1) = true := by rw [beq_iff_eq]; omega
        have HKK := Lib.hid hk
        clear c1 hk
        go_wp2_with fail
        refine (LoadTop_calls L6.out.vs HO6.out (by decide) (by decide) HKK.out (by omega)).mono ?_
        rintro e w9 ⟨⟨A9, c9, rfl, hc9, hn9, hr9, -⟩, hb9⟩
        have L9 := Lib.hid (L6.out.call hb9).below
        have kx := run_string_of (w := w9) Try.underlying23 Try.underlying5 Try.underlying9 A9 last.length c9 last rfl hn9 hr9
        have ky := run_string_of (w := w9) Try.underlying23 Try.underlying5 Try.underlying9 B last.length c2 last rfl HBn.out (HRB.out.below L9.out)
        clear hc9 hn9 hr9 hb9 L6 HKK
        go_wp2_with fail
        refine (alive10 _).mono ?_
        rintro e wA ⟨rfl, hbA⟩
        have HBA := Lib.hid (L9.out.trans (hbA.mono L9.out.size))
        clear hbA
        go_wp2_with fail
        go_ret
        exact ⟨rfl, HBA.out⟩
      | head c1 c3 hk =>
        rw [HBL.out] at c1
        have t1 : ((at_ : Int) == (bl : Int) + 1) = false := by rw [beq_eq_false_iff_ne]; omega
        have t2 : ((at_ : Int) == (bl : Int)) = true := by rw [beq_iff_eq]; omega
        have t3 : ((kp : Int) == 128) = true := by rw [beq_iff_eq]; omega
        clear c3
        have HKK := Lib.hid hk
        clear c1 hk
        go_wp2_with fail
        refine (LoadTop_calls L6.out.vs HO6.out (by decide) (by decide) HKK.out (by omega)).mono ?_
        rintro e w9 ⟨⟨A9, c9, rfl, hc9, hn9, hr9, -⟩, hb9⟩
        have L9 := Lib.hid (L6.out.call hb9).below
        have kx := run_string_of (w := w9) Try.underlying23 Try.underlying5 Try.underlying9 A9 last.length c9 last rfl hn9 hr9
        have ky := run_string_of (w := w9) Try.underlying23 Try.underlying5 Try.underlying9 B last.length c2 last rfl HBn.out (HRB.out.below L9.out)
        clear hc9 hn9 hr9 hb9 L6 HKK
        go_wp2_with fail
        refine (alive10 _).mono ?_
        rintro e wA ⟨rfl, hbA⟩
        have HBA := Lib.hid (L9.out.trans (hbA.mono L9.out.size))
        clear hbA
        go_wp2_with fail
        go_ret
        exact ⟨rfl, HBA.out⟩
      | torn c1 c3 hk =>
        rw [HBL.out] at c1 c3
        have t1 : ((at_ : Int) == (bl : Int) + 1) = false := by rw [beq_eq_false_iff_ne]; omega
        by_cases hz : ps.length = 0
        · have u1 : ((ps.length : Int) == 0) = true := by rw [beq_iff_eq]; omega
          rw [hz] at hk
          by_cases c4 : at_ = bl
          · have t2 : ((at_ : Int) == (bl : Int)) = true := by rw [beq_iff_eq]; omega
            have t3 : ((kp : Int) == 128) = false := by rw [beq_eq_false_iff_ne]; omega
            clear c1 c3 c4 hz
            have HKK := Lib.hid hk
            clear hk
            go_wp2_with fail
            refine (LoadNone_calls L6.out.vs HO6.out (by decide) (by decide) HKK.out).mono ?_
            rintro e w9 ⟨rfl, hb9⟩
            have L9 := Lib.hid (L6.out.call hb9).below
            clear hb9 L6 HKK
            go_wp2_with fail
            refine (alive10 _).mono ?_
            rintro e wA ⟨rfl, hbA⟩
            have HBA := Lib.hid (L9.out.trans (hbA.mono L9.out.size))
            clear hbA
            go_wp2_with fail
            go_ret
            exact ⟨rfl, HBA.out⟩
          · have t2 : ((at_ : Int) == (bl : Int)) = false := by rw [beq_eq_false_iff_ne]; omega
            clear c1 c3 c4 hz
            have HKK := Lib.hid hk
            clear hk
            go_wp2_with fail
            refine (LoadNone_calls L6.out.vs HO6.out (by decide) (by decide) HKK.out).mono ?_
            rintro e w9 ⟨rfl, hb9⟩
            have L9 := Lib.hid (L6.out.call hb9).below
            clear hb9 L6 HKK
            go_wp2_with fail
            refine (alive10 _).mono ?_
            rintro e wA ⟨rfl, hbA⟩
            have HBA := Lib.hid (L9.out.trans (hbA.mono L9.out.size))
            clear hbA
            go_wp2_with fail
            go_ret
            exact ⟨rfl, HBA.out⟩
        · have u1 : ((ps.length : Int) == 0) = false := by rw [beq_eq_false_iff_ne]; omega
          have hpos : 0 < ps.length := by omega
          by_cases c4 : at_ = bl
          · have t2 : ((at_ : Int) == (bl : Int)) = true := by rw [beq_iff_eq]; omega
            have t3 : ((kp : Int) == 128) = false := by rw [beq_eq_false_iff_ne]; omega
            clear c1 c3 c4 hz
            have HKK := Lib.hid hk
            clear hk
            go_wp2_with fail
            refine (LoadTop_calls L6.out.vs HO6.out (by decide) (by decide) HKK.out hpos).mono ?_
            rintro e w9 ⟨⟨A9, c9, rfl, hc9, hn9, hr9, -⟩, hb9⟩
            have L9 := Lib.hid (L6.out.call hb9).below
            have kx := fun W (hb : Below w9.heap.size w9 W) => run_string_of (w := W) Try.underlying23 Try.underlying5 Try.underlying9 A9 _ c9 (lastOf ps ps.length) rfl hn9 (hr9.below hb)
            obtain ⟨a, rfl, hcl⟩ := part' HR.out (k := ps.length - 1) (by omega)
            obtain ⟨p1, p2, p3, p4⟩ := HPS.out ps[ps.length - 1] (List.getElem_mem (by omega))
            have hlo : lastOf ps ps.length = ps[ps.length - 1].2.2 := by unfold lastOf; rw [List.getElem?_eq_getElem (by omega)]; rfl
            rw [← hlo] at hcl p4
            have ky := fun W (hb : Below w9.heap.size w9 W) => run_string_of (w := W) Try.underlying23 Try.underlying5 Try.underlying9 ps[ps.length - 1].1 _ ps[ps.length - 1].2.1 (lastOf ps ps.length) rfl p1 (p4.below (L9.out.trans (hb.mono L9.out.size)))
            have kc := fun W (hb : Below w9.heap.size w9 W) => ((L9.out.trans (hb.mono L9.out.size)).cell (World.block_lt_of_cell? w _ hcl)).trans hcl
            have f2 : IntKind.i64.wrap ((ps.length : Int) - 1) = ((ps.length - 1 : Nat) : Int) := by rw [IntKind.wrap_i64]; omega
            have f3 : ((ps.length : Int) - 1).toNat = ps.length - 1 := by omega
            have f4 : ps.length - 1 < ps.length := by omega
            clear hc9 hn9 hr9 hb9 L6 HKK hlo p1 p2 p3 p4 hcl
            generalize lastOf ps ps.length = X at *
            generalize ps[ps.length - 1].1 = AX at *
            generalize ps[ps.length - 1].2.1 = cX at *
            have b1 : Below w9.heap.size w9 w9.drew := (Below.refl _ _).drew
            obtain ⟨J, hJ⟩ : ∃ J : World → Prop, ∀ W, J W ↔ Below w9.heap.size w9 W := ⟨_, fun _ => Iff.rfl⟩
            have HJ := Lib.hid hJ
            clear hJ
            have K := fun W (hb : J W) => And.intro (kx W ((HJ.out W).1 hb)) (And.intro (ky W ((HJ.out W).1 hb)) (kc W ((HJ.out W).1 hb)))
            have hj1 := (HJ.out _).2 b1
            clear kx ky kc b1
            go_wp2_with fail
            refine region_inv J (by kernel_rfl) (by kernel_rfl) hj1 ?_
            repeat (first | (apply inv_yes; (· go_simp); (· intro w1 h1; have K1 := K w1 h1; go_simp; exact ⟨rfl, h1⟩); (· go_simp; rfl)) | (apply inv_no; (· go_simp); (· go_simp; rfl)))
            apply inv_yes
            · go_simp
            · intro w1 h1; go_simp; exact (alive10 _).mono fun _ _ h => ⟨h.1, (HJ.out _).2 (((HJ.out _).1 h1).trans (h.2.mono ((HJ.out _).1 h1).size))⟩
            · go_simp; rfl
            repeat (first | (apply inv_yes; (· go_simp); (· intro w1 h1; have K1 := K w1 h1; go_simp; exact ⟨rfl, h1⟩); (· go_simp; rfl)) | (apply inv_no; (· go_simp); (· go_simp; rfl)))
            refine wpInv_nil (fun w5 h5 => ?_)
            have H5 := Lib.hid (L9.out.trans (((HJ.out _).1 h5).mono L9.out.size))
            clear K h5
            go_wp2_with fail
            go_ret
            exact ⟨rfl, H5.out⟩
          · have t2 : ((at_ : Int) == (bl : Int)) = false := by rw [beq_eq_false_iff_ne]; omega
            clear c1 c3 c4 hz
            have HKK := Lib.hid hk
            clear hk
            go_wp2_with fail
            refine (LoadTop_calls L6.out.vs HO6.out (by decide) (by decide) HKK.out hpos).mono ?_
            rintro e w9 ⟨⟨A9, c9, rfl, hc9, hn9, hr9, -⟩, hb9⟩
            have L9 := Lib.hid (L6.out.call hb9).below
            have kx := fun W (hb : Below w9.heap.size w9 W) => run_string_of (w := W) Try.underlying23 Try.underlying5 Try.underlying9 A9 _ c9 (lastOf ps ps.length) rfl hn9 (hr9.below hb)
            obtain ⟨a, rfl, hcl⟩ := part' HR.out (k := ps.length - 1) (by omega)
            obtain ⟨p1, p2, p3, p4⟩ := HPS.out ps[ps.length - 1] (List.getElem_mem (by omega))
            have hlo : lastOf ps ps.length = ps[ps.length - 1].2.2 := by unfold lastOf; rw [List.getElem?_eq_getElem (by omega)]; rfl
            rw [← hlo] at hcl p4
            have ky := fun W (hb : Below w9.heap.size w9 W) => run_string_of (w := W) Try.underlying23 Try.underlying5 Try.underlying9 ps[ps.length - 1].1 _ ps[ps.length - 1].2.1 (lastOf ps ps.length) rfl p1 (p4.below (L9.out.trans (hb.mono L9.out.size)))
            have kc := fun W (hb : Below w9.heap.size w9 W) => ((L9.out.trans (hb.mono L9.out.size)).cell (World.block_lt_of_cell? w _ hcl)).trans hcl
            have f2 : IntKind.i64.wrap ((ps.length : Int) - 1) = ((ps.length - 1 : Nat) : Int) := by rw [IntKind.wrap_i64]; omega
            have f3 : ((ps.length : Int) - 1).toNat = ps.length - 1 := by omega
            have f4 : ps.length - 1 < ps.length := by omega
            clear hc9 hn9 hr9 hb9 L6 HKK hlo p1 p2 p3 p4 hcl
            generalize lastOf ps ps.length = X at *
            generalize ps[ps.length - 1].1 = AX at *
            generalize ps[ps.length - 1].2.1 = cX at *
            have b1 : Below w9.heap.size w9 w9.drew := (Below.refl _ _).drew
            obtain ⟨J, hJ⟩ : ∃ J : World → Prop, ∀ W, J W ↔ Below w9.heap.size w9 W := ⟨_, fun _ => Iff.rfl⟩
            have HJ := Lib.hid hJ
            clear hJ
            have K := fun W (hb : J W) => And.intro (kx W ((HJ.out W).1 hb)) (And.intro (ky W ((HJ.out W).1 hb)) (kc W ((HJ.out W).1 hb)))
            have hj1 := (HJ.out _).2 b1
            clear kx ky kc b1
            go_wp2_with fail
            refine region_inv J (by kernel_rfl) (by kernel_rfl) hj1 ?_
            repeat (first | (apply inv_yes; (· go_simp); (· intro w1 h1; have K1 := K w1 h1; go_simp; exact ⟨rfl, h1⟩); (· go_simp; rfl)) | (apply inv_no; (· go_simp); (· go_simp; rfl)))
            apply inv_yes
            · go_simp
            · intro w1 h1; go_simp; exact (alive10 _).mono fun _ _ h => ⟨h.1, (HJ.out _).2 (((HJ.out _).1 h1).trans (h.2.mono ((HJ.out _).1 h1).size))⟩
            · go_simp; rfl
            repeat (first | (apply inv_yes; (· go_simp); (· intro w1 h1; have K1 := K w1 h1; go_simp; exact ⟨rfl, h1⟩); (· go_simp; rfl)) | (apply inv_no; (· go_simp); (· go_simp; rfl)))
            refine wpInv_nil (fun w5 h5 => ?_)
            have H5 := Lib.hid (L9.out.trans (((HJ.out _).1 h5).mono L9.out.size))
            clear K h5
            go_wp2_with fail
            go_ret
            exact ⟨rfl, H5.out⟩
end Go.Proofs.Ytmlgkahadgpaiaa.Va
