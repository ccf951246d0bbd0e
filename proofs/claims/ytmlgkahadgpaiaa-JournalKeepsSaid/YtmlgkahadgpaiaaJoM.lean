/- Chapter 09: the walk of JournalKeeps. -/
import Derived.Test.YtmlgkahadgpaiaaJoL
import Derived.Test.YtmlgkahadgpaiaaJoK
import Derived.Test.YtmlgkahadgpaiaaOpens
namespace Go.Proofs.Ytmlgkahadgpaiaa.Jo
open Go.RowKit _root_.Go.Proofs.Ytmlgkahadgpaiaa.Own
open Go.Proofs.Ytmlgkahadgpaiaa.Fr
open Go.Proofs.Ytmlgkahadgpaiaa.Dk (D Is D0 torn putRow rowB wst DOk rowB_length armE armD)
set_option linter.unusedVariables false
set_option linter.unusedSimpArgs false
theorem arm_ok (d : D) (a b : Nat) (hb : b ≤ 128) : armE a b = 0 ∧ (armD d a b).all = d.all ∧ (armD d a b).off = d.off ∧ (armD d a b).armed = true ∧ (armD d a b).left = (a : Int) ∧ (armD d a b).keep = (b : Int) ∧ (armD d a b).writes = d.writes := by
  have hne : ¬ ((a : Int) < 0 ∨ (b : Int) < 0 ∨ (b : Int) > 128) := by omega
  rw [show armD d a b = { d with armed := true, left := a, keep := b } from if_neg hne]
  exact ⟨if_neg hne, rfl, rfl, rfl, rfl, rfl, rfl⟩
theorem part' {w : World} {A : Option Addr} {ps : List (Option Addr × Nat × List UInt8)} (h : Rd w A (sls ps)) {k : Nat} (hk : k < ps.length) : ∃ a, A = some a ∧ w.cell? (a.add k) = some (.slice ps[k].1 ps[k].2.2.length ps[k].2.1) := h.part hk
theorem JL.rd {W w0 : World} {j g r n f m : Nat} {d : D} {G N : Nat} {w : World} (q : JL W w0 j g r n f m d G N w) {A : Option Addr} {xs : List Value} (h : Rd W A xs) : Rd w A xs := h.below q.below
set_option maxRecDepth 10000 in
set_option maxHeartbeats 4000000 in
theorem keeps_long (A : Option Addr) (n c : Nat) (x1 x2 y1 y2 : UInt8) (hn : n ≤ maxLen) (h : 10 < n) (w : World) :
    Calls Try.prog 5 #[.slice A n c, .agg #[.int .u8 (nB x1), .int .u8 (nB x2)], .agg #[.int .u8 (nB y1), .int .u8 (nB y2)]] w fun e w' => e = .returned (.bool true) ∧ Below w.heap.size w w' := by
  unfold maxLen at hn
  have d1 : decide ((n : Int) > 10) = true := by rw [decide_eq_true_eq]; omega
  have d2 : decide (10 < n) = true := decide_eq_true h
  have hb0 : Below w.heap.size w ((w.alloc (.cells #[.int .u8 (nB x1), .int .u8 (nB x2)] 43)).alloc (.cells #[.int .u8 (nB y1), .int .u8 (nB y2)] 43)) := ((Below.refl _ _).alloc (Nat.le_refl _) _).alloc (by simp) _
  have HB0 := Lib.hid hb0
  clear hn h hb0
  go_enter Try.func5, Try.ntmps5
  go_wp2_with fail
  refine (alive09 _).mono ?_
  rintro e w1 ⟨rfl, hb1⟩
  have HB1 := Lib.hid (HB0.out.trans (hb1.mono HB0.out.size))
  clear hb1
  go_wp2_with fail
  go_ret
  exact ⟨rfl, HB1.out⟩
set_option maxRecDepth 10000 in
set_option maxHeartbeats 8000000 in
theorem keeps_short (A : Option Addr) (c : Nat) (ps : List (Option Addr × Nat × List UInt8)) (x1 x2 y1 y2 : UInt8) (hl : ps.length ≤ 10) (hcp : ps.length ≤ c) (w : World)
    (hR : Rd w A (sls ps)) (hps : ∀ p ∈ ps, (p.1 = none → p.2.1 = 0) ∧ p.2.2.length ≤ maxLen ∧ p.2.2.length ≤ p.2.1 ∧ Rd w p.1 (bys p.2.2)) :
    Calls Try.prog 5 #[.slice A ps.length c, .agg #[.int .u8 (nB x1), .int .u8 (nB x2)], .agg #[.int .u8 (nB y1), .int .u8 (nB y2)]] w fun e w' => e = .returned (.bool true) ∧ Below w.heap.size w w' := by
  have d1 : decide ((ps.length : Int) > 10) = false := by rw [decide_eq_false_iff_not]; omega
  have d2 : decide (10 < ps.length) = false := decide_eq_false (by omega)
  obtain ⟨W, hW⟩ : ∃ W, (w.alloc (.cells #[.int .u8 (nB x1), .int .u8 (nB x2)] 43)).alloc (.cells #[.int .u8 (nB y1), .int .u8 (nB y2)] 43) = W := ⟨_, rfl⟩
  have hb0 : Below w.heap.size w W := by rw [← hW]; exact ((Below.refl _ _).alloc (Nat.le_refl _) _).alloc (by simp) _
  have hx : W.heap[w.heap.size]? = some (.cells ⟨[.int .u8 (nB x1), .int .u8 (nB x2)]⟩ 43 (0, 0)) := by
    rw [← hW, Below.heap_alloc _ _ _ (by simp)]; exact heap_alloc_new w _
  have hy : W.heap[w.heap.size + 1]? = some (.cells ⟨[.int .u8 (nB y1), .int .u8 (nB y2)]⟩ 43 (0, 0)) := by
    rw [← hW]
    have := heap_alloc_new (w.alloc (.cells #[.int .u8 (nB x1), .int .u8 (nB x2)] 43)) (.cells #[.int .u8 (nB y1), .int .u8 (nB y2)] 43)
    rw [World.size_alloc] at this; exact this
  have HB0 := Lib.hid hb0
  have HR := Lib.hid (hR.below hb0)
  have HPS := Lib.hid (fun p hp => show (p.1 = none → p.2.1 = 0) ∧ p.2.2.length ≤ maxLen ∧ p.2.2.length ≤ p.2.1 ∧ Rd W p.1 (bys p.2.2) from ⟨(hps p hp).1, (hps p hp).2.1, (hps p hp).2.2.1, (hps p hp).2.2.2.below hb0⟩)
  have cX := fun (i : Nat) => cell_of_row W w.heap.size i _ _ _ hx
  have cY := fun (i : Nat) => cell_of_row W (w.heap.size + 1) i _ _ _ hy
  have HCX := Lib.hid (show W.cell? ⟨w.heap.size, 0, none⟩ = some (.int .u8 (nB x1)) ∧ W.cell? ⟨w.heap.size, 1, none⟩ = some (.int .u8 (nB x2)) from ⟨cX 0, cX 1⟩)
  have HCY := Lib.hid (show W.cell? ⟨w.heap.size + 1, 0, none⟩ = some (.int .u8 (nB y1)) ∧ W.cell? ⟨w.heap.size + 1, 1, none⟩ = some (.int .u8 (nB y2)) from ⟨cY 0, cY 1⟩)
  obtain ⟨B, hB⟩ : ∃ B : Nat → List UInt8, ∀ q, B q = (ps.map fun p => p.2.2).getD q [] := ⟨_, fun _ => rfl⟩
  have HBq := Lib.hid hB
  have HW := Lib.hid hW
  clear hR hps hb0 hx hy cX cY hW hB
  go_enter Try.func5, Try.ntmps5
  go_wp2_with fail
  rw [HW.out]
  refine (Dk.New_calls 30 (by decide) (by decide) W).mono ?_
  rintro e w1 ⟨g, r, rfl, hg, hr, hI, hb⟩
  have HI := Lib.hid hI
  have HB := Lib.hid hb
  clear hI hb d1 d2
  go_wp2_with fail
  refine (New_calls HI.out 3 12 (by decide) (by decide) (by decide) (by decide)).mono ?_
  rintro e w2 ⟨x, rfl, hv, hvg, hb2⟩
  have L2 := Lib.hid (JL.start HI.out HB.out hg hr (Nat.le_trans HB.out.size hvg) hv hb2)
  clear hv hb2 HI HB hvg hg hr
  have g1 : (nB x1).tmod 24 = ((x1.toNat % 24 : Nat) : Int) := kk2 x1 24
  have g2 : (nB x2).tmod 129 = ((x2.toNat % 129 : Nat) : Int) := kk2 x2 129
  have g3 := kk3 x1
  have g4 := kk3 x2
  have g5 : IntKind.i64.wrap (nB x1) = nB x1 := by rw [IntKind.wrap_i64]; have := u8_lo x1; have := u8_hi x1; omega
  have g6 : IntKind.i64.wrap (nB x2) = nB x2 := by rw [IntKind.wrap_i64]; have := u8_lo x2; have := u8_hi x2; omega
  obtain ⟨n0, hn0⟩ : ∃ n0, x1.toNat % 24 = n0 := ⟨_, rfl⟩
  obtain ⟨k, hk⟩ : ∃ k, x2.toNat % 129 = k := ⟨_, rfl⟩
  have hn1 : n0 ≤ 24 := by have := Nat.mod_lt x1.toNat (show 0 < 24 by decide); omega
  have hk1 : k ≤ 128 := by have := Nat.mod_lt x2.toNat (show 0 < 129 by decide); omega
  rw [hn0] at g1
  rw [hk] at g2
  have HN1 := Lib.hid hn1
  have HK1 := Lib.hid hk1
  clear hn0 hk hn1 hk1
  obtain ⟨J, hJ⟩ : ∃ J : World → Prop, ∀ V, J V ↔ Below w2.heap.size w2 V := ⟨_, fun _ => Iff.rfl⟩
  have HJ := Lib.hid hJ
  have K := fun V (hb : J V) => And.intro (((L2.out.call ((hJ V).1 hb)).below.cell (World.block_lt_of_cell? W _ HCX.out.1)).trans HCX.out.1) (((L2.out.call ((hJ V).1 hb)).below.cell (World.block_lt_of_cell? W _ HCX.out.2)).trans HCX.out.2)
  have hj1 := (HJ.out w2.drew).2 (Below.refl _ _).drew
  clear hJ
  go_wp2_with fail
  refine region_inv J (by kernel_rfl) (by kernel_rfl) hj1 ?_
  repeat (first | (apply inv_yes; (· go_simp); (· intro w1 h1; obtain ⟨z0, z1⟩ := K w1 h1; go_simp; exact ⟨rfl, h1⟩); (· go_simp; rfl)) | (apply inv_no; (· go_simp); (· go_simp; rfl)))
  refine wpInv_nil (fun w3 h3 => ?_)
  have L3 := Lib.hid (L2.out.call ((HJ.out _).1 h3))
  clear K h3 hj1 HJ L2 HCX
  go_wp2_with fail
  clear g1 g2 g3 g4 g5 g6
  obtain ⟨e1, e2, e3, e4, e5, e6, e7⟩ := arm_ok (D0 30) n0 k HK1.out
  have hA := Dk.Arm_calls L3.out.js.is n0 k
  rw [e1] at hA
  have HRun := Lib.hid (Run.start (d := armD (D0 30) n0 k) B n0 k e2 e3 e4 e5 e6 e7 HN1.out HK1.out)
  refine hA.mono ?_
  rintro e w4 ⟨rfl, o4, i4⟩
  have L4 := Lib.hid (L3.out.set (L3.out.js.turn (o4.mono (by simp)) i4))
  generalize armD (D0 30) n0 k = dA at *
  clear hA e1 e2 e3 e4 e5 e6 e7 o4 i4 L3
  go_wp2_with fail
  go_loopw [13, 14] (fun v13 v14 wr => ∃ (i done : Nat) (d : D), i ≤ ps.length ∧ v13 = .int .i64 done ∧ v14 = .int .i64 i ∧ Hid (Run B n0 k i done d) ∧ Hid (JL W w2 x g r 30 3 12 d 0 done wr)) (fun _ v14 _ => ps.length - (intOf v14).toNat)
  case atStart => exact ⟨0, 0, dA, Nat.zero_le _, rfl, rfl, HRun, L4⟩
  case round =>
    clear HRun L4
    obtain ⟨i, done, d, hi, rfl, rfl, HRu, HL⟩ := hrel
    by_cases hlt : i < ps.length
    · have e1 : decide ((i : Int) < (ps.length : Int)) = true := by rw [decide_eq_true_eq]; omega
      have e2 : decide (i < ps.length) = true := decide_eq_true hlt
      obtain ⟨a, rfl, hc⟩ := part' (HL.out.rd HR.out) hlt
      obtain ⟨p1, p2, p3, p4⟩ := HPS.out ps[i] (List.getElem_mem hlt)
      have hbi : B i = ps[i].2.2 := by rw [HBq.out, List.getD_eq_getElem?_getD, List.getElem?_eq_getElem (by rw [List.length_map]; exact hlt), List.getElem_map]; rfl
      have P1 := Lib.hid p1
      have P4 := Lib.hid p4
      have HBI := Lib.hid hbi
      have HD := Lib.hid (And.intro HRu.out.le hi)
      clear p1 p3 p4 hbi
      by_cases hlong : 112 < ps[i].2.2.length
      · unfold maxLen at p2
        have q1 : decide ((ps[i].2.2.length : Int) > 112) = true := by rw [decide_eq_true_eq]; omega
        have q2 : decide (112 < ps[i].2.2.length) = true := decide_eq_true hlong
        go_wp2_with fail
        refine (alive09 _).mono ?_
        rintro e w5 ⟨rfl, hb5⟩
        have HB5 := Lib.hid (HB0.out.trans ((HL.out.below.mono HB0.out.size).trans (hb5.mono (Nat.le_trans HB0.out.size HL.out.below.size))))
        clear hb5
        go_wp2_with fail
        go_ret
        exact ⟨rfl, HB5.out⟩
      · have q1 : decide ((ps[i].2.2.length : Int) > 112) = false := by rw [decide_eq_false_iff_not]; omega
        have q2 : decide (112 < ps[i].2.2.length) = false := decide_eq_false hlong
        have f1 : IntKind.i64.wrap ((i : Int) + 1) = ((i + 1 : Nat) : Int) := by rw [IntKind.wrap_i64]; omega
        have f2 : IntKind.i64.wrap ((done : Int) + 1) = ((done + 1 : Nat) : Int) := by have := HD.out; rw [IntKind.wrap_i64]; omega
        have hS := Add_calls HL.out.js (by have := HD.out; omega) (by decide) (by decide) (by decide) HRu.out.dok (by omega) (by decide) ps[i].1 ps[i].2.2.length ps[i].2.1 ps[i].2.2 rfl (by omega) P1.out (HL.out.rd P4.out)
        have hrun := HRu.out.add (by omega) HK1.out (by rw [HBI.out]; omega)
        rw [HBI.out] at hrun
        generalize addD d 3 0 done ps[i].2.2 = pr at *
        obtain ⟨E, d', N'⟩ := pr
        simp only at hS hrun
        have HS := Lib.hid hS
        clear hS p2
        rcases hrun with ⟨rfl, rfl, hr'⟩ | ⟨rfl, rfl, hr'⟩
        all_goals
          have HR' := Lib.hid hr'
          clear hr'
          go_wp2_with fail
          refine HS.out.mono ?_
          rintro e w5 ⟨rfl, p5⟩
          have HL5 := Lib.hid (HL.out.set p5)
          clear p5 HS
          go_wp2_with fail
          go_roundw
          case rel => exact ⟨i + 1, _, d', by omega, by simp, by simp, HR', HL5⟩
          case measure => simp [intOf]; omega
    · obtain rfl : i = ps.length := by omega
      have e1 : decide ((ps.length : Int) < (ps.length : Int)) = false := by rw [decide_eq_false_iff_not]; omega
      have hO := Dk.On_calls HL.out.js.is
      go_wp2_with fail
      refine hO.mono ?_
      rintro e w5 ⟨rfl, hb5⟩
      have HL5 := Lib.hid (HL.out.call hb5)
      clear hb5
      have HO5 := Lib.hid (HRu.out.holds hl (ps.map fun p => p.2.2) HBq.out (by rw [List.length_map]; exact Nat.le_refl _))
      have HC5 := Lib.hid (calm_power HRu.out.dok)
      have HD1 := Lib.hid (show done ≤ 10 by have := HRu.out.le; omega)
      clear hO HL HRu hlt
      go_wp2_with fail
      refine (Dk.Power_calls HL5.out.js.is).mono ?_
      rintro e w6 ⟨rfl, o6, i6⟩
      have L6 := Lib.hid (HL5.out.set (HL5.out.js.turn (o6.mono (by simp)) i6))
      obtain ⟨of, hof⟩ : ∃ of, d.off = of := ⟨_, rfl⟩
      rw [hof] at HO5 ⊢
      generalize ({ d with off := false, armed := false } : D) = d6 at *
      clear o6 i6 HL5 hof
      obtain ⟨b, hb⟩ : ∃ b, decide (of = true ∧ n0 % 2 = 1 ∧ k = 128) = b := ⟨_, rfl⟩
      have HBb := Lib.hid hb
      obtain ⟨V, hV⟩ : ∃ V, wants of n0 k done = V := ⟨_, rfl⟩
      rw [hV] at HO5
      have HV := Lib.hid hV
      have hd1 := HD1.out
      clear hb hV
      go_upto_region 20 with fail
      go_cut [91] (fun v wx => v = .bool b ∧ w6 = wx)
      case first =>
        cases of with
        | false =>
          go_wp2_with fail
          go_meet
          exact ⟨by rw [← HBb.out]; simp, rfl⟩
        | true =>
          by_cases c1 : n0 % 2 = 1
          · have t0 : (n0 : Int).tmod 2 = 1 := by rw [Va.tmod2, c1]; rfl
            have t1 : (n0 : Int) % 2 = 1 := by omega
            by_cases c2 : k = 128
            · have t2 : ((k : Int) == 128) = true := by rw [c2]; rfl
              have HC1 := Lib.hid (And.intro c1 c2)
              clear c1 c2
              go_wp2_with fail
              go_meet
              exact ⟨by rw [← HBb.out]; simp [HC1.out.1, HC1.out.2], rfl⟩
            · have t2 : ((k : Int) == 128) = false := by rw [beq_eq_false_iff_ne]; omega
              have HC1 := Lib.hid (And.intro c1 c2)
              clear c1 c2
              go_wp2_with fail
              go_meet
              exact ⟨by rw [← HBb.out]; simp [HC1.out.1, HC1.out.2], rfl⟩
          · have t0 : (n0 : Int).tmod 2 = 0 := by rw [Va.tmod2, show n0 % 2 = 0 by omega]; rfl
            have t1 : (n0 : Int) % 2 = 0 := by omega
            have HC1 := Lib.hid c1
            clear c1
            go_wp2_with fail
            go_meet
            exact ⟨by rw [← HBb.out]; simp [HC1.out], rfl⟩
      case rest =>
        obtain ⟨rfl, rfl⟩ := hcut
        go_upto_if 91 with fail
        go_cut [16] (fun v wx => v = .int .i64 (V : Nat) ∧ w6 = wx)
        case first =>
          have f2 : IntKind.i64.wrap ((done : Int) + 1) = ((done + 1 : Nat) : Int) := by rw [IntKind.wrap_i64]; omega
          have h1 := HBb.out
          have h2 := HV.out
          unfold wants at h2
          cases b with
          | false =>
            rw [if_neg (of_decide_eq_false h1)] at h2
            subst h2
            clear h1
            go_wp2_with fail
            go_meet
            exact ⟨rfl, rfl⟩
          | true =>
            rw [if_pos (of_decide_eq_true h1)] at h2
            subst h2
            clear h1
            go_wp2_with fail
            go_meet
            exact ⟨by simp, rfl⟩
        case rest =>
          obtain ⟨rfl, rfl⟩ := hcut
          clear HBb HV hd1 HD1
          obtain ⟨hV1, hHo⟩ := HO5.out
          have hll : ((ps.map fun p => p.2.2).take V).length = V := (take_getD _ V (by rw [List.length_map]; exact hV1)).1
          have hO := OpenH_calls L6.out.js HC5.out.off (by decide) (by decide) (by decide) 0 (by decide) hHo
          rw [hll] at hO
          have HH := Lib.hid hHo
          have HLL := Lib.hid hll
          have HO := Lib.hid hO
          clear hO hHo hll HO5
          go_wp2_with fail
          refine HO.out.mono ?_
          rintro e w9 ⟨A9, c9, rfl, st9, js9⟩
          have R9 := Lib.hid st9
          have L9 := Lib.hid (L6.out.set js9)
          clear HO st9 js9 L6
          have k1 : decide ((V : Int) > (ps.length : Int)) = false := by rw [decide_eq_false_iff_not]; omega
          have k2 : decide (ps.length < V) = false := decide_eq_false (by omega)
          have k4 : V ≤ c := by omega
          have k3 : min (V : Int) (ps.length : Int) = (V : Int) := by omega
          obtain ⟨T, hT⟩ : ∃ T, (ps.map fun p => p.2.2).take V = T := ⟨_, rfl⟩
          have hRt := rows_take (L9.out.rd HR.out) (fun p hp => ⟨(HPS.out p hp).1, L9.out.rd (HPS.out p hp).2.2.2⟩) V
          rw [hT] at hRt HH HLL R9
          have hS := Same_calls A9 A c9 c T T (R9.out _ (Only.refl _ _)) hRt (by rw [HLL.out]; omega)
          rw [decide_eq_true rfl, HLL.out] at hS
          have HS := Lib.hid hS
          clear hS hRt hT
          go_wp2_with fail
          refine HS.out.mono ?_
          rintro e w10 ⟨rfl, hb10⟩
          have L10 := Lib.hid (L9.out.call hb10)
          have O10 := Lib.hid (show Only [g, r, x] w9 w10 from Only.of_below hb10)
          obtain ⟨y0, y1'⟩ := And.intro ((L10.out.below.cell (World.block_lt_of_cell? W _ HCY.out.1)).trans HCY.out.1) ((L10.out.below.cell (World.block_lt_of_cell? W _ HCY.out.2)).trans HCY.out.2)
          have g1 : (nB y1).tmod 3 = ((y1.toNat % 3 : Nat) : Int) := kk2 y1 3
          have g2 : (nB y2).tmod 129 = ((y2.toNat % 129 : Nat) : Int) := kk2 y2 129
          have g3 := kk3 y1
          have g4 := kk3 y2
          have g5 : IntKind.i64.wrap (nB y1) = nB y1 := by rw [IntKind.wrap_i64]; have := u8_lo y1; have := u8_hi y1; omega
          have g6 : IntKind.i64.wrap (nB y2) = nB y2 := by rw [IntKind.wrap_i64]; have := u8_lo y2; have := u8_hi y2; omega
          obtain ⟨a, ha⟩ : ∃ a, y1.toNat % 3 = a := ⟨_, rfl⟩
          obtain ⟨bb, hbb⟩ : ∃ bb, y2.toNat % 129 = bb := ⟨_, rfl⟩
          have ha1 : a ≤ 3 := by have := Nat.mod_lt y1.toNat (show 0 < 3 by decide); omega
          have hb1 : bb ≤ 128 := by have := Nat.mod_lt y2.toNat (show 0 < 129 by decide); omega
          rw [ha] at g1
          rw [hbb] at g2
          obtain ⟨e1, e2, e3, e4, e5, e6, e7⟩ := arm_ok d6 a bb hb1
          have hA := Dk.Arm_calls L10.out.js.is a bb
          rw [e1] at hA
          have hdk : DOk (armD d6 a bb) (2 * ps.length) := ⟨by rw [e7]; exact HC5.out.dok.wr, by rw [e5]; omega, by rw [e6]; omega⟩
          have HH2 := Lib.hid (HH.out.same e2)
          have HDK2 := Lib.hid hdk
          have HA := Lib.hid hA
          generalize armD d6 a bb = d7 at *
          clear hA hdk e1 e2 e3 e4 e5 e6 e7 ha hbb ha1 hb1 hb10 HS L9 HH HC5 k1 k2 k3 k4
          go_wp2_with fail
          refine HA.out.mono ?_
          rintro e w11 ⟨rfl, o11, i11⟩
          have L11 := Lib.hid (L10.out.set (L10.out.js.turn (o11.mono (by simp)) i11))
          have O11 := Lib.hid (O10.out.trans (o11.mono (cs := [g, r, x]) (by simp)))
          clear o11 i11 HA O10 L10 y0 y1' g1 g2 g3 g4 g5 g6
          have hCl := Clean_calls L11.out.js.self (by omega) (by decide) (by decide) (by decide) HDK2.out (by omega)
          have hh := HH2.out.clean HDK2.out.kp (by decide) (by rw [HLL.out]; omega)
          have hdk := clN_ok HDK2.out 3 V 2
          rw [HLL.out] at hh
          generalize clN d7 3 V 2 = pr at *
          obtain ⟨E, d8⟩ := pr
          simp only at hCl hh hdk
          have HCl := Lib.hid hCl
          have HH3 := Lib.hid (Holds.same hh (d' := { d8 with off := false, armed := false }) rfl)
          have HC8 := Lib.hid (calm_power hdk)
          clear hCl hh hdk HH2 HDK2
          go_wp2_with fail
          refine HCl.out.mono ?_
          rintro e w12 ⟨rfl, p12⟩
          have L12 := Lib.hid (L11.out.set (L11.out.js.back p12))
          have O12 := Lib.hid (O11.out.trans p12.only)
          clear p12 HCl L11 O11
          go_wp2_with fail
          refine (Dk.Power_calls L12.out.js.is).mono ?_
          rintro e w13 ⟨rfl, o13, i13⟩
          have L13 := Lib.hid (L12.out.set (L12.out.js.turn (o13.mono (by simp)) i13))
          have O13 := Lib.hid (O12.out.trans (o13.mono (cs := [g, r, x]) (by simp)))
          generalize ({ d8 with off := false, armed := false } : D) = d9 at *
          clear o13 i13 L12 O12
          have hO := OpenH_calls L13.out.js.self HC8.out.off (by decide) (by decide) (by decide) 0 (by decide) HH3.out
          rw [HLL.out] at hO
          have HO := Lib.hid hO
          clear hO
          go_wp2_with fail
          refine HO.out.mono ?_
          rintro e w14 ⟨A14, c14, rfl, st14, js14⟩
          have R14 := Lib.hid (st14 _ (Only.refl _ _))
          have O14 := Lib.hid (O13.out.trans js14.only)
          have L14 := Lib.hid (L13.out.set (L13.out.js.back js14))
          clear HO st14 js14 L13 O13
          have hS := Same_calls A9 A14 c9 c14 T T (R9.out _ O14.out) R14.out (by rw [HLL.out]; omega)
          rw [decide_eq_true rfl, HLL.out] at hS
          have HS := Lib.hid hS
          clear hS R14
          go_wp2_with fail
          refine HS.out.mono ?_
          rintro e w15 ⟨rfl, hb15⟩
          have L15 := Lib.hid (L14.out.call hb15)
          have O15 := Lib.hid (O14.out.trans (Only.of_below hb15))
          clear hb15 HS L14 O14
          have hCl := Clean_calls L15.out.js.self (by omega) (by decide) (by decide) (by decide) HC8.out.dok (by omega)
          have hh := HH3.out.clean HC8.out.dok.kp (by decide) (by rw [HLL.out]; omega)
          obtain ⟨s1, s2⟩ := calm_clean HC8.out 3 V
          rw [HLL.out] at hh
          rw [s1] at hCl
          generalize (clN d9 3 V 2).2 = d10 at *
          have HCl := Lib.hid hCl
          have HH4 := Lib.hid hh
          have HC9 := Lib.hid s2
          clear hCl hh s1 s2 HH3 HC8
          go_wp2_with fail
          refine HCl.out.mono ?_
          rintro e w16 ⟨rfl, p16⟩
          have L16 := Lib.hid (L15.out.set (L15.out.js.back p16))
          have O16 := Lib.hid (O15.out.trans p16.only)
          clear p16 HCl L15 O15
          have hO := OpenH_calls L16.out.js.self HC9.out.off (by decide) (by decide) (by decide) 0 (by decide) HH4.out
          rw [HLL.out] at hO
          have HO := Lib.hid hO
          clear hO
          go_wp2_with fail
          refine HO.out.mono ?_
          rintro e w17 ⟨A17, c17, rfl, st17, js17⟩
          have R17 := Lib.hid (st17 _ (Only.refl _ _))
          have O17 := Lib.hid (O16.out.trans js17.only)
          have L17 := Lib.hid (L16.out.set (L16.out.js.back js17))
          clear HO st17 js17 L16 O16
          have hS := Same_calls A9 A17 c9 c17 T T (R9.out _ O17.out) R17.out (by rw [HLL.out]; omega)
          rw [decide_eq_true rfl, HLL.out] at hS
          have HS := Lib.hid hS
          clear hS R17
          go_wp2_with fail
          refine HS.out.mono ?_
          rintro e w18 ⟨rfl, hb18⟩
          have B18 := Lib.hid (HB0.out.trans ((L17.out.call hb18).below.mono HB0.out.size))
          clear hb18 HS L17 O17
          go_wp2_with fail
          refine (alive09 _).mono ?_
          rintro e w19 ⟨rfl, hb19⟩
          have HBA := Lib.hid (B18.out.trans (hb19.mono B18.out.size))
          clear hb19
          go_wp2_with fail
          go_ret
          exact ⟨rfl, HBA.out⟩
theorem keeps_all (A : Option Addr) (c : Nat) (ps : List (Option Addr × Nat × List UInt8)) (hl : ps.length ≤ c) (hp : ps.length ≤ maxLen) (x1 x2 y1 y2 : UInt8) (w : World)
    (hR : Rd w A (sls ps)) (hps : ∀ p ∈ ps, (p.1 = none → p.2.1 = 0) ∧ p.2.2.length ≤ maxLen ∧ p.2.2.length ≤ p.2.1 ∧ Rd w p.1 (bys p.2.2)) :
    Calls Try.prog 5 #[.slice A ps.length c, .agg #[.int .u8 (nB x1), .int .u8 (nB x2)], .agg #[.int .u8 (nB y1), .int .u8 (nB y2)]] w fun e w' => e = .returned (.bool true) ∧ Below w.heap.size w w' := by
  by_cases h : 10 < ps.length
  · exact keeps_long A ps.length c x1 x2 y1 y2 hp h w
  · exact keeps_short A c ps x1 x2 y1 y2 (by omega) hl w hR hps
end Go.Proofs.Ytmlgkahadgpaiaa.Jo
