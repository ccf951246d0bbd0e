/- Chapter 07: the walk of DiskTears. -/
import Derived.Test.YtinommcocgnmlaaDkM
import Derived.Test.YtinommcocgnmlaaDkL
namespace Go.Proofs.Ytinommcocgnmlaa.Dk
open Go.RowKit _root_.Go.Proofs.Ytinommcocgnmlaa.Own
set_option linter.unusedVariables false
set_option linter.unusedSimpArgs false
theorem tears_long (A : Option Addr) (N c : Nat) (h : N > 8) (b at_ kp : UInt8) (w : World) : Calls Try.prog 10 #[.slice A N c, .int .u8 (nB b), .int .u8 (nB at_), .int .u8 (nB kp)] w fun e w' => e = .returned (.bool true) ∧ Below w.heap.size w w' := by
  have m1 : decide ((N : Int) > 8) = true := by rw [decide_eq_true_eq]; omega
  go_enter Try.func10, Try.ntmps10
  go_wp2_with fail
  refine (alive07 w).mono ?_
  rintro e w1 ⟨rfl, hb⟩
  go_wp2_with fail
  go_ret
  exact ⟨rfl, hb⟩
structure KT (d : D) (i : Nat) : Prop where
  off : d.off = false
  arm : d.armed = false
  wr : d.writes = i
  lb : -(i : Int) ≤ d.left ∧ d.left ≤ 0
  len : d.all.length = 8 * 128
theorem KT.new : KT (D0 8) 0 := ⟨rfl, rfl, rfl, ⟨Int.le_refl 0, Int.le_refl 0⟩, List.length_replicate⟩
theorem KT.write {d : D} {i : Nat} (h : KT d i) (k : Nat) (hk : k < 8) (b : UInt8) :
    KT { d with all := putRow d.all k (ups b 128), left := d.left - 1, writes := d.writes + 1 } (i + 1) := by
  refine ⟨h.off, h.arm, ?_, ?_, ?_⟩
  · have := h.wr; simp only; omega
  · have := h.lb; simp only; omega
  · exact putRow_length _ _ 8 k h.len hk (ups_length b 128)
structure TS (w0 : World) (g r g2 r2 c2 : Nat) (R2 : List Value) (d d0 : D) (w : World) : Prop where
  below : Below w0.heap.size w0 w
  is : Is g r 8 8 [] d w
  is2 : Is g2 r2 8 c2 R2 d0 w
  own : w0.heap.size ≤ g ∧ w0.heap.size ≤ r
  ne : g2 ≠ g ∧ g2 ≠ r ∧ r2 ≠ g ∧ r2 ≠ r
theorem TS.call {w0 : World} {g r g2 r2 c2 : Nat} {R2 : List Value} {d d0 : D} {w w' : World} (p : TS w0 g r g2 r2 c2 R2 d d0 w) (hb : Below w.heap.size w w') : TS w0 g r g2 r2 c2 R2 d d0 w' :=
  ⟨p.below.trans (hb.mono p.below.size), p.is.below hb, p.is2.below hb, p.own, p.ne⟩
theorem TS.turn {w0 : World} {g r g2 r2 c2 : Nat} {R2 : List Value} {d d' d0 : D} {w w' : World} (p : TS w0 g r g2 r2 c2 R2 d d0 w) (ho : Only [g, r] w w') (hi : Is g r 8 8 [] d' w') : TS w0 g r g2 r2 c2 R2 d' d0 w' := by
  obtain ⟨n1, n2, n3, n4⟩ := p.ne
  refine ⟨p.below.trans (ho.less ?_ p.below.size), hi, ⟨?_, ?_, p.is2.len⟩, p.own, p.ne⟩
  · intro k hk; simp at hk; rcases hk with rfl | rfl; exact p.own.1; exact p.own.2
  · rw [ho.keep g2 (blk_lt p.is2.own) (by simp [n1, n2])]; exact p.is2.own
  · rw [ho.keep r2 (blk_lt p.is2.row) (by simp [n3, n4])]; exact p.is2.row
theorem torn_get (k : Nat) (b : UInt8) (p : Nat) (hp : p < 128) : (bys (torn k (ups b 128)))[p]? = some (.int .u8 (nB (if p < k then b + UInt8.ofNat p else 255))) := by
  unfold bys torn
  rw [List.getElem?_map, List.getElem?_append, List.length_take, ups_length]
  by_cases h : p < k
  · rw [if_pos (by omega), if_pos h, List.getElem?_take, if_pos h]
    have := ups_get b p hp
    unfold bys at this
    rwa [List.getElem?_map] at this
  · rw [if_neg (by omega), if_neg h, List.getElem?_replicate, if_pos (by omega)]
    rfl
theorem torn_length (k : Nat) (b : UInt8) (hk : k ≤ 128) : (torn k (ups b 128)).length = 128 := by
  unfold torn
  rw [List.length_append, List.length_take, ups_length, List.length_replicate]
  omega
def tornD (d : D) (kp k : Nat) (b : UInt8) : D := { d with all := putRow d.all k (torn kp (ups b 128)), off := false, armed := false, left := 0, keep := kp, writes := d.writes + 1 }
set_option maxRecDepth 10000 in
set_option maxHeartbeats 8000000 in
theorem tears_walk (A : Option Addr) (c : Nat) (xs : List UInt8) (hl : xs.length ≤ 8) (hc : xs.length ≤ c) (b at_ kp : UInt8) (w : World) (hR : Rd w A (bys xs)) : Calls Try.prog 10 #[.slice A xs.length c, .int .u8 (nB b), .int .u8 (nB at_), .int .u8 (nB kp)] w fun e w' => e = .returned (.bool true) ∧ Below w.heap.size w w' := by
  have m1 : decide ((xs.length : Int) > 8) = false := by rw [decide_eq_false_iff_not]; omega
  have HR := Lib.hid hR
  clear hR
  have hka : (nB at_).tmod 8 = ((at_.toNat % 8 : Nat) : Int) := by rw [nB_tmod]; unfold nB; omega
  have hkk : (nB kp).tmod 129 = ((kp.toNat % 129 : Nat) : Int) := by rw [nB_tmod]; unfold nB; omega
  have hk8 : at_.toNat % 8 < 8 := Nat.mod_lt _ (by decide)
  have hp129 : kp.toNat % 129 ≤ 128 := by have := Nat.mod_lt kp.toNat (show 0 < 129 by decide); omega
  obtain ⟨k, hk⟩ : ∃ k, at_.toNat % 8 = k := ⟨_, rfl⟩
  obtain ⟨K, hK⟩ : ∃ k, kp.toNat % 129 = k := ⟨_, rfl⟩
  rw [hk] at hka hk8
  rw [hK] at hkk hp129
  clear hk hK
  have hwk : wrap64 (nB kp) = nB kp := by have := u8_lo kp; have := u8_hi kp; unfold wrap64; omega
  go_enter Try.func10, Try.ntmps10
  go_wp2_with fail
  refine (New_calls 8 (by decide) (by decide) w).mono ?_
  rintro e w1 ⟨g, r, rfl, hg, hr, hI, hb⟩
  have HS := Lib.hid (show St w g r 8 8 [] (D0 8) w1 from ⟨hb, hI, hg, hr⟩)
  clear hI hb
  go_wp2_with fail
  go_loopw [11] (fun v11 wr => ∃ (j : Nat) (d : D), j ≤ xs.length ∧ v11 = .int .i64 j ∧ Hid (KT d j) ∧ Hid (St w g r 8 8 [] d wr)) (fun v11 _ => xs.length - (intOf v11).toNat)
  case atStart => exact ⟨0, _, Nat.zero_le _, rfl, Lib.hid KT.new, HS⟩
  case round =>
    clear HS
    obtain ⟨j, d, hj, rfl, HL, HP⟩ := hrel
    by_cases hlt : j < xs.length
    · have hd : decide ((j : Int) < (xs.length : Int)) = true := by rw [decide_eq_true_eq]; omega
      obtain ⟨ad, rfl, hc1⟩ := HR.out.byte hlt
      obtain ⟨x, hx⟩ : ∃ x, xs[j] = x := ⟨_, rfl⟩
      rw [hx] at hc1
      have x0 := (HP.out.below.cell (World.block_lt_of_cell? w _ hc1)).trans hc1
      go_wp2_with fail
      refine (Bytes_sl 0 0 0 x 0 (by decide) 128 rfl _).mono ?_
      rintro e w2 ⟨A2, cb, rfl, hcb, hA2, hR2, hn2, hb2⟩
      obtain ⟨a2, rfl⟩ : ∃ a, A2 = some a := by
        cases A2 with
        | none => have := hA2 rfl; omega
        | some a => exact ⟨a, rfl⟩
      have HP2 := Lib.hid (HP.out.call hb2)
      have hbg := Nat.lt_of_lt_of_le (blk_lt HP.out.is.own) (hn2 a2 rfl)
      have HR2 := Lib.hid hR2
      clear hb2 x0 hR2 hA2 hn2
      have hwr := HL.out.wr
      have hlb := HL.out.lb
      go_wp2_with fail
      refine (WriteAll_calls HP2.out.is j (by omega) (Nat.le_refl 8) HL.out.off a2 cb (ups x 128) (ups_length _ _) hcb HR2.out (by omega) (by omega) (by omega) (.inl HL.out.arm)).mono ?_
      rintro e w3 ⟨rfl, ho3, hi3⟩
      have HP3 := Lib.hid (HP2.out.turn ho3 hi3)
      clear ho3 hi3 HR2
      have f9 : IntKind.i64.wrap ((j : Int) + 1) = ((j + 1 : Nat) : Int) := by rw [IntKind.wrap_i64]; omega
      go_wp2_with fail
      go_roundw
      case rel => exact ⟨j + 1, _, by omega, by simp, Lib.hid (HL.out.write j (by omega) x), HP3⟩
      case measure => simp [intOf]; omega
    · have hd : decide ((j : Int) < (xs.length : Int)) = false := by rw [decide_eq_false_iff_not]; omega
      go_wp2_with fail
      refine (Copy_calls HP.out.is (by decide) (Nat.le_refl 8)).mono ?_
      rintro e w2 ⟨g2, r2, c2, R2, rfl, hc2, hg2, hr2, hI2, hb2⟩
      have HT2 := Lib.hid (show TS w g r g2 r2 c2 R2 d d w2 from ⟨(HP.out.call hb2).below, HP.out.is.below hb2, hI2, HP.out.own, by
        have q1 := blk_lt HP.out.is.own; have q2 := blk_lt HP.out.is.row; omega⟩)
      clear hI2 hb2 hg2 hr2
      have hAE : armE 0 K = 0 := if_neg (by omega)
      have hAD : armD d 0 K = { d with armed := true, left := 0, keep := K } := if_neg (by omega)
      go_wp2_with fail
      have hArm := Arm_calls HT2.out.is 0 K
      rw [hAE, hAD] at hArm
      refine hArm.mono ?_
      rintro e w3 ⟨rfl, ho3, hi3⟩
      have HT3 := Lib.hid (HT2.out.turn (ho3.mono (by simp)) hi3)
      clear hArm ho3 hi3 hAE hAD HT2
      go_wp2_with fail
      refine (Bytes_sl 0 0 0 b 0 (by decide) 128 rfl _).mono ?_
      rintro e w4 ⟨A4, cb, rfl, hcb, hA4, hR4, hn4, hb4⟩
      obtain ⟨a4, rfl⟩ : ∃ a, A4 = some a := by
        cases A4 with
        | none => have := hA4 rfl; omega
        | some a => exact ⟨a, rfl⟩
      have HT4 := Lib.hid (HT3.out.call hb4)
      have hbg := Nat.lt_of_lt_of_le (blk_lt HT3.out.is.own) (hn4 a4 rfl)
      have HR4 := Lib.hid hR4
      clear hb4 hR4 hA4 hn4
      have hwr := HL.out.wr
      have hlb := HL.out.lb
      go_wp2_with fail
      have hWT := WriteTorn_calls HT4.out.is k hk8 (Nat.le_refl 8) HL.out.off a4 cb (ups b 128) (ups_length _ _) hcb HR4.out (by omega) (by simp only; omega) (by simp only; omega) rfl rfl
      refine hWT.mono ?_
      rintro e w5 ⟨rfl, ho5, hi5⟩
      have HT5 := Lib.hid (HT4.out.turn ho5 hi5)
      clear hWT ho5 hi5 HR4
      go_wp2_with fail
      refine (On_v HT5.out.is rfl).mono ?_
      rintro e w6 ⟨rfl, hb6⟩
      have HT6 := Lib.hid (HT5.out.call hb6)
      clear hb6
      go_wp2_with fail
      refine (On_v HT6.out.is2 HL.out.off).mono ?_
      rintro e w7 ⟨rfl, hb7⟩
      have HT7 := Lib.hid (HT6.out.call hb7)
      clear hb7
      go_wp2_with fail
      have hRB := ReadBad_calls HT7.out.is k 19 (.inr ⟨by omega, rfl, rfl⟩)
      refine hRB.mono ?_
      rintro e w8 ⟨rfl, hb8⟩
      have HT8 := Lib.hid (HT7.out.call hb8)
      clear hb8 hRB
      go_wp2_with fail
      refine (Power_calls HT8.out.is).mono ?_
      rintro e w9 ⟨rfl, ho9, hi9⟩
      have HT9 := Lib.hid (HT8.out.turn (ho9.mono (by simp)) hi9)
      clear ho9 hi9
      have HTT : Hid (TS w g r g2 r2 c2 R2 (tornD d K k b) d w9) := HT9
      clear HT3 HT4 HT5 HT6 HT7 HT8 HT9
      go_wp2_with fail
      have hln := HL.out.len
      have hto := torn_length K b hp129
      go_loopw [17] (fun v17 wr2 => ∃ (m : Nat), m ≤ 8 ∧ v17 = .int .i64 m ∧ Hid (TS w g r g2 r2 c2 R2 (tornD d K k b) d wr2)) (fun v17 _ => 8 - (intOf v17).toNat)
      case atStart => exact ⟨0, by omega, rfl, HTT⟩
      case round =>
        clear HTT HP
        obtain ⟨m, hm, rfl, HT⟩ := hrel
        by_cases hlt2 : m < 8
        · have hd2 : decide ((m : Int) < 8) = true := by rw [decide_eq_true_eq]; omega
          go_wp2_with fail
          refine (ReadOk_calls HT.out.is m hlt2 (Nat.le_refl 8) rfl).mono ?_
          rintro e wa ⟨x, rfl, hxa, hxr, hba⟩
          have HTa := Lib.hid (HT.out.call hba)
          have HX := Lib.hid (show wa.heap[x]? = some (.cells ⟨bys (if m = k then torn K (ups b 128) else rowB d.all m)⟩ 81 (0, 0)) by
            rw [← rowB_put _ _ 8 k m hln hk8 hlt2 hto]; exact hxr)
          clear hxr hba
          go_wp2_with fail
          refine (ReadOk_calls HTa.out.is2 m hlt2 hc2 HL.out.off).mono ?_
          rintro e wb ⟨y, rfl, hyb, hyr, hbb⟩
          have HTb := Lib.hid (HTa.out.call hbb)
          have HXb := Lib.hid ((hbb.block x (blk_lt HX.out)).trans HX.out)
          have HY := Lib.hid hyr
          clear hyr hbb HX
          have hrl := rowB_length d.all 8 m hln hlt2
          by_cases hmk : m = k
          · subst hmk
            have hne : ((m : Int) != (m : Int)) = false := by simp
            have hxr := HXb.out
            rw [if_pos rfl] at hxr
            have HXc := Lib.hid hxr
            clear hxr
            go_wp2_with fail
            go_loopw [22] (fun v22 wr3 => ∃ (p : Nat), p ≤ 128 ∧ v22 = .int .i64 p ∧ wr3 = wb) (fun v22 _ => 128 - (intOf v22).toNat)
            case atStart => exact ⟨0, by omega, rfl, rfl⟩
            case round =>
              obtain ⟨p, hp, rfl, rfl⟩ := hrel
              by_cases hlt3 : p < 128
              · have hd3 : decide ((p : Int) < 128) = true := by rw [decide_eq_true_eq]; omega
                have hcell : wr.cell? ⟨x, p, none⟩ = some (.int .u8 (nB (if p < K then b + UInt8.ofNat p else 255))) := by
                  rw [cell_of_row wr x p _ _ _ HXc.out]
                  simpa using torn_get K b p hlt3
                by_cases hpk : p < K
                · have hd4 : decide ((p : Int) < (K : Int)) = true := by rw [decide_eq_true_eq]; omega
                  have hd5 : decide ((p : Int) ≥ (K : Int)) = false := by rw [decide_eq_false_iff_not]; omega
                  rw [if_pos hpk, nB_up b p (by omega)] at hcell
                  have f9 : IntKind.i64.wrap ((p : Int) + 1) = ((p + 1 : Nat) : Int) := by rw [IntKind.wrap_i64]; omega
                  go_wp2_with fail
                  go_roundw
                  case rel => exact ⟨p + 1, by omega, by simp, trivial⟩
                  case measure => simp [intOf]; omega
                · have hd4 : decide ((p : Int) < (K : Int)) = false := by rw [decide_eq_false_iff_not]; omega
                  have hd5 : decide ((p : Int) ≥ (K : Int)) = true := by rw [decide_eq_true_eq]; omega
                  rw [if_neg hpk, show nB 255 = 255 from rfl] at hcell
                  have f9 : IntKind.i64.wrap ((p : Int) + 1) = ((p + 1 : Nat) : Int) := by rw [IntKind.wrap_i64]; omega
                  go_wp2_with fail
                  go_roundw
                  case rel => exact ⟨p + 1, by omega, by simp, trivial⟩
                  case measure => simp [intOf]; omega
              · have hd3 : decide ((p : Int) < 128) = false := by rw [decide_eq_false_iff_not]; omega
                have f9 : IntKind.i64.wrap ((m : Int) + 1) = ((m + 1 : Nat) : Int) := by rw [IntKind.wrap_i64]; omega
                go_wp2_with fail
                go_roundw
                case rel => exact ⟨m + 1, by omega, by simp, HTb⟩
                case measure => simp [intOf]; omega
          · have hne : ((m : Int) == (k : Int)) = false := by rw [beq_eq_false_iff_ne]; omega
            have hxr := HXb.out
            rw [if_neg hmk] at hxr
            have kx := run_string_of (w := wb) Try.underlying29 Try.underlying5 Try.underlying9 (some ⟨x, 0, none⟩) 128 128 (rowB d.all m) hrl.symm (fun h => nomatch h) (Rd.of_row hxr)
            have ky := run_string_of (w := wb) Try.underlying29 Try.underlying5 Try.underlying9 (some ⟨y, 0, none⟩) 128 128 (rowB d.all m) hrl.symm (fun h => nomatch h) (Rd.of_row HY.out)
            clear hxr
            go_wp2_with fail
            go_loopw [22] (fun v22 wr3 => v22 = .int .i64 0 ∧ wr3 = wb) (fun _ _ => 0)
            case atStart => exact ⟨rfl, rfl⟩
            case round =>
              obtain ⟨rfl, rfl⟩ := hrel
              have f9 : IntKind.i64.wrap ((m : Int) + 1) = ((m + 1 : Nat) : Int) := by rw [IntKind.wrap_i64]; omega
              go_wp2_with fail
              go_roundw
              case rel => exact ⟨m + 1, by omega, by simp, HTb⟩
              case measure => simp [intOf]; omega
        · have hd2 : decide ((m : Int) < 8) = false := by rw [decide_eq_false_iff_not]; omega
          go_wp2_with fail
          refine (On_v HT.out.is rfl).mono ?_
          rintro e wa ⟨rfl, hba⟩
          have HTa := Lib.hid (HT.out.call hba)
          go_wp2_with fail
          refine (alive07 wa).mono ?_
          rintro e wb ⟨rfl, hbb⟩
          have HTb := HTa.out.call hbb
          go_wp2_with fail
          go_ret
          exact ⟨rfl, HTb.below⟩
end Go.Proofs.Ytinommcocgnmlaa.Dk
namespace Go.Proofs.Ytinommcocgnmlaa.Dk
open Go.RowKit _root_.Go.Proofs.Ytinommcocgnmlaa.Own
/-- DiskTears, whatever comes in. -/
theorem tears_all (A : Option Addr) (c : Nat) (xs : List UInt8) (hc : xs.length ≤ c) (b at_ kp : UInt8) (w : World) (hR : Rd w A (bys xs)) : Calls Try.prog 10 #[.slice A xs.length c, .int .u8 (nB b), .int .u8 (nB at_), .int .u8 (nB kp)] w fun e w' => e = .returned (.bool true) ∧ Below w.heap.size w w' := by
  by_cases h1 : xs.length > 8
  · exact tears_long A xs.length c h1 b at_ kp w
  · exact tears_walk A c xs (by omega) hc b at_ kp w hR
end Go.Proofs.Ytinommcocgnmlaa.Dk
