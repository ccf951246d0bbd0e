/- Chapter 10: what an area has, continued. -/
import Derived.Test.YtmlgkahadgpaiaaVaC
namespace Go.Proofs.Ytmlgkahadgpaiaa.Va
open Go.RowKit _root_.Go.Proofs.Ytmlgkahadgpaiaa.Own
open Go.Proofs.Ytmlgkahadgpaiaa.Fr
open Go.Proofs.Ytmlgkahadgpaiaa.Dk (D Is D0 torn putRow rowB wst DOk made_all wpList_make_at rowB_length)
set_option linter.unusedVariables false
set_option linter.unusedSimpArgs false
theorem grown_below {w : World} {base : Nat} {row : Option Nat} {wr w' : World} (h : Below base w wr) (hg : wr.grownBy w' row) (hB : base ≤ wr.heap.size) (hr : ∀ k, row = some k → base ≤ k) : Below base w w' := h.grown hg hB hr
/-- The contents' bytes, as they stand on the disk. -/
def contN (all : List UInt8) (at_ S : Nat) : List UInt8 := (all.drop ((at_ + 1) * 128)).take (S * 128)
theorem contN_zero (all : List UInt8) (at_ : Nat) : contN all at_ 0 = [] := by simp [contN]
theorem contN_succ (all : List UInt8) (at_ k : Nat) : contN all at_ (k + 1) = contN all at_ k ++ rowB all (at_ + 1 + k) := by
  unfold contN Dk.rowB
  rw [Nat.succ_mul, List.take_add, List.drop_drop, show (at_ + 1) * 128 + k * 128 = (at_ + 1 + k) * 128 by omega]
theorem contN_length (all : List UInt8) (at_ S n : Nat) (hl : all.length = n * 128) (h : at_ + 1 + S ≤ n) : (contN all at_ S).length = S * 128 := by
  unfold contN
  rw [List.length_take, List.length_drop]
  omega
def zerosB (l : List UInt8) : Prop := ∀ i, i < l.length → l[i]? = some 0
/-- What 'has' answers, where the head may be. -/
def HasPost (base G Z Q : Nat) (C : List UInt8) (e : Ending) (w' : World) : Prop :=
  (zerosB (C.drop Z) ∧ (crc (C.take Z)).toNat = Q → ∃ A c, e = .returned (.tuple #[.int .i64 G, .slice A Z c, .bool true]) ∧ Z ≤ c ∧ (A = none → c = 0) ∧ Rd w' A (bys (C.take Z)) ∧ ∀ a, A = some a → base ≤ a.block)
  ∧ (¬ (zerosB (C.drop Z) ∧ (crc (C.take Z)).toNat = Q) → ∃ (g : Int) (A : Option Addr) (n c : Nat), e = .returned (.tuple #[.int .i64 g, .slice A n c, .bool false]))
theorem rd_rowT {w : World} {k : Nat} {xs : List UInt8} {t : TypeId} {fr : Nat × Nat} (h : w.heap[k]? = some (.cells ⟨bys xs⟩ t fr)) : Rd w (some ⟨k, 0, none⟩) (bys xs) := rd_row h
set_option maxRecDepth 10000 in
set_option pp.deepTerms true in
set_option pp.maxSteps 100000 in
set_option maxHeartbeats 4000000 in
theorem has_rest {w0 : World} {v g r n f : Nat} {d : D} {w : World} (p : VS w0 v g r n f d w) (ho : d.off = false) (hf : f + 512 ≤ n) (hn : n ≤ 1024) (odd : Nat) (h2 : odd < 2) {G S Z Q : Nat} (hh : HeadIs (rowB d.all (areaN f odd)) odd G S Z Q) (hsm : Z ≤ 32640) (hbl : blkN Z = S) :
    Calls Try.prog 44 #[.pointer (some ⟨v, 0, none⟩), .int .i64 odd] w fun e w' => HasPost w.heap.size G Z Q (contN d.all (areaN f odd) S) e w' ∧ Below w.heap.size w w' := by
  have HSM := Lib.hid hsm
  have e4 : (((blkN Z : Nat) : Int) == (S : Int)) = true := by rw [hbl]; exact beq_self_eq_true _
  have e5 : decide (blkN Z = S) = true := decide_eq_true hbl
  have e6 : (blkN Z == S) = true := by rw [hbl]; exact beq_self_eq_true _
  have e7 : (((blkN Z : Nat) : Int) != (S : Int)) = false := by rw [hbl]; simp
  have HBL := Lib.hid hbl
  clear hsm hbl
  have har : areaN f odd + 256 ≤ n := by unfold areaN; omega
  obtain ⟨at_, hat⟩ : ∃ at_, areaN f odd = at_ := ⟨_, rfl⟩
  have HA := Lib.hid (area_calls p.vis odd (by omega))
  rw [hat] at HA har hh ⊢
  have hrl := rowB_length d.all n at_ p.is.len (by omega)
  obtain ⟨x, hx⟩ : ∃ x, rowB d.all at_ = x := ⟨_, rfl⟩
  rw [hx] at hh hrl
  have HXX := Lib.hid hx
  have HHI := Lib.hid hh
  have HRL := Lib.hid hrl
  have HP := Lib.hid p
  obtain ⟨y0, y1⟩ := p.vis.cells
  have hpl : (((x.take 120).drop 8).take 8).length = 8 := by rw [List.length_take, List.length_drop, List.length_take, hrl]; rfl
  obtain ⟨P, hP⟩ : ∃ P, ((x.take 120).drop 8).take 8 = P := ⟨_, rfl⟩
  have hZ := hh.size
  have hQ := hh.sum
  rw [hP] at hpl hZ hQ
  have HPP := Lib.hid hP
  have HPL := Lib.hid hpl
  have HZ := Lib.hid hZ
  have HQ := Lib.hid hQ
  have e1 := tmod2 G
  rw [hh.par] at e1
  have e2 : decide ((S : Int) > 255) = false := le_cast' hh.few
  have e3 : decide (255 < S) = false := decide_eq_false (by have := hh.few; omega)
  have HFE := Lib.hid hh.few
  clear p hh hat hx hrl hpl hP hZ hQ
  go_enter Try.func44, Try.ntmps44
  go_wp2_with fail
  refine HA.out.mono ?_
  rintro e w1 ⟨rfl, rfl⟩
  go_wp2_with fail
  refine (Dk.ReadOk_calls HP.out.is at_ (by omega) (Nat.le_refl n) ho).mono ?_
  rintro e w1 ⟨xg, rfl, hxg, hxr, hb1⟩
  rw [HXX.out] at hxr
  have HB1 := Lib.hid hb1
  have HX := Lib.hid (rd_row hxr)
  clear hxg hxr hb1 y0 y1
  go_wp2_with fail
  have hrd := ReadOk_calls 86 ⟨xg, 0, none⟩ 128 x HRL.out (Nat.le_refl _) w1 HX.out HHI.out.frame.1 HHI.out.frame.2.1 ⟨HHI.out.frame.2.2.1, HHI.out.frame.2.2.2.1, HHI.out.frame.2.2.2.2⟩
  rw [HHI.out.gen, HHI.out.seq, HHI.out.len, HPP.out] at hrd
  refine hrd.mono ?_
  rintro e w2 ⟨⟨A2, c2, rfl, hc2, -, hr2, hfr, hsh⟩, hb2⟩
  obtain ⟨gp, rfl, hgp⟩ := hsh (by decide)
  have HB2 := Lib.hid (HB1.out.trans (hb2.mono HB1.out.size))
  have HR2 := Lib.hid hr2
  clear hrd hb2 hr2 hfr hsh
  go_wp2_with fail
  refine (New_calls gp 8 8 c2 P HPL.out hc2 w2 HR2.out hgp).mono ?_
  rintro e w3 ⟨rfl, hd3, hb3⟩
  have HB3 := Lib.hid (HB2.out.trans (hb3.mono HB2.out.size))
  have hrw := HB2.out.size
  obtain ⟨rg, hrg⟩ : ∃ rg, w2.heap.size = rg := ⟨_, rfl⟩
  rw [hrg] at hd3 hrw ⊢
  have HD3 := Lib.hid hd3
  clear hd3 hb3 hrg hgp
  go_wp2_with fail
  refine (RNum_calls HD3.out 4 (by decide) (by decide) (by decide) (by omega) 32640 (by rw [HZ.out]; exact HSM.out)).mono ?_
  rintro e w4 ⟨rfl, ho4, hd4⟩
  rw [HZ.out]
  have HB4 := Lib.hid (HB3.out.trans (ho4.less (by intro k hk; simp at hk; omega) HB3.out.size))
  have HD4 := Lib.hid hd4
  clear ho4 hd4
  go_wp2_with fail
  refine (num_four HD4.out (by omega)).mono ?_
  rintro e w5 ⟨rfl, ho5, o5, n5, c5, hd5⟩
  rw [HQ.out]
  have HB5 := Lib.hid (HB4.out.trans (ho5.less (by intro k hk; simp at hk; omega) HB4.out.size))
  have HD5 := Lib.hid hd5
  clear ho5 hd5
  go_wp2_with fail
  refine (Err_calls HD5.out).mono ?_
  rintro e w6 ⟨rfl, rfl⟩
  go_wp2_with fail
  refine (Blocks_calls Z (by have := HSM.out; omega) w5).mono ?_
  rintro e w6 ⟨rfl, rfl⟩
  go_wp2_with fail
  have hcl := fun S h => contN_length d.all at_ S n HP.out.is.len h
  have HCL := Lib.hid hcl
  clear HD3 HD4 HD5 HX HR2 HB1 HB2 HB3 HB4 HA hcl e1 e2 e3 e4 e5 e6 e7
  go_loopw [16, 76] (fun v16 v76 wr => ∃ j : Nat, j ≤ S ∧ v76 = .int .i64 j ∧ Hid (Has w.heap.size 5 v16 (bys (contN d.all at_ j)) wr) ∧ Hid (Below w.heap.size w wr) ∧ Hid (j = 0 → v16 = .slice none 0 0)) (fun _ v76 _ => S - (intOf v76).toNat)
  case atStart => exact ⟨0, Nat.zero_le _, rfl, Lib.hid (by rw [contN_zero]; exact Has.nil _ _ _), HB5, Lib.hid (fun _ => rfl)⟩
  case round =>
    obtain ⟨j, hj, rfl, HO, HB, HN⟩ := hrel
    have HS := Lib.hid (HP.out.call HB.out)
    have hS := HFE.out
    by_cases hlt : j < S
    · have hd : decide ((j : Int) < (S : Int)) = true := by rw [decide_eq_true_eq]; omega
      have hd2 : decide (j < S) = true := by rw [decide_eq_true_eq]; omega
      obtain ⟨y0, y1⟩ := HS.out.vis.cells
      have g1 : IntKind.i64.wrap ((at_ : Int) + 1) = (at_ : Int) + 1 := by rw [IntKind.wrap_i64]; omega
      have g2 : IntKind.i64.wrap ((at_ : Int) + 1 + (j : Int)) = ((at_ + 1 + j : Nat) : Int) := by rw [IntKind.wrap_i64]; omega
      go_wp2_with fail
      refine (Dk.ReadOk_calls HS.out.is (at_ + 1 + j) (by omega) (Nat.le_refl n) ho).mono ?_
      rintro e w7 ⟨xg2, rfl, -, hxr2, hb7⟩
      have HO7 := Lib.hid (HO.out.below hb7)
      have HB7 := Lib.hid (HB.out.trans (hb7.mono HB.out.size))
      have HX7 := Lib.hid (rd_row hxr2)
      have hl7 := rowB_length d.all n (at_ + 1 + j) HP.out.is.len (by omega)
      have HL7 := Lib.hid hl7
      clear hxr2 hb7 hl7 HO HS HB
      go_wp2_with (at_builtin; refine wpList_app rfl _ _ 23 rfl w.heap.size 5 (.int .u8 0) 1 Try.underlying23 infoB rfl _ (bys (contN d.all at_ j)) rfl HO7.out _ _ _ (bys (rowB d.all (at_ + 1 + j))) rfl ?hLen (fun h => nomatch h) HX7.out (bys_one _) ?hCap ?hCap2 ?hBase ?_)
      case hLen => rw [bys_length]; exact HL7.out.symm
      case hCap => rw [bys_length, bys_length, HL7.out, HCL.out j (by omega)]; simp [maxLen]; omega
      case hCap2 => rw [bys_length, bys_length, HL7.out, HCL.out j (by omega)]; omega
      case hBase => exact HB7.out.size
      intro v8 w8 hv8 hg8
      rw [← bys_append, ← contN_succ] at hv8
      have HO8 := Lib.hid hv8
      have HB8 := Lib.hid (grown_below HB7.out hg8 HB7.out.size (fun q e => (HO7.out.blk q e).1))
      have g9 : IntKind.i64.wrap ((j : Int) + 1) = ((j + 1 : Nat) : Int) := by rw [IntKind.wrap_i64]; omega
      clear hv8 hg8 HO7 HB7 HX7
      go_wp2_with fail
      go_roundw
      case rel => exact ⟨j + 1, by omega, by simp, HO8, HB8, Lib.hid (fun h => absurd h (by omega))⟩
      case measure => simp [intOf]; omega
    · have hd : decide ((j : Int) < (S : Int)) = false := by rw [decide_eq_false_iff_not]; omega
      have hd2 : decide (j < S) = false := decide_eq_false hlt
      obtain rfl : j = S := by omega
      have hCl := HCL.out j (by omega)
      obtain ⟨C, hC⟩ : ∃ C, contN d.all at_ j = C := ⟨_, rfl⟩
      rw [hC] at HO hCl
      have HC := Lib.hid hC
      have hzs : Z ≤ j * 128 ∧ (j = 0 → Z = 0) := by have h1 := HBL.out; unfold blkN at h1; omega
      have hQ : Q < 4294967296 := by have h1 := val_four (P.drop 4); rw [HQ.out] at h1; omega
      clear hC HCL
      by_cases hj0 : j = 0
      · obtain rfl := HN.out hj0
        obtain rfl := hzs.2 hj0
        have hC0 : C = [] := List.eq_nil_of_length_eq_zero (by omega)
        subst hC0
        subst hj0
        have HZ0 : zerosB (([] : List UInt8).drop 0) := fun q hq => absurd hq (by simp)
        have hS : Calls Try.prog 56 #[.slice (some ⟨wr.heap.size, 0, none⟩) 1 1] (wr.alloc (.cells ⟨[Value.slice none 0 0]⟩ 23 (0, 0))) fun e w' => e = .returned (.int .u32 (nW (crc []))) ∧ Below (wr.alloc (.cells ⟨[Value.slice none 0 0]⟩ 23 (0, 0))).heap.size (wr.alloc (.cells ⟨[Value.slice none 0 0]⟩ 23 (0, 0))) w' := by
          have h0 := Sum_calls (some ⟨wr.heap.size, 0, none⟩) 1 [(none, 0, [])] (by simp) (wr.alloc (.cells ⟨[Value.slice none 0 0]⟩ 23 (0, 0))) (Rd.one _ _) (by intro p hp; obtain rfl := List.mem_singleton.1 hp; exact ⟨by simp, Rd.nil _ _⟩)
          rw [flat_one] at h0
          exact h0
        have HSc := Lib.hid hS
        clear hS hzs HN HO
        go_wp2_with fail
        go_loopw [101] (fun v101 wq => v101 = .int .i64 0 ∧ wr = wq) (fun _ _ => 0)
        case atStart => exact ⟨rfl, rfl⟩
        case round =>
          obtain ⟨rfl, rfl⟩ := hrel
          go_wp2_with fail
          refine HSc.out.mono ?_
          rintro e w9 ⟨rfl, hb9⟩
          have hb19 := ((Below.refl wr.heap.size wr).alloc (Nat.le_refl _) (.cells ⟨[Value.slice none 0 0]⟩ 23 (0, 0))).trans (hb9.mono (by simp))
          have HB9 := Lib.hid (HB.out.trans (hb19.mono HB.out.size))
          have q1 : IntKind.u32.wrap (Q : Int) = (Q : Int) := by rw [IntKind.wrap_u32]; omega
          obtain ⟨X, hX⟩ : ∃ X, crc [] = X := ⟨_, rfl⟩
          rw [hX]
          have HX9 := Lib.hid hX
          clear hb9 hb19 hX HSc
          by_cases hq : X.toNat = Q
          · have q2 : (nW X == (Q : Int)) = true := by unfold nW; rw [beq_iff_eq]; omega
            have q3 : nW X = (Q : Int) := by unfold nW; omega
            go_wp2_with fail
            go_ret3
            refine ⟨⟨fun _ => ⟨none, 0, rfl, Nat.le_refl _, fun _ => rfl, by rw [HC.out]; exact Rd.nil _ _, fun _ h => nomatch h⟩, fun h => absurd ⟨by rw [HC.out]; exact HZ0, by rw [HC.out]; exact (congrArg BitVec.toNat HX9.out).trans hq⟩ h⟩, HB9.out⟩
          · have q2 : (nW X == (Q : Int)) = false := by unfold nW; rw [beq_eq_false_iff_ne]; omega
            have q3 : ¬ nW X = (Q : Int) := by unfold nW; omega
            go_wp2_with fail
            go_ret3
            refine ⟨⟨fun h => absurd ?_ hq, fun _ => ⟨_, _, _, _, rfl⟩⟩, HB9.out⟩
            have h2 := h.2
            rw [HC.out] at h2
            exact (congrArg BitVec.toNat HX9.out.symm).trans h2
      · obtain ⟨m, hm⟩ : ∃ m, j * 128 = m + 1 := ⟨j * 128 - 1, by omega⟩
        rw [hm] at hCl hzs
        obtain ⟨gc, cap, rfl, hcap, hcapm, hgb, hgl, hrc⟩ := Fr.Has.row HO.out m hCl
        have HRC := Lib.hid hrc
        have HCl := Lib.hid hCl
        have HGB := Lib.hid hgb
        have f2 : ((Z : Int)).toNat = Z := by omega
        have f4 : 0 ≤ (Z : Int) := by omega
        have f5 : (Z : Int) ≤ ((m + 1 : Nat) : Int) := by omega
        have f6 : (Z : Int) ≤ (m : Int) + 1 := by omega
        have f7 : Z ≤ m + 1 := by omega
        have f8 : Z ≤ cap := by omega
        have f10 : (Z : Int) ≤ (cap : Int) := by omega
        clear hrc hCl HN HO hgb
        by_cases hcz : cap = Z
        · go_wp2_with fail
          go_loopw [101] (fun v101 wq => ∃ i : Nat, i ≤ m + 1 - Z ∧ v101 = .int .i64 i ∧ wr = wq ∧ Hid (∀ q, q < i → C[Z + q]? = some 0)) (fun v101 _ => (m + 1 - Z) - (intOf v101).toNat)
          case atStart => exact ⟨0, Nat.zero_le _, rfl, rfl, Lib.hid (fun q hq => absurd hq (by omega))⟩
          case round =>
            obtain ⟨i, hi, rfl, rfl, HZr⟩ := hrel
            by_cases hlt : i < m + 1 - Z
            · exact absurd hlt (by omega)
            · have hd : decide ((i : Int) < ((m + 1 - Z : Nat) : Int)) = false := by rw [decide_eq_false_iff_not]; omega
              have hd2 : decide (i < m + 1 - Z) = false := by rw [decide_eq_false_iff_not]; omega
              have hd3 : ¬ (i : Int) < ((m + 1 - Z : Nat) : Int) := by omega
              obtain ⟨k, hk⟩ : ∃ k, m + 1 - Z = k := ⟨_, rfl⟩
              have hz0 : zerosB (C.drop Z) := by
                intro q hq
                rw [List.length_drop] at hq
                rw [List.getElem?_drop]
                exact HZr.out q (by rw [HCl.out] at hq; omega)
              have HZ0 := Lib.hid hz0
              have hRt : Rd wr (some ⟨gc, 0, none⟩) (bys (C.take Z)) := by have h1 := HRC.out.take Z; rw [show (bys C).take Z = bys (C.take Z) from by simp [bys, List.map_take]] at h1; exact h1
              have HRt := Lib.hid hRt
              have hS : Calls Try.prog 56 #[.slice (some ⟨wr.heap.size, 0, none⟩) 1 1] (wr.alloc (.cells ⟨[Value.slice (some ⟨gc, 0, none⟩) Z Z]⟩ 23 (0, 0))) fun e w' => e = .returned (.int .u32 (nW (crc (C.take Z)))) ∧ Below (wr.alloc (.cells ⟨[Value.slice (some ⟨gc, 0, none⟩) Z Z]⟩ 23 (0, 0))).heap.size (wr.alloc (.cells ⟨[Value.slice (some ⟨gc, 0, none⟩) Z Z]⟩ 23 (0, 0))) w' := by
                have hl : (C.take Z).length = Z := by rw [List.length_take, HCl.out]; omega
                have h0 := Sum_calls (some ⟨wr.heap.size, 0, none⟩) 1 [((some ⟨gc, 0, none⟩), Z, C.take Z)] (by simp) (wr.alloc (.cells ⟨[Value.slice (some ⟨gc, 0, none⟩) (C.take Z).length Z]⟩ 23 (0, 0))) (Rd.one _ _) (by intro p hp; obtain rfl := List.mem_singleton.1 hp; exact ⟨by simp only; rw [hl]; have := HSM.out; omega, HRt.out.alloc _⟩)
                rw [flat_one, hl] at h0
                exact h0
              have HSc := Lib.hid hS
              clear hz0 hRt hS HZr hk
              go_wp2_with fail
              refine HSc.out.mono ?_
              rintro e w9 ⟨rfl, hb9⟩
              have hb19 := ((Below.refl wr.heap.size wr).alloc (Nat.le_refl _) (.cells ⟨[Value.slice (some ⟨gc, 0, none⟩) Z Z]⟩ 23 (0, 0))).trans (hb9.mono (by simp))
              have HR9 := Lib.hid (HRt.out.below hb19)
              have HB9 := Lib.hid (HB.out.trans (hb19.mono HB.out.size))
              have q1 : IntKind.u32.wrap (Q : Int) = (Q : Int) := by rw [IntKind.wrap_u32]; omega
              obtain ⟨X, hX⟩ : ∃ X, crc (C.take Z) = X := ⟨_, rfl⟩
              rw [hX]
              have HX9 := Lib.hid hX
              clear hb9 hb19 hX HSc
              by_cases hq : X.toNat = Q
              · have q2 : (nW X == (Q : Int)) = true := by unfold nW; rw [beq_iff_eq]; omega
                have q3 : nW X = (Q : Int) := by unfold nW; omega
                go_wp2_with fail
                go_ret3
                refine ⟨⟨fun _ => ⟨(some ⟨gc, 0, none⟩), Z, rfl, Nat.le_refl _, (fun h => nomatch h), by rw [HC.out]; exact HR9.out, fun a ha => by cases ha; exact HGB.out⟩, fun h => absurd ⟨by rw [HC.out]; exact HZ0.out, by rw [HC.out, HX9.out]; exact hq⟩ h⟩, HB9.out⟩
              · have q2 : (nW X == (Q : Int)) = false := by unfold nW; rw [beq_eq_false_iff_ne]; omega
                have q3 : ¬ nW X = (Q : Int) := by unfold nW; omega
                go_wp2_with fail
                go_ret3
                refine ⟨⟨fun h => absurd (by rw [← HX9.out, ← HC.out]; exact h.2) hq, fun _ => ⟨_, _, _, _, rfl⟩⟩, HB9.out⟩
        · have hP : ∀ i, i < m + 1 - Z → ∃ b, C[Z + i]? = some b ∧ wr.cell? ⟨gc, Z + i, none⟩ = some (.int .u8 (nB b)) := by
            intro i hi
            obtain ⟨a', ha, hc⟩ := HRC.out.byte (k := Z + i) (by rw [HCl.out]; omega)
            cases ha
            refine ⟨C[Z + i]'(by rw [HCl.out]; omega), List.getElem?_eq_getElem _, ?_⟩
            rw [show (⟨gc, 0, none⟩ : Addr).add (Z + i) = ⟨gc, Z + i, none⟩ from by unfold Addr.add; split <;> simp_all] at hc
            exact hc
          have HPc := Lib.hid hP
          clear hP
          go_wp2_with fail
          go_loopw [101] (fun v101 wq => ∃ i : Nat, i ≤ m + 1 - Z ∧ v101 = .int .i64 i ∧ wr = wq ∧ Hid (∀ q, q < i → C[Z + q]? = some 0)) (fun v101 _ => (m + 1 - Z) - (intOf v101).toNat)
          case atStart => exact ⟨0, Nat.zero_le _, rfl, rfl, Lib.hid (fun q hq => absurd hq (by omega))⟩
          case round =>
            obtain ⟨i, hi, rfl, rfl, HZr⟩ := hrel
            by_cases hlt : i < m + 1 - Z
            · have hd : decide ((i : Int) < ((m + 1 - Z : Nat) : Int)) = true := by rw [decide_eq_true_eq]; omega
              have hd2 : decide (i < m + 1 - Z) = true := by rw [decide_eq_true_eq]; omega
              have hj3 : (i : Int) < ((m + 1 - Z : Nat) : Int) := by omega
              obtain ⟨b, hb1, hb2⟩ := HPc.out i hlt
              have HB1 := Lib.hid hb1
              clear hb1
              by_cases hz : b = 0
              · subst hz
                rw [show nB 0 = 0 from rfl] at hb2
                have f9 : IntKind.i64.wrap ((i : Int) + 1) = ((i + 1 : Nat) : Int) := by rw [IntKind.wrap_i64]; omega
                go_wp2_with fail
                go_roundw
                case rel =>
                  refine ⟨i + 1, by omega, by simp, trivial, Lib.hid (fun q hq => ?_)⟩
                  by_cases e : q = i
                  · rw [e]; exact HB1.out
                  · exact HZr.out q (by omega)
                case measure => simp [intOf]; omega
              · have hz2 : (nB b == 0) = false := by rw [show (0 : Int) = nB 0 from rfl, nB_beq]; simpa using hz
                have hz3 := beq_eq_false_iff_ne.1 hz2
                go_wp2_with fail
                go_ret3
                refine ⟨⟨fun h => absurd h.1 (fun h0 => hz ?_), fun _ => ⟨0, none, 0, 0, rfl⟩⟩, HB.out⟩
                rw [HC.out] at h0
                have h1 := h0 i (by rw [List.length_drop, HCl.out]; omega)
                rw [List.getElem?_drop, HB1.out] at h1
                exact Option.some.inj h1
            · have hd : decide ((i : Int) < ((m + 1 - Z : Nat) : Int)) = false := by rw [decide_eq_false_iff_not]; omega
              have hd2 : decide (i < m + 1 - Z) = false := by rw [decide_eq_false_iff_not]; omega
              have hd3 : ¬ (i : Int) < ((m + 1 - Z : Nat) : Int) := by omega
              obtain ⟨k, hk⟩ : ∃ k, m + 1 - Z = k := ⟨_, rfl⟩
              have hz0 : zerosB (C.drop Z) := by
                intro q hq
                rw [List.length_drop] at hq
                rw [List.getElem?_drop]
                exact HZr.out q (by rw [HCl.out] at hq; omega)
              have HZ0 := Lib.hid hz0
              have hRt : Rd wr (some ⟨gc, 0, none⟩) (bys (C.take Z)) := by have h1 := HRC.out.take Z; rw [show (bys C).take Z = bys (C.take Z) from by simp [bys, List.map_take]] at h1; exact h1
              have HRt := Lib.hid hRt
              have hS : Calls Try.prog 56 #[.slice (some ⟨wr.heap.size, 0, none⟩) 1 1] (wr.alloc (.cells ⟨[Value.slice (some ⟨gc, 0, none⟩) Z cap]⟩ 23 (0, 0))) fun e w' => e = .returned (.int .u32 (nW (crc (C.take Z)))) ∧ Below (wr.alloc (.cells ⟨[Value.slice (some ⟨gc, 0, none⟩) Z cap]⟩ 23 (0, 0))).heap.size (wr.alloc (.cells ⟨[Value.slice (some ⟨gc, 0, none⟩) Z cap]⟩ 23 (0, 0))) w' := by
                have hl : (C.take Z).length = Z := by rw [List.length_take, HCl.out]; omega
                have h0 := Sum_calls (some ⟨wr.heap.size, 0, none⟩) 1 [((some ⟨gc, 0, none⟩), cap, C.take Z)] (by simp) (wr.alloc (.cells ⟨[Value.slice (some ⟨gc, 0, none⟩) (C.take Z).length cap]⟩ 23 (0, 0))) (Rd.one _ _) (by intro p hp; obtain rfl := List.mem_singleton.1 hp; exact ⟨by simp only; rw [hl]; have := HSM.out; omega, HRt.out.alloc _⟩)
                rw [flat_one, hl] at h0
                exact h0
              have HSc := Lib.hid hS
              clear hz0 hRt hS HZr hk
              go_wp2_with fail
              refine HSc.out.mono ?_
              rintro e w9 ⟨rfl, hb9⟩
              have hb19 := ((Below.refl wr.heap.size wr).alloc (Nat.le_refl _) (.cells ⟨[Value.slice (some ⟨gc, 0, none⟩) Z cap]⟩ 23 (0, 0))).trans (hb9.mono (by simp))
              have HR9 := Lib.hid (HRt.out.below hb19)
              have HB9 := Lib.hid (HB.out.trans (hb19.mono HB.out.size))
              have q1 : IntKind.u32.wrap (Q : Int) = (Q : Int) := by rw [IntKind.wrap_u32]; omega
              obtain ⟨X, hX⟩ : ∃ X, crc (C.take Z) = X := ⟨_, rfl⟩
              rw [hX]
              have HX9 := Lib.hid hX
              clear hb9 hb19 hX HSc
              by_cases hq : X.toNat = Q
              · have q2 : (nW X == (Q : Int)) = true := by unfold nW; rw [beq_iff_eq]; omega
                have q3 : nW X = (Q : Int) := by unfold nW; omega
                go_wp2_with fail
                go_ret3
                refine ⟨⟨fun _ => ⟨(some ⟨gc, 0, none⟩), cap, rfl, f8, (fun h => nomatch h), by rw [HC.out]; exact HR9.out, fun a ha => by cases ha; exact HGB.out⟩, fun h => absurd ⟨by rw [HC.out]; exact HZ0.out, by rw [HC.out, HX9.out]; exact hq⟩ h⟩, HB9.out⟩
              · have q2 : (nW X == (Q : Int)) = false := by unfold nW; rw [beq_eq_false_iff_ne]; omega
                have q3 : ¬ nW X = (Q : Int) := by unfold nW; omega
                go_wp2_with fail
                go_ret3
                refine ⟨⟨fun h => absurd (by rw [← HX9.out, ← HC.out]; exact h.2) hq, fun _ => ⟨_, _, _, _, rfl⟩⟩, HB9.out⟩
end Go.Proofs.Ytmlgkahadgpaiaa.Va
namespace Go.Proofs.Ytmlgkahadgpaiaa.Va
open Go.RowKit _root_.Go.Proofs.Ytmlgkahadgpaiaa.Own
open Go.Proofs.Ytmlgkahadgpaiaa.Fr
open Go.Proofs.Ytmlgkahadgpaiaa.Dk (D Is D0 torn putRow rowB wst DOk made_all wpList_make_at rowB_length)
set_option linter.unusedVariables false
set_option linter.unusedSimpArgs false
def sizeF (x : List UInt8) : Nat := val ((((x.take 120).drop 8).take 8).take 4)
def sumF (x : List UInt8) : Nat := val (((((x.take 120).drop 8).take 8).drop 4).take 4)
/-- A head that may be. -/
def headOk (x : List UInt8) (odd : Nat) : Prop := frameOk x ∧ genF (x.take 120) % 2 = odd ∧ lenF (x.take 120) = 8 ∧ seqF (x.take 120) ≤ 255 ∧ sizeF x ≤ 32640 ∧ blkN (sizeF x) = seqF (x.take 120)
/-- Contents that the head tells of. -/
def contOk (x C : List UInt8) : Prop := zerosB (C.drop (sizeF x)) ∧ (crc (C.take (sizeF x))).toNat = sumF x
open Classical in
/-- What an area has. -/
noncomputable def hasD (all : List UInt8) (at_ odd : Nat) : Option (Nat × List UInt8) :=
  if headOk (rowB all at_) odd ∧ contOk (rowB all at_) (contN all at_ (seqF ((rowB all at_).take 120))) then
    some (genF ((rowB all at_).take 120), (contN all at_ (seqF ((rowB all at_).take 120))).take (sizeF (rowB all at_))) else none
def HasRes (base : Nat) (o : Option (Nat × List UInt8)) (e : Ending) (w' : World) : Prop :=
  (∀ G b, o = some (G, b) → ∃ A c, e = .returned (.tuple #[.int .i64 (G : Nat), .slice A b.length c, .bool true]) ∧ b.length ≤ c ∧ (A = none → c = 0) ∧ Rd w' A (bys b) ∧ ∀ a, A = some a → base ≤ a.block)
  ∧ (o = none → ∃ (g : Int) (A : Option Addr) (n c : Nat), e = .returned (.tuple #[.int .i64 g, .slice A n c, .bool false]))
theorem HasRes.none_ {base : Nat} {e : Ending} {w' : World} (h : e = .returned (.tuple #[.int .i64 0, .slice none 0 0, .bool false])) : HasRes base none e w' :=
  ⟨(fun _ _ h => nomatch h), fun _ => ⟨0, none, 0, 0, h⟩⟩
theorem hasD_none {all : List UInt8} {at_ odd : Nat} (h : ¬ headOk (rowB all at_) odd) : hasD all at_ odd = none := by
  unfold hasD
  rw [if_neg (fun q => h q.1)]
theorem has_calls {w0 : World} {v g r n f : Nat} {d : D} {w : World} (p : VS w0 v g r n f d w) (ho : d.off = false) (hf : f + 512 ≤ n) (hn : n ≤ 1024) (odd : Nat) (h2 : odd < 2) :
    Calls Try.prog 44 #[.pointer (some ⟨v, 0, none⟩), .int .i64 odd] w fun e w' => HasRes w.heap.size (hasD d.all (areaN f odd) odd) e w' ∧ Below w.heap.size w w' := by
  have har : areaN f odd + 256 ≤ n := by unfold areaN; omega
  by_cases c1 : frameOk (rowB d.all (areaN f odd))
  · by_cases c2 : genF ((rowB d.all (areaN f odd)).take 120) % 2 = odd ∧ lenF ((rowB d.all (areaN f odd)).take 120) = 8 ∧ seqF ((rowB d.all (areaN f odd)).take 120) ≤ 255
    · have hh : HeadIs (rowB d.all (areaN f odd)) odd (genF ((rowB d.all (areaN f odd)).take 120)) (seqF ((rowB d.all (areaN f odd)).take 120)) (sizeF (rowB d.all (areaN f odd))) (sumF (rowB d.all (areaN f odd))) :=
        ⟨c1, rfl, rfl, c2.2.1, c2.1, c2.2.2, rfl, rfl⟩
      by_cases c3 : sizeF (rowB d.all (areaN f odd)) ≤ 32640
      · by_cases c4 : blkN (sizeF (rowB d.all (areaN f odd))) = seqF ((rowB d.all (areaN f odd)).take 120)
        · refine (has_rest p ho hf hn odd h2 hh c3 c4).mono ?_
          rintro e w' ⟨hp, hb⟩
          refine ⟨?_, hb⟩
          have hhd : headOk (rowB d.all (areaN f odd)) odd := ⟨c1, c2.1, c2.2.1, c2.2.2, c3, c4⟩
          have hle : sizeF (rowB d.all (areaN f odd)) ≤ (contN d.all (areaN f odd) (seqF ((rowB d.all (areaN f odd)).take 120))).length := by
            rw [contN_length d.all (areaN f odd) _ n p.is.len (by have := c2.2.2; omega), ← c4]
            unfold blkN; omega
          by_cases c5 : contOk (rowB d.all (areaN f odd)) (contN d.all (areaN f odd) (seqF ((rowB d.all (areaN f odd)).take 120)))
          · obtain ⟨A, c, he, h1, h3, h4, h5⟩ := hp.1 c5
            rw [show hasD d.all (areaN f odd) odd = some (_, _) from by unfold hasD; rw [if_pos ⟨hhd, c5⟩]]
            refine ⟨?_, fun h => nomatch h⟩
            rintro G b hGb
            cases hGb
            have hl : ((contN d.all (areaN f odd) (seqF ((rowB d.all (areaN f odd)).take 120))).take (sizeF (rowB d.all (areaN f odd)))).length = sizeF (rowB d.all (areaN f odd)) := by rw [List.length_take]; omega
            rw [hl]
            exact ⟨A, c, he, h1, h3, h4, h5⟩
          · rw [show hasD d.all (areaN f odd) odd = none from by unfold hasD; rw [if_neg (fun q => c5 q.2)]]
            exact ⟨(fun _ _ h => nomatch h), fun _ => hp.2 c5⟩
        · rw [hasD_none (fun q => c4 q.2.2.2.2.2)]
          exact (has_badblocks p ho hf hn odd h2 hh c3 c4).mono fun e w' ⟨h1, h3⟩ => ⟨HasRes.none_ h1, h3⟩
      · rw [hasD_none (fun q => c3 q.2.2.2.2.1)]
        exact (has_badsize p ho hf hn odd h2 hh (by omega)).mono fun e w' ⟨h1, h3⟩ => ⟨HasRes.none_ h1, h3⟩
    · rw [hasD_none (fun q => c2 ⟨q.2.1, q.2.2.1, q.2.2.2.1⟩)]
      exact (has_badhead p ho hf hn odd h2 c1 (by
        by_cases k1 : genF ((rowB d.all (areaN f odd)).take 120) % 2 = odd
        · by_cases k2 : lenF ((rowB d.all (areaN f odd)).take 120) = 8
          · exact .inr (.inr (Nat.lt_of_not_le (fun k3 => c2 ⟨k1, k2, k3⟩)))
          · exact .inr (.inl k2)
        · exact .inl k1)).mono fun e w' ⟨h1, h3⟩ => ⟨HasRes.none_ h1, h3⟩
  · rw [hasD_none (fun q => c1 q.1)]
    exact (has_noframe p ho hf hn odd h2 c1).mono fun e w' ⟨h1, h3⟩ => ⟨HasRes.none_ h1, h3⟩
/-- The later one. -/
def better (o o' : Option (Nat × List UInt8)) : Option (Nat × List UInt8) :=
  match o', o with
  | none, o => o
  | some (h, b), none => some (h, b)
  | some (h, b), some (g, a) => if g < h then some (h, b) else some (g, a)
/-- What Load answers of a disk that is on. -/
noncomputable def loadD (all : List UInt8) (f : Nat) : Option (Nat × List UInt8) := better (hasD all (areaN f 0) 0) (hasD all (areaN f 1) 1)
end Go.Proofs.Ytmlgkahadgpaiaa.Va
