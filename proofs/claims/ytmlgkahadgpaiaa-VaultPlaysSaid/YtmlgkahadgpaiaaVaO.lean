/- Chapter 10: the reference's has. -/
import Derived.Test.YtmlgkahadgpaiaaVaM
import Derived.Test.YtmlgkahadgpaiaaFrU
import Derived.Test.YtmlgkahadgpaiaaDkR
import Derived.Test.YtmlgkahadgpaiaaTurn
namespace Go.Proofs.Ytmlgkahadgpaiaa.Va
open Go.RowKit _root_.Go.Proofs.Ytmlgkahadgpaiaa.Own
open Go.Proofs.Ytmlgkahadgpaiaa.Fr
open Go.Proofs.Ytmlgkahadgpaiaa.Dk (RD RIs rcells rowB rowB_length row_rd)
set_option linter.unusedVariables false
set_option linter.unusedSimpArgs false
theorem zerosB_iff (l : List UInt8) : zerosB l ↔ l = List.replicate l.length 0 := by
  constructor
  · intro h
    apply List.ext_getElem?
    intro i
    rw [List.getElem?_replicate]
    by_cases hi : i < l.length
    · rw [h i hi, if_pos hi]
    · rw [List.getElem?_eq_none (by omega), if_neg hi]
  · intro h i hi
    rw [h, List.getElem?_replicate, if_pos (by simpa using hi)]
theorem fill_iff (C : List UInt8) (Z : Nat) (hl : C.length = blkN Z * 128) : fillN (C.take Z) = C ↔ zerosB (C.drop Z) := by
  have hZ : Z ≤ C.length := by rw [hl]; exact (fill_le Z).1
  have ht : (C.take Z).length = Z := by rw [List.length_take]; omega
  have hd : (C.drop Z).length = blkN Z * 128 - Z := by rw [List.length_drop, hl]
  rw [zerosB_iff, hd]
  unfold fillN
  rw [ht]
  constructor
  · intro h
    have h2 : C.take Z ++ List.replicate (blkN Z * 128 - Z) 0 = C.take Z ++ C.drop Z := h.trans (List.take_append_drop Z C).symm
    exact (List.append_cancel_left h2).symm
  · intro h
    rw [← h, List.take_append_drop]
theorem head_iff {x : List UInt8} {odd G S Z Q : Nat} (hx : x.length = 128) (h : HeadIs x odd G S Z Q) (hbl : blkN Z = S) (b : List UInt8) (hb : b.length = Z) (hZ : Z ≤ 32640) : headF G b = x ↔ (crc b).toNat = Q := by
  have hg : G ≤ 2147483647 := by rw [← h.gen]; exact h.frame.2.2.1
  constructor
  · intro e
    have h5 := (headF_is G hg b (by omega)).2.2.2.2
    rw [e] at h5
    exact h5.symm.trans h.sum
  · intro e
    have hw := (write_of 86 x hx h.frame.1 h.frame.2.1 h.frame.2.2.2.1).1 h.frame.2.2.2.2
    rw [h.gen, h.seq, h.len] at hw
    obtain ⟨P, hP⟩ : ∃ P, ((x.take 120).drop 8).take 8 = P := ⟨_, rfl⟩
    have hpl : P.length = 8 := by rw [← hP, List.length_take, List.length_drop, List.length_take, hx]; rfl
    have hz := h.size
    have hq := h.sum
    rw [hP] at hw hz hq
    have e1 : be Z 4 = P.take 4 := by
      have := be_val (P.take 4)
      rw [List.length_take, hpl, hz] at this
      exact this
    have e2 : be Q 4 = P.drop 4 := by
      have h0 : (P.drop 4).take 4 = P.drop 4 := List.take_of_length_le (by rw [List.length_drop, hpl]; decide)
      rw [h0] at hq
      have := be_val (P.drop 4)
      rw [List.length_drop, hpl, hq] at this
      exact this
    unfold headF headP
    rw [hb, e, e1, e2, List.take_append_drop, hbl]
    exact hw
theorem Rread_one (kind : UInt8) (blk : List UInt8) (hb : blk.length = 128) :
    (∃ E : Int, ¬ E = 0 ∧ ∀ (a : Addr) (c : Nat) (w : World), 128 ≤ c → Rd w (some a) (bys blk) →
      (Calls Try.prog 67 #[.int .u8 (nB kind), .slice (some a) 128 c] w fun e w' => e = .returned (.tuple #[.int .i64 0, .int .i64 0, .slice none 0 0, .int .i64 E]) ∧ Below w.heap.size w w')) ∨
    (formB kind blk ∧ ckB blk = true ∧ genF (blk.take 120) ≤ 2147483647 ∧ lenF (blk.take 120) ≤ 112 ∧ padZ (blk.take 120)) := by
  by_cases h1 : formB kind blk
  · cases h2 : ckB blk with
    | false => exact .inl ⟨18, by decide, fun a c w hc hR => RReadSum_calls kind a c blk hb hc w hR h1 h2⟩
    | true =>
      by_cases h3 : lenF (blk.take 120) ≤ 112
      · by_cases h4 : genF (blk.take 120) ≤ 2147483647
        · by_cases h5 : padZ (blk.take 120)
          · exact .inr ⟨h1, rfl, h4, h3, h5⟩
          · exact .inl ⟨3, by decide, fun a c w hc hR => RReadPad_calls kind a c blk hb hc w hR h1 h2 ⟨h3, h4, h5⟩⟩
        · exact .inl ⟨3, by decide, fun a c w hc hR => RReadGen_calls kind a c blk hb hc w hR h1 h2 ⟨h3, by omega⟩⟩
      · exact .inl ⟨3, by decide, fun a c w hc hR => RReadLen_calls kind a c blk hb hc w hR h1 h2 (by omega)⟩
  · exact .inl ⟨3, by decide, fun a c w hc hR => RReadForm_calls kind a c blk hb hc w hR h1⟩
set_option maxRecDepth 10000 in
set_option maxHeartbeats 4000000 in
theorem Rhas_noframe {h q n : Nat} {rd : RD} {w : World} (hI : RIs h q n rd w) (hn : n ≤ 1024) (ho : rd.off = false) (at_ : Nat) (har : at_ + 256 ≤ n) (odd : Nat) (hno : ¬ frameOk (rowB rd.all at_)) :
    Calls Try.prog 54 #[.pointer (some ⟨h, 0, none⟩), .int .i64 at_, .int .i64 odd] w fun e w' => e = .returned (.tuple #[.int .i64 0, .slice none 0 0, .bool false]) ∧ Below w.heap.size w w' := by
  have hrl := rowB_length rd.all n at_ hI.len (by omega)
  obtain ⟨x, hx⟩ : ∃ x, rowB rd.all at_ = x := ⟨_, rfl⟩
  rw [hx] at hrl hno
  have HXX := Lib.hid hx
  have HRL := Lib.hid hrl
  have HI := Lib.hid hI
  have HRO := Lib.hid (Rread_one 86 x hrl)
  have HNO := Lib.hid hno
  clear hI hno hx hrl
  go_enter Try.func54, Try.ntmps54
  go_wp2_with fail
  refine (Dk.RReadOk_calls HI.out hn at_ (by omega) ho).mono ?_
  rintro e w1 ⟨v1, rfl, hv1, hb1⟩
  rw [HXX.out] at hv1
  obtain ⟨gx, cx, rfl, hcx, -, -, -, hrx⟩ := Fr.Has.row hv1 127 HRL.out
  have HB1 := Lib.hid hb1
  have HX := Lib.hid hrx
  have HI1 := Lib.hid (HI.out.below hb1)
  clear hv1 hb1 hrx
  go_wp2_with fail
  rcases HRO.out with ⟨E, hE, hcall⟩ | hok
  · refine (hcall ⟨gx, 0, none⟩ cx w1 hcx HX.out).mono ?_
    rintro e w2 ⟨rfl, hb2⟩
    have HB2 := Lib.hid (HB1.out.trans (hb2.mono HB1.out.size))
    have hE2 : (E == 0) = false := beq_eq_false_iff_ne.2 hE
    clear hcall hb2
    go_wp2_with fail
    go_ret3
    exact ⟨rfl, HB2.out⟩
  · exact absurd hok HNO.out
set_option maxRecDepth 10000 in
set_option maxHeartbeats 4000000 in
theorem Rhas_badhead {h q n : Nat} {rd : RD} {w : World} (hI : RIs h q n rd w) (hn : n ≤ 1024) (ho : rd.off = false) (at_ : Nat) (har : at_ + 256 ≤ n) (odd : Nat) (hok : frameOk (rowB rd.all at_)) (hbad : ¬ genF ((rowB rd.all at_).take 120) % 2 = odd ∨ ¬ lenF ((rowB rd.all at_).take 120) = 8 ∨ seqF ((rowB rd.all at_).take 120) > 255) :
    Calls Try.prog 54 #[.pointer (some ⟨h, 0, none⟩), .int .i64 at_, .int .i64 odd] w fun e w' => e = .returned (.tuple #[.int .i64 0, .slice none 0 0, .bool false]) ∧ Below w.heap.size w w' := by
  have hrl := rowB_length rd.all n at_ hI.len (by omega)
  obtain ⟨x, hx⟩ : ∃ x, rowB rd.all at_ = x := ⟨_, rfl⟩
  rw [hx] at hrl hok hbad
  have HXX := Lib.hid hx
  have HRL := Lib.hid hrl
  have HI := Lib.hid hI
  have HOK := Lib.hid hok
  obtain ⟨G, hG⟩ : ∃ G, genF (x.take 120) = G := ⟨_, rfl⟩
  obtain ⟨S, hS⟩ : ∃ S, seqF (x.take 120) = S := ⟨_, rfl⟩
  obtain ⟨N, hN⟩ : ∃ N, lenF (x.take 120) = N := ⟨_, rfl⟩
  rw [hG, hS, hN] at hbad
  have HGSN := Lib.hid (And.intro hG (And.intro hS hN))
  clear hI hok hx hrl hG hS hN
  have e1 := tmod2 G
  go_enter Try.func54, Try.ntmps54
  go_wp2_with fail
  refine (Dk.RReadOk_calls HI.out hn at_ (by omega) ho).mono ?_
  rintro e w1 ⟨v1, rfl, hv1, hb1⟩
  rw [HXX.out] at hv1
  obtain ⟨gx, cx, rfl, hcx, -, -, -, hrx⟩ := Fr.Has.row hv1 127 HRL.out
  have HB1 := Lib.hid hb1
  have HX := Lib.hid hrx
  have HI1 := Lib.hid (HI.out.below hb1)
  clear hv1 hb1 hrx
  go_wp2_with fail
  have hrd := Fr.RReadOk_calls 86 ⟨gx, 0, none⟩ cx x HRL.out hcx w1 HX.out HOK.out.1 HOK.out.2.1 ⟨HOK.out.2.2.2.1, HOK.out.2.2.1, HOK.out.2.2.2.2⟩
  rw [HGSN.out.1, HGSN.out.2.1, HGSN.out.2.2] at hrd
  refine hrd.mono ?_
  rintro e w2 ⟨⟨A2, c2, rfl, -, -, -⟩, hb2⟩
  have HB2 := Lib.hid (HB1.out.trans (hb2.mono HB1.out.size))
  clear hrd hb2
  by_cases k1 : G % 2 = odd
  · have k1' : ((G % 2 : Nat) : Int) = (odd : Int) := by rw [k1]
    rw [k1'] at e1
    by_cases k2 : N = 8
    · have k3 : S > 255 := by
        rcases hbad with h | h | h
        · exact absurd k1 h
        · exact absurd k2 h
        · exact h
      subst k2
      have e3 : decide ((S : Int) > 255) = true := gt_cast' k3
      go_wp2_with fail
      go_ret3
      exact ⟨rfl, HB2.out⟩
    · have e2 : ((N : Int) == 8) = false := ne_cast k2
      go_wp2_with fail
      go_ret3
      exact ⟨rfl, HB2.out⟩
  · have e2 := ne_cast k1
    have e3 : ¬ ((G % 2 : Nat) : Int) = (odd : Int) := beq_eq_false_iff_ne.1 e2
    obtain ⟨m, hm⟩ : ∃ m, G % 2 = m := ⟨_, rfl⟩
    rw [hm] at e1 e2 e3 k1
    go_wp2_with fail
    go_ret3
    exact ⟨rfl, HB2.out⟩
set_option maxRecDepth 10000 in
set_option maxHeartbeats 4000000 in
theorem Rhas_badblocks {h q n : Nat} {rd : RD} {w : World} (hI : RIs h q n rd w) (hn : n ≤ 1024) (ho : rd.off = false) (at_ : Nat) (har : at_ + 256 ≤ n) (odd : Nat) {G S Z Q : Nat} (hh : HeadIs (rowB rd.all at_) odd G S Z Q) (hbl : blkN Z ≠ S) :
    Calls Try.prog 54 #[.pointer (some ⟨h, 0, none⟩), .int .i64 at_, .int .i64 odd] w fun e w' => e = .returned (.tuple #[.int .i64 0, .slice none 0 0, .bool false]) ∧ Below w.heap.size w w' := by
  have e4 : (((blkN Z : Nat) : Int) == (S : Int)) = false := ne_cast hbl
  have e5 : decide (blkN Z = S) = false := decide_eq_false hbl
  have e6 : (blkN Z == S) = false := beq_eq_false_iff_ne.mpr hbl
  have HBL := Lib.hid hbl
  clear hbl
  have hrl := rowB_length rd.all n at_ hI.len (by omega)
  obtain ⟨x, hx⟩ : ∃ x, rowB rd.all at_ = x := ⟨_, rfl⟩
  rw [hx] at hrl hh
  have HXX := Lib.hid hx
  have HRL := Lib.hid hrl
  have HI := Lib.hid hI
  have HHI := Lib.hid hh
  have hpl : (((x.take 120).drop 8).take 8).length = 8 := by rw [List.length_take, List.length_drop, List.length_take, hrl]; rfl
  obtain ⟨P, hP⟩ : ∃ P, ((x.take 120).drop 8).take 8 = P := ⟨_, rfl⟩
  have hZ := hh.size
  rw [hP] at hpl hZ
  have HPP := Lib.hid hP
  have HPL := Lib.hid hpl
  have HZ := Lib.hid hZ
  have e1 := tmod2 G
  rw [hh.par] at e1
  have e2 : decide ((S : Int) > 255) = false := le_cast' hh.few
  have e3 : decide (255 < S) = false := decide_eq_false (by have := hh.few; omega)
  have HFE := Lib.hid hh.few
  have HOK := Lib.hid hh.frame
  clear hI hh hx hrl hpl hP hZ
  go_enter Try.func54, Try.ntmps54
  go_wp2_with fail
  refine (Dk.RReadOk_calls HI.out hn at_ (by omega) ho).mono ?_
  rintro e w1 ⟨v1, rfl, hv1, hb1⟩
  rw [HXX.out] at hv1
  obtain ⟨gx, cx, rfl, hcx, -, -, -, hrx⟩ := Fr.Has.row hv1 127 HRL.out
  have HB1 := Lib.hid hb1
  have HX := Lib.hid hrx
  have HI1 := Lib.hid (HI.out.below hb1)
  clear hv1 hb1 hrx
  go_wp2_with fail
  have hrd := Fr.RReadOk_calls 86 ⟨gx, 0, none⟩ cx x HRL.out hcx w1 HX.out HOK.out.1 HOK.out.2.1 ⟨HOK.out.2.2.2.1, HOK.out.2.2.1, HOK.out.2.2.2.2⟩
  rw [HHI.out.gen, HHI.out.seq, HHI.out.len, HPP.out] at hrd
  refine hrd.mono ?_
  rintro e w2 ⟨⟨A2, c2, rfl, hc2, hA2, hr2⟩, hb2⟩
  obtain ⟨a2, rfl⟩ : ∃ a, A2 = some a := by
    cases A2 with
    | none => have := hA2 rfl; omega
    | some a => exact ⟨a, rfl⟩
  have HB2 := Lib.hid (HB1.out.trans (hb2.mono HB1.out.size))
  have HI2 := Lib.hid (HI1.out.below hb2)
  have HX2 := Lib.hid (HX.out.below hb2)
  have HR2 := Lib.hid hr2
  clear hrd hb2 hr2 hA2 HI1 HX HB1
  go_wp2_with fail
  go_loop [15, 16] (fun v15 v16 => ∃ k : Nat, k ≤ 4 ∧ v16 = .int .i64 k ∧ v15 = .int .i64 ((val (P.take k) : Nat) : Int)) (fun _ v16 => 4 - (intOf v16).toNat)
  case atStart => exact ⟨0, by decide, rfl, by simp [val]⟩
  case round =>
    obtain ⟨k, hk, rfl, rfl⟩ := hrel
    by_cases hlt : k < 4
    · have d1 : decide ((k : Int) < 4) = true := by rw [decide_eq_true_eq]; omega
      have d3 : k < 8 := by omega
      have d2 : decide (k < 8) = true := decide_eq_true d3
      obtain ⟨a', ha', hc⟩ := HR2.out.byte (k := k) (by rw [HPL.out]; exact d3)
      cases ha'
      have htk : P.take (k + 1) = P.take k ++ [P[k]'(by rw [HPL.out]; exact d3)] := List.take_succ_eq_append_getElem _
      obtain ⟨b, hb⟩ : ∃ b, P[k]'(by rw [HPL.out]; exact d3) = b := ⟨_, rfl⟩
      rw [hb] at hc htk
      have hvs : val (P.take (k + 1)) = val (P.take k) * 256 + b.toNat := by rw [htk, val_snoc]
      obtain ⟨V, hV⟩ : ∃ V, val (P.take k) = V := ⟨_, rfl⟩
      have hV16 : V < 16777216 := by rw [← hV]; exact val_small _ (by rw [List.length_take]; omega)
      have f1 := wr1 V hV16
      have f2 := wr2 V hV16 b
      have f3 := wr3 b
      have f4 := wr4 b
      rw [hV] at hvs ⊢
      have HVS := Lib.hid hvs
      have f9 : IntKind.i64.wrap ((k : Int) + 1) = ((k + 1 : Nat) : Int) := by rw [IntKind.wrap_i64]; omega
      clear hb htk hV hV16 hvs e1 e2 e3
      go_wp2_with fail
      go_round
      case rel => exact ⟨k + 1, by omega, by simp, by rw [HVS.out]; simp⟩
      case measure => simp [intOf]; omega
    · obtain rfl : k = 4 := by omega
      have d1 : decide (((4 : Nat) : Int) < 4) = false := by decide
      rw [HZ.out]
      have hZm : Z ≤ 4294967295 := by rw [← HZ.out]; exact val_four P
      have HBk := Lib.hid (RBlocks_calls Z (by omega) w2)
      clear hZm
      go_wp2_with fail
      refine HBk.out.mono ?_
      rintro e w6 ⟨rfl, rfl⟩
      go_wp2_with fail
      go_ret3
      exact ⟨rfl, HB2.out⟩
set_option maxRecDepth 10000 in
set_option maxHeartbeats 4000000 in
theorem Rhas_rest {h q n : Nat} {rd : RD} {w : World} (hI : RIs h q n rd w) (hn : n ≤ 1024) (ho : rd.off = false) (at_ : Nat) (har : at_ + 256 ≤ n) (odd : Nat) {G S Z Q : Nat} (hh : HeadIs (rowB rd.all at_) odd G S Z Q) (hbl : blkN Z = S) :
    Calls Try.prog 54 #[.pointer (some ⟨h, 0, none⟩), .int .i64 at_, .int .i64 odd] w fun e w' => HasPost w.heap.size G Z Q (contN rd.all at_ S) e w' ∧ Below w.heap.size w w' := by
  have e4 : (((blkN Z : Nat) : Int) == (S : Int)) = true := by rw [hbl]; exact beq_self_eq_true _
  have e5 : decide (blkN Z = S) = true := decide_eq_true hbl
  have e6 : (blkN Z == S) = true := by rw [hbl]; exact beq_self_eq_true _
  have e7 : (((blkN Z : Nat) : Int) != (S : Int)) = false := by rw [hbl]; simp
  have HBL := Lib.hid hbl
  have HQ := Lib.hid hh.sum
  clear hbl
  have hrl := rowB_length rd.all n at_ hI.len (by omega)
  obtain ⟨x, hx⟩ : ∃ x, rowB rd.all at_ = x := ⟨_, rfl⟩
  rw [hx] at hrl hh
  have HXX := Lib.hid hx
  have HRL := Lib.hid hrl
  have HI := Lib.hid hI
  have HHI := Lib.hid hh
  have hpl : (((x.take 120).drop 8).take 8).length = 8 := by rw [List.length_take, List.length_drop, List.length_take, hrl]; rfl
  obtain ⟨P, hP⟩ : ∃ P, ((x.take 120).drop 8).take 8 = P := ⟨_, rfl⟩
  have hZ := hh.size
  rw [hP] at hpl hZ
  have HPP := Lib.hid hP
  have HPL := Lib.hid hpl
  have HZ := Lib.hid hZ
  have e1 := tmod2 G
  rw [hh.par] at e1
  have e2 : decide ((S : Int) > 255) = false := le_cast' hh.few
  have e3 : decide (255 < S) = false := decide_eq_false (by have := hh.few; omega)
  have HFE := Lib.hid hh.few
  have HOK := Lib.hid hh.frame
  clear hI hh hx hrl hpl hP hZ
  go_enter Try.func54, Try.ntmps54
  go_wp2_with fail
  refine (Dk.RReadOk_calls HI.out hn at_ (by omega) ho).mono ?_
  rintro e w1 ⟨v1, rfl, hv1, hb1⟩
  rw [HXX.out] at hv1
  obtain ⟨gx, cx, rfl, hcx, -, -, -, hrx⟩ := Fr.Has.row hv1 127 HRL.out
  have HB1 := Lib.hid hb1
  have HX := Lib.hid hrx
  have HI1 := Lib.hid (HI.out.below hb1)
  clear hv1 hb1 hrx
  go_wp2_with fail
  have hrd := Fr.RReadOk_calls 86 ⟨gx, 0, none⟩ cx x HRL.out hcx w1 HX.out HOK.out.1 HOK.out.2.1 ⟨HOK.out.2.2.2.1, HOK.out.2.2.1, HOK.out.2.2.2.2⟩
  rw [HHI.out.gen, HHI.out.seq, HHI.out.len, HPP.out] at hrd
  refine hrd.mono ?_
  rintro e w2 ⟨⟨A2, c2, rfl, hc2, hA2, hr2⟩, hb2⟩
  obtain ⟨a2, rfl⟩ : ∃ a, A2 = some a := by
    cases A2 with
    | none => have := hA2 rfl; omega
    | some a => exact ⟨a, rfl⟩
  have HB2 := Lib.hid (HB1.out.trans (hb2.mono HB1.out.size))
  have HI2 := Lib.hid (HI1.out.below hb2)
  have HX2 := Lib.hid (HX.out.below hb2)
  have HR2 := Lib.hid hr2
  clear hrd hb2 hr2 hA2 HI1 HX HB1
  go_wp2_with fail
  go_loop [15, 16] (fun v15 v16 => ∃ k : Nat, k ≤ 4 ∧ v16 = .int .i64 k ∧ v15 = .int .i64 ((val (P.take k) : Nat) : Int)) (fun _ v16 => 4 - (intOf v16).toNat)
  case atStart => exact ⟨0, by decide, rfl, by simp [val]⟩
  case round =>
    obtain ⟨k, hk, rfl, rfl⟩ := hrel
    by_cases hlt : k < 4
    · have d1 : decide ((k : Int) < 4) = true := by rw [decide_eq_true_eq]; omega
      have d3 : k < 8 := by omega
      have d2 : decide (k < 8) = true := decide_eq_true d3
      obtain ⟨a', ha', hc⟩ := HR2.out.byte (k := k) (by rw [HPL.out]; exact d3)
      cases ha'
      have htk : P.take (k + 1) = P.take k ++ [P[k]'(by rw [HPL.out]; exact d3)] := List.take_succ_eq_append_getElem _
      obtain ⟨b, hb⟩ : ∃ b, P[k]'(by rw [HPL.out]; exact d3) = b := ⟨_, rfl⟩
      rw [hb] at hc htk
      have hvs : val (P.take (k + 1)) = val (P.take k) * 256 + b.toNat := by rw [htk, val_snoc]
      obtain ⟨V, hV⟩ : ∃ V, val (P.take k) = V := ⟨_, rfl⟩
      have hV16 : V < 16777216 := by rw [← hV]; exact val_small _ (by rw [List.length_take]; omega)
      have f1 := wr1 V hV16
      have f2 := wr2 V hV16 b
      have f3 := wr3 b
      have f4 := wr4 b
      rw [hV] at hvs ⊢
      have HVS := Lib.hid hvs
      have f9 : IntKind.i64.wrap ((k : Int) + 1) = ((k + 1 : Nat) : Int) := by rw [IntKind.wrap_i64]; omega
      clear hb htk hV hV16 hvs e1 e2 e3
      go_wp2_with fail
      go_round
      case rel => exact ⟨k + 1, by omega, by simp, by rw [HVS.out]; simp⟩
      case measure => simp [intOf]; omega
    · obtain rfl : k = 4 := by omega
      have d1 : decide (((4 : Nat) : Int) < 4) = false := by decide
      rw [HZ.out]
      have hZm : Z ≤ 4294967295 := by rw [← HZ.out]; exact val_four P
      have HBk := Lib.hid (RBlocks_calls Z (by omega) w2)
      clear hZm
      obtain ⟨lo, hlo⟩ : ∃ lo, (at_ + 1) * 128 = lo := ⟨_, rfl⟩
      obtain ⟨L, hL⟩ : ∃ L, S * 128 = L := ⟨_, rfl⟩
      obtain ⟨m0, hm0⟩ : ∃ m0, n * 128 = m0 := ⟨_, rfl⟩
      have hS := HFE.out
      have hZL : Z ≤ L := by have h1 := HBL.out; unfold blkN at h1; omega
      have q1 : lo + L ≤ m0 ∧ lo < m0 ∧ m0 ≤ 131072 := by omega
      have g1 : IntKind.i64.wrap ((at_ : Int) + 1) = (at_ : Int) + 1 := by rw [IntKind.wrap_i64]; omega
      have g2 : IntKind.i64.wrap (128 * ((at_ : Int) + 1)) = (lo : Int) := by rw [IntKind.wrap_i64]; omega
      have g3 : IntKind.i64.wrap ((at_ : Int) + 1 + (S : Int)) = (at_ : Int) + 1 + (S : Int) := by rw [IntKind.wrap_i64]; omega
      have g4 : IntKind.i64.wrap (128 * ((at_ : Int) + 1 + (S : Int))) = ((lo + L : Nat) : Int) := by rw [IntKind.wrap_i64]; omega
      obtain ⟨hi, hhi⟩ : ∃ hi, lo + L = hi := ⟨_, rfl⟩
      rw [hhi] at g4 q1
      have g5 : (lo : Int) ≤ (hi : Int) ∧ (hi : Int) ≤ (m0 : Int) ∧ 0 ≤ (lo : Int) ∧ 0 ≤ (hi : Int) := by omega
      obtain ⟨g5, g6, g7, g8⟩ := g5
      have g9 : lo ≤ hi ∧ hi ≤ m0 ∧ ¬ m0 = lo ∧ hi - lo = L ∧ Z ≤ m0 - lo := by omega
      obtain ⟨g9, g10, g11, g12, g13⟩ := g9
      have g14 : (Z : Int) ≤ ((m0 - lo : Nat) : Int) := by omega
      obtain ⟨y0, y1, y2, y3, y4⟩ := HI2.out.cells
      rw [hm0] at y0
      have HLO := Lib.hid hlo
      have HLL := Lib.hid hL
      have HZL := Lib.hid hZL
      clear y1 y2 y3 y4 hlo hL hm0 hS hZL q1 hhi e1 e2 e3
      go_wp2_with fail
      refine HBk.out.mono ?_
      rintro e w6 ⟨rfl, rfl⟩
      have hCT : (contN rd.all at_ S).take Z = (rd.all.drop lo).take Z := by
        unfold contN
        rw [HLO.out, HLL.out, List.take_take, Nat.min_eq_left HZL.out]
      have hRD := row_rd HI2.out.row lo Z
      rw [← hCT] at hRD
      have hClen : ((contN rd.all at_ S).take Z).length = Z := by
        rw [List.length_take, contN_length rd.all at_ S n HI.out.len (by have := HFE.out; omega), HLL.out]
        exact Nat.min_eq_left HZL.out
      have HRD := Lib.hid hRD
      have HCL := Lib.hid hClen
      have hRA := row_rd HI2.out.row lo L
      rw [show (rd.all.drop lo).take L = contN rd.all at_ S from by unfold contN; rw [HLO.out, HLL.out]] at hRA
      have HRA := Lib.hid hRA
      have hCl2 : (contN rd.all at_ S).length = L := by rw [contN_length rd.all at_ S n HI.out.len (by have := HFE.out; omega), HLL.out]
      have HCl2 := Lib.hid hCl2
      obtain ⟨C, hC⟩ : ∃ C, contN rd.all at_ S = C := ⟨_, rfl⟩
      rw [hC] at HRD HCL HRA HCl2
      have HC := Lib.hid hC
      have HZs := Lib.hid (show Z ≤ 32640 from by have h1 := HZL.out; have h2 := HLL.out; have h3 := HFE.out; omega)
      clear hCT hRD hClen hRA hCl2 hC
      go_wp2_with (at_builtin; refine wpList_app rfl _ _ 23 rfl w.heap.size 5 (.int .u8 0) 1 Try.underlying23 infoB rfl _ [] rfl (Has.lit _ w2 [] HB2.out.size (by simp [maxLen])) (some ⟨q, lo, none⟩) Z (m0 - lo) (bys (C.take Z)) rfl (by rw [bys_length]; exact HCL.out.symm) (fun h => nomatch h) (HRD.out.alloc _) (bys_one _) (by rw [bys_length, HCL.out]; have := HZs.out; simp [maxLen]; omega) (by rw [bys_length, HCL.out]; have := HZs.out; simp; omega) (by have := HB2.out.size; simp; omega) ?_)
      intro v18 w3 hv3 hg3
      have hb23 : Below w2.heap.size w2 w3 := ((Below.refl w2.heap.size w2).alloc (Nat.le_refl _) (.cells #[] 5)).grown hg3 (by simp) (fun k e => by cases e; exact Nat.le_refl _)
      have HB3 := Lib.hid (HB2.out.trans (hb23.mono HB2.out.size))
      have HI3 := Lib.hid (HI2.out.below hb23)
      have HX3 := Lib.hid (HX2.out.below hb23)
      have HRA3 := Lib.hid (HRA.out.below hb23)
      obtain ⟨A18, c18, rfl, hc18, hA18, hR18⟩ := hv3.form
      rw [bys_length, HCL.out] at hc18 ⊢
      have H18 := Lib.hid (And.intro hc18 (And.intro hA18 hR18))
      have H18f := Lib.hid (show ∀ a, A18 = some a → w.heap.size ≤ a.block from fun a ha => (hv3.blk a.block (by rw [ha]; rfl)).1)
      clear hv3 hg3 hb23 hc18 hA18 hR18 HI2 HX2 HRA HRD HB2
      clear e4 e5 e6 e7
      have hzI := fill_iff C Z (by rw [HCl2.out, ← HLL.out, ← HBL.out])
      have hxI := head_iff HRL.out HHI.out HBL.out (C.take Z) HCL.out HZs.out
      have HZI := Lib.hid hzI
      have HXI := Lib.hid hxI
      clear hzI hxI
      have K := fun (W : World) (hb' : Below w3.heap.size w3 W) => And.intro (run_string_of (w := W) Try.underlying23 Try.underlying5 Try.underlying9 (some ⟨q, lo, none⟩) L (m0 - lo) C HCl2.out.symm (fun h => nomatch h) (HRA3.out.below hb')) (run_string_of (w := W) Try.underlying23 Try.underlying5 Try.underlying9 (some ⟨gx, 0, none⟩) 128 cx x HRL.out.symm (fun h => nomatch h) (HX3.out.below hb'))
      obtain ⟨J, hJ⟩ : ∃ J : World → Prop, ∀ W, J W ↔ Below w3.heap.size w3 W := ⟨_, fun _ => Iff.rfl⟩
      have K := fun W h => K W ((hJ W).1 h)
      have HJ := Lib.hid hJ
      have hj := (HJ.out w3.drew).2 ((Below.refl _ _).drew)
      clear hJ
      go_wp2_with fail
      refine Turn.region_seq [0, 1, 2, 5, 6, 3, 4, 7, 8, 9, 10, 13, 14, 11, 17, 18, 12, 15, 16, 19] (fun i => i == 3 || i == 4 || i == 11 || i == 12) J (by kernel_rfl) (by kernel_rfl) hj ?_
      repeat (first | (apply Turn.seq_yes; (· simp only [List.getElem?_toArray, List.getElem?_cons_succ, List.getElem?_cons_zero]; rfl); (· rfl); (· go_simp); (· intro w1 h1; have K1 := K w1 h1; go_simp; exact ⟨rfl, h1⟩); (· go_simp; rfl)) | (apply Turn.seq_no; (· simp only [List.getElem?_toArray, List.getElem?_cons_succ, List.getElem?_cons_zero]; rfl); (· go_simp); (· go_simp; rfl)))
      apply Turn.seq_call
      · simp only [List.getElem?_toArray, List.getElem?_cons_succ, List.getElem?_cons_zero]; rfl
      · rfl
      · go_simp
      · intro v; go_simp; rfl
      go_simp
      refine (RFilled_calls A18 Z c18 (C.take Z) HCL.out.symm HZs.out H18.out.2.1 _ (H18.out.2.2.below ((HJ.out _).1 hj))).mono ?_
      rintro e w4 ⟨v4, rfl, hv4, hb4⟩
      have hj4 := (HJ.out _).2 (((HJ.out _).1 hj).trans (hb4.mono ((HJ.out _).1 hj).size))
      obtain ⟨A4, c4, rfl, hc4, hA4, hr4⟩ := hv4.form
      rw [bys_length]
      have kx := run_string_of (w := w4) Try.underlying23 Try.underlying5 Try.underlying9 A4 (fillN (C.take Z)).length c4 (fillN (C.take Z)) rfl hA4 hr4
      clear hv4 hb4 hc4 hA4 hr4 hj
      refine ⟨_, rfl, hj4, ?_⟩
      repeat (first | (apply Turn.seq_yes; (· simp only [List.getElem?_toArray, List.getElem?_cons_succ, List.getElem?_cons_zero]; rfl); (· rfl); (· go_simp); (· intro w1 h1; have K1 := K w1 h1; go_simp; exact ⟨rfl, h1⟩); (· go_simp; rfl)) | (apply Turn.seq_no; (· simp only [List.getElem?_toArray, List.getElem?_cons_succ, List.getElem?_cons_zero]; rfl); (· go_simp); (· go_simp; rfl)))
      apply Turn.seq_call
      · simp only [List.getElem?_toArray, List.getElem?_cons_succ, List.getElem?_cons_zero]; rfl
      · rfl
      · go_simp
      · intro v; go_simp; rfl
      go_simp
      refine ⟨hj4, ?_⟩
      clear kx
      by_cases hz : fillN (C.take Z) = C
      · have t1 : (fillN (C.take Z) == C) = true := beq_iff_eq.2 hz
        obtain ⟨F, hF⟩ : ∃ F, fillN (C.take Z) = F := ⟨_, rfl⟩
        rw [hF] at t1 hz ⊢
        have HF := Lib.hid (hF.trans hz)
        clear hF
        repeat (first | (apply Turn.seq_yes; (· simp only [List.getElem?_toArray, List.getElem?_cons_succ, List.getElem?_cons_zero]; rfl); (· rfl); (· go_simp); (· intro w1 h1; have K1 := K w1 h1; go_simp; exact ⟨rfl, h1⟩); (· go_simp; rfl)) | (apply Turn.seq_no; (· simp only [List.getElem?_toArray, List.getElem?_cons_succ, List.getElem?_cons_zero]; rfl); (· go_simp); (· go_simp; rfl)))
        apply Turn.seq_call
        · simp only [List.getElem?_toArray, List.getElem?_cons_succ, List.getElem?_cons_zero]; rfl
        · rfl
        · go_simp
        · intro v; go_simp; rfl
        go_simp
        refine (RHead_calls G (by rw [← HHI.out.gen]; exact HOK.out.2.2.1) A18 Z c18 (C.take Z) HCL.out.symm HZs.out H18.out.2.1 _ (H18.out.2.2.below ((HJ.out _).1 hj4))).mono ?_
        rintro e w5 ⟨v5, rfl, hv5, hb5⟩
        have hj5 := (HJ.out _).2 (((HJ.out _).1 hj4).trans (hb5.mono ((HJ.out _).1 hj4).size))
        obtain ⟨g5, c5, rfl, hc5, -, -, -, hr5⟩ := Fr.Has.row hv5 127 (headF_length G (C.take Z))
        have kx := run_string_of (w := w5) Try.underlying23 Try.underlying5 Try.underlying9 (some ⟨g5, 0, none⟩) 128 c5 (headF G (C.take Z)) (headF_length G (C.take Z)).symm (fun h => nomatch h) hr5
        clear hv5 hb5 hc5 hr5 hj4
        refine ⟨_, rfl, hj5, ?_⟩
        repeat (first | (apply Turn.seq_yes; (· simp only [List.getElem?_toArray, List.getElem?_cons_succ, List.getElem?_cons_zero]; rfl); (· rfl); (· go_simp); (· intro w1 h1; have K1 := K w1 h1; go_simp; exact ⟨rfl, h1⟩); (· go_simp; rfl)) | (apply Turn.seq_no; (· simp only [List.getElem?_toArray, List.getElem?_cons_succ, List.getElem?_cons_zero]; rfl); (· go_simp); (· go_simp; rfl)))
        apply Turn.seq_call
        · simp only [List.getElem?_toArray, List.getElem?_cons_succ, List.getElem?_cons_zero]; rfl
        · rfl
        · go_simp
        · intro v; go_simp; rfl
        go_simp
        refine ⟨hj5, ?_⟩
        clear kx
        by_cases hy : headF G (C.take Z) = x
        · have t2 : (headF G (C.take Z) == x) = true := beq_iff_eq.2 hy
          obtain ⟨F2, hF2⟩ : ∃ F2, headF G (C.take Z) = F2 := ⟨_, rfl⟩
          rw [hF2] at t2 hy ⊢
          have HF2 := Lib.hid (hF2.trans hy)
          clear hF2
          repeat (first | (apply Turn.seq_yes; (· simp only [List.getElem?_toArray, List.getElem?_cons_succ, List.getElem?_cons_zero]; rfl); (· rfl); (· go_simp); (· intro w1 h1; have K1 := K w1 h1; go_simp; exact ⟨rfl, h1⟩); (· go_simp; rfl)) | (apply Turn.seq_no; (· simp only [List.getElem?_toArray, List.getElem?_cons_succ, List.getElem?_cons_zero]; rfl); (· go_simp); (· go_simp; rfl)))
          apply Turn.seq_nil
          have H5 := Lib.hid (HB3.out.trans (((HJ.out _).1 hj5).mono HB3.out.size))
          have H5b := Lib.hid ((HJ.out _).1 hj5)
          clear K HJ hj5 t1 t2 hz hy
          go_wp2_with fail
          go_ret3
          refine ⟨⟨fun _ => ⟨A18, c18, rfl, H18.out.1, H18.out.2.1, by rw [HC.out]; exact H18.out.2.2.below H5b.out, H18f.out⟩, fun hno => absurd ?_ hno⟩, H5.out⟩
          rw [HC.out]
          exact ⟨HZI.out.1 HF.out, HXI.out.1 HF2.out⟩
        · have t2 : (headF G (C.take Z) == x) = false := beq_eq_false_iff_ne.2 hy
          repeat (first | (apply Turn.seq_yes; (· simp only [List.getElem?_toArray, List.getElem?_cons_succ, List.getElem?_cons_zero]; rfl); (· rfl); (· go_simp); (· intro w1 h1; have K1 := K w1 h1; go_simp; exact ⟨rfl, h1⟩); (· go_simp; rfl)) | (apply Turn.seq_no; (· simp only [List.getElem?_toArray, List.getElem?_cons_succ, List.getElem?_cons_zero]; rfl); (· go_simp); (· go_simp; rfl)))
          apply Turn.seq_nil
          have H5 := Lib.hid (HB3.out.trans (((HJ.out _).1 hj5).mono HB3.out.size))
          have HY := Lib.hid hy
          clear K HJ hj5 t1 t2 hz hy
          go_wp2_with fail
          go_ret3
          refine ⟨⟨fun hyes => absurd ?_ HY.out, fun _ => ⟨_, _, _, _, rfl⟩⟩, H5.out⟩
          rw [HC.out] at hyes
          exact HXI.out.2 hyes.2
      · have t1 : (fillN (C.take Z) == C) = false := beq_eq_false_iff_ne.2 hz
        repeat (first | (apply Turn.seq_yes; (· simp only [List.getElem?_toArray, List.getElem?_cons_succ, List.getElem?_cons_zero]; rfl); (· rfl); (· go_simp); (· intro w1 h1; have K1 := K w1 h1; go_simp; exact ⟨rfl, h1⟩); (· go_simp; rfl)) | (apply Turn.seq_no; (· simp only [List.getElem?_toArray, List.getElem?_cons_succ, List.getElem?_cons_zero]; rfl); (· go_simp); (· go_simp; rfl)))
        apply Turn.seq_nil
        have H5 := Lib.hid (HB3.out.trans (((HJ.out _).1 hj4).mono HB3.out.size))
        have HY := Lib.hid hz
        clear K HJ hj4 t1 hz
        go_wp2_with fail
        go_ret3
        refine ⟨⟨fun hyes => absurd ?_ HY.out, fun _ => ⟨_, _, _, _, rfl⟩⟩, H5.out⟩
        rw [HC.out] at hyes
        exact HZI.out.2 hyes.1
end Go.Proofs.Ytmlgkahadgpaiaa.Va
namespace Go.Proofs.Ytmlgkahadgpaiaa.Va
open Go.RowKit _root_.Go.Proofs.Ytmlgkahadgpaiaa.Own
open Go.Proofs.Ytmlgkahadgpaiaa.Fr
open Go.Proofs.Ytmlgkahadgpaiaa.Dk (RD RIs rcells rowB rowB_length row_rd)
set_option linter.unusedVariables false
set_option linter.unusedSimpArgs false
theorem Rhas_calls {h q n : Nat} {rd : RD} {w : World} (hI : RIs h q n rd w) (hn : n ≤ 1024) (ho : rd.off = false) (at_ : Nat) (har : at_ + 256 ≤ n) (odd : Nat) :
    Calls Try.prog 54 #[.pointer (some ⟨h, 0, none⟩), .int .i64 at_, .int .i64 odd] w fun e w' => HasRes w.heap.size (hasD rd.all at_ odd) e w' ∧ Below w.heap.size w w' := by
  by_cases c1 : frameOk (rowB rd.all at_)
  · by_cases c2 : genF ((rowB rd.all at_).take 120) % 2 = odd ∧ lenF ((rowB rd.all at_).take 120) = 8 ∧ seqF ((rowB rd.all at_).take 120) ≤ 255
    · have hh : HeadIs (rowB rd.all at_) odd (genF ((rowB rd.all at_).take 120)) (seqF ((rowB rd.all at_).take 120)) (sizeF (rowB rd.all at_)) (sumF (rowB rd.all at_)) :=
        ⟨c1, rfl, rfl, c2.2.1, c2.1, c2.2.2, rfl, rfl⟩
      by_cases c4 : blkN (sizeF (rowB rd.all at_)) = seqF ((rowB rd.all at_).take 120)
      · refine (Rhas_rest hI hn ho at_ har odd hh c4).mono ?_
        rintro e w' ⟨hp, hb⟩
        refine ⟨?_, hb⟩
        have c3 : sizeF (rowB rd.all at_) ≤ 32640 := by have h1 := c2.2.2; have h2 := (fill_le (sizeF (rowB rd.all at_))).1; omega
        have hhd : headOk (rowB rd.all at_) odd := ⟨c1, c2.1, c2.2.1, c2.2.2, c3, c4⟩
        have hle : sizeF (rowB rd.all at_) ≤ (contN rd.all at_ (seqF ((rowB rd.all at_).take 120))).length := by
          rw [contN_length rd.all at_ _ n hI.len (by have := c2.2.2; omega), ← c4]
          exact (fill_le _).1
        by_cases c5 : contOk (rowB rd.all at_) (contN rd.all at_ (seqF ((rowB rd.all at_).take 120)))
        · obtain ⟨A, c, he, h1, h3, h4, h5⟩ := hp.1 c5
          rw [show hasD rd.all at_ odd = some (_, _) from by unfold hasD; rw [if_pos ⟨hhd, c5⟩]]
          refine ⟨?_, fun h => nomatch h⟩
          rintro G b hGb
          cases hGb
          have hl : ((contN rd.all at_ (seqF ((rowB rd.all at_).take 120))).take (sizeF (rowB rd.all at_))).length = sizeF (rowB rd.all at_) := by rw [List.length_take]; omega
          rw [hl]
          exact ⟨A, c, he, h1, h3, h4, h5⟩
        · rw [show hasD rd.all at_ odd = none from by unfold hasD; rw [if_neg (fun q => c5 q.2)]]
          exact ⟨(fun _ _ h => nomatch h), fun _ => hp.2 c5⟩
      · rw [hasD_none (fun q => c4 q.2.2.2.2.2)]
        exact (Rhas_badblocks hI hn ho at_ har odd hh c4).mono fun e w' ⟨h1, h3⟩ => ⟨HasRes.none_ h1, h3⟩
    · rw [hasD_none (fun q => c2 ⟨q.2.1, q.2.2.1, q.2.2.2.1⟩)]
      exact (Rhas_badhead hI hn ho at_ har odd c1 (by
        by_cases k1 : genF ((rowB rd.all at_).take 120) % 2 = odd
        · by_cases k2 : lenF ((rowB rd.all at_).take 120) = 8
          · exact .inr (.inr (Nat.lt_of_not_le (fun k3 => c2 ⟨k1, k2, k3⟩)))
          · exact .inr (.inl k2)
        · exact .inl k1)).mono fun e w' ⟨h1, h3⟩ => ⟨HasRes.none_ h1, h3⟩
  · rw [hasD_none (fun q => c1 q.1)]
    exact (Rhas_noframe hI hn ho at_ har odd c1).mono fun e w' ⟨h1, h3⟩ => ⟨HasRes.none_ h1, h3⟩
theorem RLoadOff_calls {h q n : Nat} {rd : RD} {w : World} (hI : RIs h q n rd w) (ho : rd.off = true) (f : Int) :
    Calls Try.prog 36 #[.pointer (some ⟨h, 0, none⟩), .int .i64 f] w fun e w' => e = .returned (.tuple #[.int .i64 0, .slice none 0 0, .int .i64 19]) ∧ Below w.heap.size w w' := by
  obtain ⟨h0, h1, h2, h3, h4⟩ := hI.cells
  rw [ho] at h1
  clear hI h0 h2 h3 h4
  go_enter Try.func36, Try.ntmps36
  go_wp2_with fail
  go_ret3
  exact ⟨rfl, Below.refl _ _⟩
set_option maxRecDepth 10000 in
set_option maxHeartbeats 4000000 in
theorem RLoadOn_calls {h q n : Nat} {rd : RD} {w : World} (hI : RIs h q n rd w) (hn : n ≤ 1024) (ho : rd.off = false) (f : Nat) (hf : f + 512 ≤ n) :
    Calls Try.prog 36 #[.pointer (some ⟨h, 0, none⟩), .int .i64 f] w fun e w' => LoadRes w.heap.size (loadD rd.all f) e w' ∧ Below w.heap.size w w' := by
  obtain ⟨h0, h1, h2, h3, h4⟩ := hI.cells
  rw [ho] at h1
  have H0 := Lib.hid (Rhas_calls hI hn ho f (by omega) 0)
  have HI := Lib.hid hI
  have f1 : IntKind.i64.wrap ((f : Int) + 256) = ((f + 256 : Nat) : Int) := by rw [IntKind.wrap_i64]; omega
  have hld : loadD rd.all f = better (hasD rd.all f 0) (hasD rd.all (f + 256) 1) := rfl
  obtain ⟨o0, ho0⟩ : ∃ o, hasD rd.all f 0 = o := ⟨_, rfl⟩
  obtain ⟨o1, ho1⟩ : ∃ o, hasD rd.all (f + 256) 1 = o := ⟨_, rfl⟩
  rw [ho0, ho1] at hld
  rw [ho0] at H0
  have HLD := Lib.hid hld
  have H1 := Lib.hid (fun w1 (hb : Below w.heap.size w w1) => Rhas_calls (HI.out.below hb) hn ho (f + 256) (by omega) 1)
  rw [ho1] at H1
  clear hI h0 h2 h3 h4 hld ho0 ho1
  go_enter Try.func36, Try.ntmps36
  go_wp2_with fail
  refine H0.out.mono ?_
  rintro e w1 ⟨hres, hb⟩
  have HB := Lib.hid hb
  clear hb H0 h1
  cases o0 with
  | none =>
    obtain ⟨g', A', n', c', rfl⟩ := hres.2 rfl
    clear hres
    go_wp2_with fail
    refine (H1.out w1 HB.out).mono ?_
    rintro e w2 ⟨hres, hb⟩
    have HB2 := Lib.hid (HB.out.trans (hb.mono HB.out.size))
    clear hb H1
    cases o1 with
    | none =>
      obtain ⟨g2, A2, n2, c2, rfl⟩ := hres.2 rfl
      clear hres
      go_wp2_with fail
      go_ret3
      rw [HLD.out]
      exact ⟨⟨(fun _ _ h => nomatch h), fun _ => rfl⟩, HB2.out⟩
    | some hb1 =>
      obtain ⟨g2, b2⟩ := hb1
      obtain ⟨A2, c2, rfl, k1, k2, k3, k4⟩ := hres.1 g2 b2 rfl
      have HK := Lib.hid (And.intro k1 (And.intro k2 (And.intro k3 k4)))
      clear hres k1 k2 k3 k4
      go_wp2_with fail
      go_ret3
      rw [HLD.out]
      refine ⟨⟨?_, (fun h => nomatch h)⟩, HB2.out⟩
      rintro G b hGb
      cases hGb
      exact ⟨A2, c2, rfl, HK.out.1, HK.out.2.1, HK.out.2.2.1, fun a ha => Nat.le_trans HB.out.size (HK.out.2.2.2 a ha)⟩
  | some ga =>
    obtain ⟨g0, a0⟩ := ga
    obtain ⟨A0, c0, rfl, j1, j2, j3, j4⟩ := hres.1 g0 a0 rfl
    have HJ := Lib.hid (And.intro j1 (And.intro j2 (And.intro j3 j4)))
    clear hres j1 j2 j3 j4
    go_wp2_with fail
    refine (H1.out w1 HB.out).mono ?_
    rintro e w2 ⟨hres, hb⟩
    have HB2 := Lib.hid (HB.out.trans (hb.mono HB.out.size))
    have HJ3 := Lib.hid (HJ.out.2.2.1.below hb)
    clear hb H1
    cases o1 with
    | none =>
      obtain ⟨g2, A2, n2, c2, rfl⟩ := hres.2 rfl
      clear hres
      go_wp2_with fail
      go_ret3
      rw [HLD.out]
      refine ⟨⟨?_, (fun h => nomatch h)⟩, HB2.out⟩
      rintro G b hGb
      cases hGb
      exact ⟨A0, c0, rfl, HJ.out.1, HJ.out.2.1, HJ3.out, HJ.out.2.2.2⟩
    | some hb1 =>
      obtain ⟨g2, b2⟩ := hb1
      obtain ⟨A2, c2, rfl, k1, k2, k3, k4⟩ := hres.1 g2 b2 rfl
      have HK := Lib.hid (And.intro k1 (And.intro k2 (And.intro k3 k4)))
      clear hres k1 k2 k3 k4
      by_cases hlt : g0 < g2
      · have d1 : decide ((g2 : Int) > (g0 : Int)) = true := by rw [decide_eq_true_eq]; omega
        have d2 : decide (g0 < g2) = true := decide_eq_true hlt
        go_wp2_with fail
        go_ret3
        rw [HLD.out, show better (some (g0, a0)) (some (g2, b2)) = some (g2, b2) from if_pos hlt]
        refine ⟨⟨?_, (fun h => nomatch h)⟩, HB2.out⟩
        rintro G b hGb
        cases hGb
        exact ⟨A2, c2, rfl, HK.out.1, HK.out.2.1, HK.out.2.2.1, fun a ha => Nat.le_trans HB.out.size (HK.out.2.2.2 a ha)⟩
      · have d1 : decide ((g2 : Int) > (g0 : Int)) = false := by rw [decide_eq_false_iff_not]; omega
        have d2 : decide (g0 < g2) = false := decide_eq_false hlt
        go_wp2_with fail
        go_ret3
        rw [HLD.out, show better (some (g0, a0)) (some (g2, b2)) = some (g0, a0) from if_neg hlt]
        refine ⟨⟨?_, (fun h => nomatch h)⟩, HB2.out⟩
        rintro G b hGb
        cases hGb
        exact ⟨A0, c0, rfl, HJ.out.1, HJ.out.2.1, HJ3.out, HJ.out.2.2.2⟩
end Go.Proofs.Ytmlgkahadgpaiaa.Va
