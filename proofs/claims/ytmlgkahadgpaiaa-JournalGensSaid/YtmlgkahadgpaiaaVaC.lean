/- Chapter 10: what an area has. -/
import Derived.Test.YtmlgkahadgpaiaaVaB
import Derived.Test.YtmlgkahadgpaiaaFrL
namespace Go.Proofs.Ytmlgkahadgpaiaa.Va
open Go.RowKit _root_.Go.Proofs.Ytmlgkahadgpaiaa.Own
open Go.Proofs.Ytmlgkahadgpaiaa.Fr
open Go.Proofs.Ytmlgkahadgpaiaa.Dk (D Is D0 torn putRow rowB wst DOk made_all wpList_make_at rowB_length)
set_option linter.unusedVariables false
set_option linter.unusedSimpArgs false
/-- What is no frame is refused. -/
theorem read_one (kind : UInt8) (blk : List UInt8) (hb : blk.length = 128) :
    (∃ E : Int, ¬ E = 0 ∧ ∀ (a : Addr) (c : Nat) (w : World), 128 ≤ c → Rd w (some a) (bys blk) →
      (Calls Try.prog 59 #[.int .u8 (nB kind), .slice (some a) 128 c] w fun e w' => e = .returned (.tuple #[.int .i64 0, .int .i64 0, .slice none 0 0, .int .i64 E]) ∧ Below w.heap.size w w')) ∨
    (formB kind blk ∧ ckB blk = true ∧ genF (blk.take 120) ≤ 2147483647 ∧ lenF (blk.take 120) ≤ 112 ∧ padZ (blk.take 120)) := by
  by_cases h1 : formB kind blk
  · cases h2 : ckB blk with
    | false => exact .inl ⟨18, by decide, fun a c w hc hR => ReadSum_calls kind a c blk hb hc w hR h1 h2⟩
    | true =>
      by_cases h4 : genF (blk.take 120) ≤ 2147483647
      · by_cases h3 : lenF (blk.take 120) ≤ 112
        · by_cases h5 : padZ (blk.take 120)
          · exact .inr ⟨h1, rfl, h4, h3, h5⟩
          · exact .inl ⟨3, by decide, fun a c w hc hR => ReadPad_calls kind a c blk hb hc w hR h1 h2 ⟨h4, h3, h5⟩⟩
        · exact .inl ⟨3, by decide, fun a c w hc hR => ReadLen_calls kind a c blk hb hc w hR h1 h2 ⟨h4, by omega⟩⟩
      · exact .inl ⟨3, by decide, fun a c w hc hR => ReadGen_calls kind a c blk hb hc w hR h1 h2 (by omega)⟩
  · exact .inl ⟨3, by decide, fun a c w hc hR => ReadForm_calls kind a c blk hb hc w hR h1⟩
/-- A head's frame is right. -/
def frameOk (x : List UInt8) : Prop := formB 86 x ∧ ckB x = true ∧ genF (x.take 120) ≤ 2147483647 ∧ lenF (x.take 120) ≤ 112 ∧ padZ (x.take 120)
set_option maxRecDepth 10000 in
set_option maxHeartbeats 4000000 in
theorem has_noframe {w0 : World} {v g r n f : Nat} {d : D} {w : World} (p : VS w0 v g r n f d w) (ho : d.off = false) (hf : f + 512 ≤ n) (hn : n ≤ 1024) (odd : Nat) (h2 : odd < 2) (hno : ¬ frameOk (rowB d.all (areaN f odd))) :
    Calls Try.prog 44 #[.pointer (some ⟨v, 0, none⟩), .int .i64 odd] w fun e w' => e = .returned (.tuple #[.int .i64 0, .slice none 0 0, .bool false]) ∧ Below w.heap.size w w' := by
  have har : areaN f odd + 256 ≤ n := by unfold areaN; omega
  obtain ⟨at_, hat⟩ : ∃ at_, areaN f odd = at_ := ⟨_, rfl⟩
  have HA := Lib.hid (area_calls p.vis odd (by omega))
  rw [hat] at HA har hno
  have hrl := rowB_length d.all n at_ p.is.len (by omega)
  have HRO := Lib.hid (read_one 86 (rowB d.all at_) hrl)
  have HNO := Lib.hid hno
  have HP := Lib.hid p
  obtain ⟨y0, y1⟩ := p.vis.cells
  clear p hno hat
  go_enter Try.func44, Try.ntmps44
  go_wp2_with fail
  refine HA.out.mono ?_
  rintro e w1 ⟨rfl, rfl⟩
  go_wp2_with fail
  refine (Dk.ReadOk_calls HP.out.is at_ (by omega) (Nat.le_refl n) ho).mono ?_
  rintro e w1 ⟨x, rfl, hx, hxr, hb1⟩
  have HB1 := Lib.hid hb1
  have HX := Lib.hid (rd_row hxr)
  clear hx hxr hb1 y0 y1
  go_wp2_with fail
  rcases HRO.out with ⟨E, hE, hcall⟩ | hok
  · refine (hcall ⟨x, 0, none⟩ 128 w1 (Nat.le_refl _) HX.out).mono ?_
    rintro e w2 ⟨rfl, hb2⟩
    have HB2 := Lib.hid (HB1.out.trans (hb2.mono HB1.out.size))
    have hE2 : (E == 0) = false := beq_eq_false_iff_ne.2 hE
    clear hcall hb2
    go_wp2_with fail
    go_ret3
    exact ⟨rfl, HB2.out⟩
  · exact absurd hok HNO.out
end Go.Proofs.Ytmlgkahadgpaiaa.Va
namespace Go.Proofs.Ytmlgkahadgpaiaa.Va
open Go.RowKit _root_.Go.Proofs.Ytmlgkahadgpaiaa.Own
open Go.Proofs.Ytmlgkahadgpaiaa.Fr
open Go.Proofs.Ytmlgkahadgpaiaa.Dk (D Is D0 torn putRow rowB wst DOk made_all wpList_make_at rowB_length)
set_option linter.unusedVariables false
set_option linter.unusedSimpArgs false
theorem ne_cast {a b : Nat} (h : ¬ a = b) : ((a : Int) == (b : Int)) = false := by rw [beq_eq_false_iff_ne]; omega
theorem gt_cast' {a b : Nat} (h : a > b) : decide ((a : Int) > (b : Int)) = true := by rw [decide_eq_true_eq]; omega
theorem le_cast' {a b : Nat} (h : a ≤ b) : decide ((a : Int) > (b : Int)) = false := by rw [decide_eq_false_iff_not]; omega
theorem tmod2 (G : Nat) : ((G : Int)).tmod 2 = ((G % 2 : Nat) : Int) := by rw [Int.tmod_eq_emod_of_nonneg (by omega)]; omega
set_option maxRecDepth 10000 in
set_option maxHeartbeats 4000000 in
theorem has_badhead {w0 : World} {v g r n f : Nat} {d : D} {w : World} (p : VS w0 v g r n f d w) (ho : d.off = false) (hf : f + 512 ≤ n) (hn : n ≤ 1024) (odd : Nat) (h2 : odd < 2) (hok : frameOk (rowB d.all (areaN f odd)))
    (hbad : ¬ genF ((rowB d.all (areaN f odd)).take 120) % 2 = odd ∨ ¬ lenF ((rowB d.all (areaN f odd)).take 120) = 8 ∨ seqF ((rowB d.all (areaN f odd)).take 120) > 255) :
    Calls Try.prog 44 #[.pointer (some ⟨v, 0, none⟩), .int .i64 odd] w fun e w' => e = .returned (.tuple #[.int .i64 0, .slice none 0 0, .bool false]) ∧ Below w.heap.size w w' := by
  have har : areaN f odd + 256 ≤ n := by unfold areaN; omega
  obtain ⟨at_, hat⟩ : ∃ at_, areaN f odd = at_ := ⟨_, rfl⟩
  have HA := Lib.hid (area_calls p.vis odd (by omega))
  rw [hat] at HA har hok hbad
  have hrl := rowB_length d.all n at_ p.is.len (by omega)
  obtain ⟨x, hx⟩ : ∃ x, rowB d.all at_ = x := ⟨_, rfl⟩
  rw [hx] at hok hbad hrl
  have HXX := Lib.hid hx
  have HOK := Lib.hid hok
  have HRL := Lib.hid hrl
  have HP := Lib.hid p
  obtain ⟨y0, y1⟩ := p.vis.cells
  obtain ⟨G, hG⟩ : ∃ G, genF (x.take 120) = G := ⟨_, rfl⟩
  obtain ⟨S, hS⟩ : ∃ S, seqF (x.take 120) = S := ⟨_, rfl⟩
  obtain ⟨N, hN⟩ : ∃ N, lenF (x.take 120) = N := ⟨_, rfl⟩
  rw [hG, hS, hN] at hbad
  have HGSN := Lib.hid (And.intro hG (And.intro hS hN))
  clear p hok hat hx hrl hG hS hN
  have e1 := tmod2 G
  go_enter Try.func44, Try.ntmps44
  go_wp2_with fail
  refine HA.out.mono ?_
  rintro e w1 ⟨rfl, rfl⟩
  go_wp2_with fail
  refine (Dk.ReadOk_calls HP.out.is at_ (by omega) (Nat.le_refl n) ho).mono ?_
  rintro e w1 ⟨xg, rfl, hxg, hxr, hb1⟩
  rw [HXX.out] at hxr
  have HB1 := Lib.hid hb1
  have HX := Lib.hid (rd_row hxr)
  clear hxg hxr hb1 y0 y1
  go_wp2_with fail
  have hrd := ReadOk_calls 86 ⟨xg, 0, none⟩ 128 x HRL.out (Nat.le_refl _) w1 HX.out HOK.out.1 HOK.out.2.1 ⟨HOK.out.2.2.1, HOK.out.2.2.2.1, HOK.out.2.2.2.2⟩
  rw [HGSN.out.1, HGSN.out.2.1, HGSN.out.2.2] at hrd
  refine hrd.mono ?_
  rintro e w2 ⟨⟨A2, c2, rfl, -, -, -, -⟩, hb2⟩
  have HB2 := Lib.hid (HB1.out.trans (hb2.mono HB1.out.size))
  clear hrd hb2
  by_cases k1 : G % 2 = odd
  · have k1' : ((G % 2 : Nat) : Int) = (odd : Int) := by rw [k1]
    rw [k1'] at e1
    by_cases k2 : N = 8
    · have k3 : S > 255 := by
        rcases hbad with h | h | h
        · exact absurd k1 h
        · exact absurd k2 h
        · exact h
      subst k2
      have e3 : decide ((S : Int) > 255) = true := gt_cast' k3
      go_wp2_with fail
      go_ret3
      exact ⟨rfl, HB2.out⟩
    · have e2 : ((N : Int) == 8) = false := ne_cast k2
      go_wp2_with fail
      go_ret3
      exact ⟨rfl, HB2.out⟩
  · have e2 := ne_cast k1
    have e3 : ¬ ((G % 2 : Nat) : Int) = (odd : Int) := beq_eq_false_iff_ne.1 e2
    obtain ⟨q, hq⟩ : ∃ q, G % 2 = q := ⟨_, rfl⟩
    rw [hq] at e1 e2 e3 k1
    go_wp2_with fail
    go_ret3
    exact ⟨rfl, HB2.out⟩
end Go.Proofs.Ytmlgkahadgpaiaa.Va
namespace Go.Proofs.Ytmlgkahadgpaiaa.Va
open Go.RowKit _root_.Go.Proofs.Ytmlgkahadgpaiaa.Own
open Go.Proofs.Ytmlgkahadgpaiaa.Fr
open Go.Proofs.Ytmlgkahadgpaiaa.Dk (D Is D0 torn putRow rowB wst DOk made_all wpList_make_at rowB_length)
set_option linter.unusedVariables false
set_option linter.unusedSimpArgs false
/-- A head: generation, blocks, size, sum. -/
structure HeadIs (x : List UInt8) (odd G S Z Q : Nat) : Prop where
  frame : frameOk x
  gen : genF (x.take 120) = G
  seq : seqF (x.take 120) = S
  len : lenF (x.take 120) = 8
  par : G % 2 = odd
  few : S ≤ 255
  size : val ((((x.take 120).drop 8).take 8).take 4) = Z
  sum : val (((((x.take 120).drop 8).take 8).drop 4).take 4) = Q
theorem val_four (xs : List UInt8) : val (xs.take 4) ≤ 4294967295 := by
  have h1 := val_lt (xs.take 4)
  have h2 : (xs.take 4).length ≤ 4 := by rw [List.length_take]; omega
  have h3 := Nat.pow_le_pow_right (show 0 < 256 by decide) h2
  omega
set_option maxRecDepth 10000 in
set_option maxHeartbeats 4000000 in
theorem has_badsize {w0 : World} {v g r n f : Nat} {d : D} {w : World} (p : VS w0 v g r n f d w) (ho : d.off = false) (hf : f + 512 ≤ n) (hn : n ≤ 1024) (odd : Nat) (h2 : odd < 2) {G S Z Q : Nat} (hh : HeadIs (rowB d.all (areaN f odd)) odd G S Z Q) (hbad : Z > 32640) :
    Calls Try.prog 44 #[.pointer (some ⟨v, 0, none⟩), .int .i64 odd] w fun e w' => e = .returned (.tuple #[.int .i64 0, .slice none 0 0, .bool false]) ∧ Below w.heap.size w w' := by
  have har : areaN f odd + 256 ≤ n := by unfold areaN; omega
  obtain ⟨at_, hat⟩ : ∃ at_, areaN f odd = at_ := ⟨_, rfl⟩
  have HA := Lib.hid (area_calls p.vis odd (by omega))
  rw [hat] at HA har hh
  have hrl := rowB_length d.all n at_ p.is.len (by omega)
  obtain ⟨x, hx⟩ : ∃ x, rowB d.all at_ = x := ⟨_, rfl⟩
  rw [hx] at hh hrl
  have HXX := Lib.hid hx
  have HHI := Lib.hid hh
  have HRL := Lib.hid hrl
  have HP := Lib.hid p
  obtain ⟨y0, y1⟩ := p.vis.cells
  have hpl : (((x.take 120).drop 8).take 8).length = 8 := by rw [List.length_take, List.length_drop, List.length_take, hrl]; rfl
  obtain ⟨P, hP⟩ : ∃ P, ((x.take 120).drop 8).take 8 = P := ⟨_, rfl⟩
  have hZ := hh.size
  have hQ := hh.sum
  rw [hP] at hpl hZ hQ
  have HPP := Lib.hid hP
  have HPL := Lib.hid hpl
  have HZ := Lib.hid hZ
  have HQ := Lib.hid hQ
  have e1 := tmod2 G
  rw [hh.par] at e1
  have e2 : decide ((S : Int) > 255) = false := le_cast' hh.few
  have e3 : decide (255 < S) = false := decide_eq_false (by have := hh.few; omega)
  have HFE := Lib.hid hh.few
  clear p hh hat hx hrl hpl hP hZ hQ
  go_enter Try.func44, Try.ntmps44
  go_wp2_with fail
  refine HA.out.mono ?_
  rintro e w1 ⟨rfl, rfl⟩
  go_wp2_with fail
  refine (Dk.ReadOk_calls HP.out.is at_ (by omega) (Nat.le_refl n) ho).mono ?_
  rintro e w1 ⟨xg, rfl, hxg, hxr, hb1⟩
  rw [HXX.out] at hxr
  have HB1 := Lib.hid hb1
  have HX := Lib.hid (rd_row hxr)
  clear hxg hxr hb1 y0 y1
  go_wp2_with fail
  have hrd := ReadOk_calls 86 ⟨xg, 0, none⟩ 128 x HRL.out (Nat.le_refl _) w1 HX.out HHI.out.frame.1 HHI.out.frame.2.1 ⟨HHI.out.frame.2.2.1, HHI.out.frame.2.2.2.1, HHI.out.frame.2.2.2.2⟩
  rw [HHI.out.gen, HHI.out.seq, HHI.out.len, HPP.out] at hrd
  refine hrd.mono ?_
  rintro e w2 ⟨⟨A2, c2, rfl, hc2, -, hr2, hfr, hsh⟩, hb2⟩
  obtain ⟨gp, rfl, hgp⟩ := hsh (by decide)
  have HB2 := Lib.hid (HB1.out.trans (hb2.mono HB1.out.size))
  have HR2 := Lib.hid hr2
  clear hrd hb2 hr2 hfr hsh
  go_wp2_with fail
  refine (New_calls gp 8 8 c2 P HPL.out hc2 w2 HR2.out hgp).mono ?_
  rintro e w3 ⟨rfl, hd3, hb3⟩
  have HB3 := Lib.hid (HB2.out.trans (hb3.mono HB2.out.size))
  have hrw := HB2.out.size
  obtain ⟨rg, hrg⟩ : ∃ rg, w2.heap.size = rg := ⟨_, rfl⟩
  rw [hrg] at hd3 hrw ⊢
  have HD3 := Lib.hid hd3
  clear hd3 hb3 hrg hgp
  go_wp2_with fail
  refine (RNumBig_calls HD3.out 4 (by decide) (by decide) (by decide) (by omega) 32640 (by rw [HZ.out]; exact hbad)).mono ?_
  rintro e w4 ⟨rfl, ho4, hd4⟩
  have HB4 := Lib.hid (HB3.out.trans (ho4.less (by intro k hk; simp at hk; omega) HB3.out.size))
  have HD4 := Lib.hid hd4
  clear ho4 hd4
  go_wp2_with fail
  refine (RNumErr_calls HD4.out (by decide) 4 4294967295).mono ?_
  rintro e w5 ⟨rfl, rfl⟩
  go_wp2_with fail
  refine (Err_calls HD4.out).mono ?_
  rintro e w5 ⟨rfl, rfl⟩
  go_wp2_with fail
  go_ret3
  exact ⟨rfl, HB4.out⟩
theorem num_four {g x o c : Nat} {xs : List UInt8} {w : World} (h : Rdr g x o 4 c 0 xs w) (hc : 4 ≤ c) :
    Calls Try.prog 61 #[.pointer (some ⟨g, 0, none⟩), .int .i64 4, .int .i64 4294967295] w fun e' w' => e' = .returned (.int .i64 ((val (xs.take 4) : Nat) : Int)) ∧ Only [g] w w' ∧ ∃ o' n' c', Rdr g x o' n' c' 0 (xs.drop 4) w' := by
  by_cases hc4 : c = 4
  · subst hc4
    refine (RNumLast_calls h (by decide) (by decide) 4294967295 (val_four xs)).mono ?_
    rintro e w1 ⟨rfl, ho, hd⟩
    exact ⟨rfl, ho, _, _, _, hd⟩
  · refine (RNum_calls h 4 (by decide) (by decide) (by decide) (by omega) 4294967295 (val_four xs)).mono ?_
    rintro e w1 ⟨rfl, ho, hd⟩
    exact ⟨rfl, ho, _, _, _, hd⟩
set_option maxRecDepth 10000 in
set_option maxHeartbeats 4000000 in
theorem has_badblocks {w0 : World} {v g r n f : Nat} {d : D} {w : World} (p : VS w0 v g r n f d w) (ho : d.off = false) (hf : f + 512 ≤ n) (hn : n ≤ 1024) (odd : Nat) (h2 : odd < 2) {G S Z Q : Nat} (hh : HeadIs (rowB d.all (areaN f odd)) odd G S Z Q) (hsm : Z ≤ 32640) (hbl : blkN Z ≠ S) :
    Calls Try.prog 44 #[.pointer (some ⟨v, 0, none⟩), .int .i64 odd] w fun e w' => e = .returned (.tuple #[.int .i64 0, .slice none 0 0, .bool false]) ∧ Below w.heap.size w w' := by
  have HSM := Lib.hid hsm
  have e4 : (((blkN Z : Nat) : Int) == (S : Int)) = false := ne_cast hbl
  have e5 : decide (blkN Z = S) = false := decide_eq_false hbl
  have e6 : (blkN Z == S) = false := beq_eq_false_iff_ne.mpr hbl
  have HBL := Lib.hid hbl
  clear hsm hbl
  have har : areaN f odd + 256 ≤ n := by unfold areaN; omega
  obtain ⟨at_, hat⟩ : ∃ at_, areaN f odd = at_ := ⟨_, rfl⟩
  have HA := Lib.hid (area_calls p.vis odd (by omega))
  rw [hat] at HA har hh
  have hrl := rowB_length d.all n at_ p.is.len (by omega)
  obtain ⟨x, hx⟩ : ∃ x, rowB d.all at_ = x := ⟨_, rfl⟩
  rw [hx] at hh hrl
  have HXX := Lib.hid hx
  have HHI := Lib.hid hh
  have HRL := Lib.hid hrl
  have HP := Lib.hid p
  obtain ⟨y0, y1⟩ := p.vis.cells
  have hpl : (((x.take 120).drop 8).take 8).length = 8 := by rw [List.length_take, List.length_drop, List.length_take, hrl]; rfl
  obtain ⟨P, hP⟩ : ∃ P, ((x.take 120).drop 8).take 8 = P := ⟨_, rfl⟩
  have hZ := hh.size
  have hQ := hh.sum
  rw [hP] at hpl hZ hQ
  have HPP := Lib.hid hP
  have HPL := Lib.hid hpl
  have HZ := Lib.hid hZ
  have HQ := Lib.hid hQ
  have e1 := tmod2 G
  rw [hh.par] at e1
  have e2 : decide ((S : Int) > 255) = false := le_cast' hh.few
  have e3 : decide (255 < S) = false := decide_eq_false (by have := hh.few; omega)
  have HFE := Lib.hid hh.few
  clear p hh hat hx hrl hpl hP hZ hQ
  go_enter Try.func44, Try.ntmps44
  go_wp2_with fail
  refine HA.out.mono ?_
  rintro e w1 ⟨rfl, rfl⟩
  go_wp2_with fail
  refine (Dk.ReadOk_calls HP.out.is at_ (by omega) (Nat.le_refl n) ho).mono ?_
  rintro e w1 ⟨xg, rfl, hxg, hxr, hb1⟩
  rw [HXX.out] at hxr
  have HB1 := Lib.hid hb1
  have HX := Lib.hid (rd_row hxr)
  clear hxg hxr hb1 y0 y1
  go_wp2_with fail
  have hrd := ReadOk_calls 86 ⟨xg, 0, none⟩ 128 x HRL.out (Nat.le_refl _) w1 HX.out HHI.out.frame.1 HHI.out.frame.2.1 ⟨HHI.out.frame.2.2.1, HHI.out.frame.2.2.2.1, HHI.out.frame.2.2.2.2⟩
  rw [HHI.out.gen, HHI.out.seq, HHI.out.len, HPP.out] at hrd
  refine hrd.mono ?_
  rintro e w2 ⟨⟨A2, c2, rfl, hc2, -, hr2, hfr, hsh⟩, hb2⟩
  obtain ⟨gp, rfl, hgp⟩ := hsh (by decide)
  have HB2 := Lib.hid (HB1.out.trans (hb2.mono HB1.out.size))
  have HR2 := Lib.hid hr2
  clear hrd hb2 hr2 hfr hsh
  go_wp2_with fail
  refine (New_calls gp 8 8 c2 P HPL.out hc2 w2 HR2.out hgp).mono ?_
  rintro e w3 ⟨rfl, hd3, hb3⟩
  have HB3 := Lib.hid (HB2.out.trans (hb3.mono HB2.out.size))
  have hrw := HB2.out.size
  obtain ⟨rg, hrg⟩ : ∃ rg, w2.heap.size = rg := ⟨_, rfl⟩
  rw [hrg] at hd3 hrw ⊢
  have HD3 := Lib.hid hd3
  clear hd3 hb3 hrg hgp
  go_wp2_with fail
  refine (RNum_calls HD3.out 4 (by decide) (by decide) (by decide) (by omega) 32640 (by rw [HZ.out]; exact HSM.out)).mono ?_
  rintro e w4 ⟨rfl, ho4, hd4⟩
  rw [HZ.out]
  have HB4 := Lib.hid (HB3.out.trans (ho4.less (by intro k hk; simp at hk; omega) HB3.out.size))
  have HD4 := Lib.hid hd4
  clear ho4 hd4
  go_wp2_with fail
  refine (num_four HD4.out (by omega)).mono ?_
  rintro e w5 ⟨rfl, ho5, o5, n5, c5, hd5⟩
  rw [HQ.out]
  have HB5 := Lib.hid (HB4.out.trans (ho5.less (by intro k hk; simp at hk; omega) HB4.out.size))
  have HD5 := Lib.hid hd5
  clear ho5 hd5
  go_wp2_with fail
  refine (Err_calls HD5.out).mono ?_
  rintro e w6 ⟨rfl, rfl⟩
  go_wp2_with fail
  refine (Blocks_calls Z (by have := HSM.out; omega) w5).mono ?_
  rintro e w6 ⟨rfl, rfl⟩
  go_wp2_with fail
  go_ret3
  exact ⟨rfl, HB5.out⟩
end Go.Proofs.Ytmlgkahadgpaiaa.Va
