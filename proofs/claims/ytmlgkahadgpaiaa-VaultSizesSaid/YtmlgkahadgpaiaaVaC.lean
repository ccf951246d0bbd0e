/- Chapter 10: what an area has. -/
import Derived.Test.YtmlgkahadgpaiaaVaB
import Derived.Test.YtmlgkahadgpaiaaFrL
namespace Go.Proofs.Ytmlgkahadgpaiaa.Va
open Go.RowKit _root_.Go.Proofs.Ytmlgkahadgpaiaa.Own
open Go.Proofs.Ytmlgkahadgpaiaa.Fr
open Go.Proofs.Ytmlgkahadgpaiaa.Dk (D Is D0 torn putRow rowB wst DOk made_all wpList_make_at rowB_length)
set_option linter.unusedVariables false
set_option linter.unusedSimpArgs false
/-- What is no frame is refused. -/
theorem read_one (kind : UInt8) (blk : List UInt8) (hb : blk.length = 128) :
    (∃ E : Int, ¬ E = 0 ∧ ∀ (a : Addr) (c : Nat) (w : World), 128 ≤ c → Rd w (some a) (bys blk) →
      (Calls Try.prog 59 #[.int .u8 (nB kind), .slice (some a) 128 c] w fun e w' => e = .returned (.tuple #[.int .i64 0, .int .i64 0, .slice none 0 0, .int .i64 E]) ∧ Below w.heap.size w w')) ∨
    (formB kind blk ∧ ckB blk = true ∧ genF (blk.take 120) ≤ 2147483647 ∧ lenF (blk.take 120) ≤ 112 ∧ padZ (blk.take 120)) := by
  by_cases h1 : formB kind blk
  · cases h2 : ckB blk with
    | false => exact .inl ⟨18, by decide, fun a c w hc hR => ReadSum_calls kind a c blk hb hc w hR h1 h2⟩
    | true =>
      by_cases h4 : genF (blk.take 120) ≤ 2147483647
      · by_cases h3 : lenF (blk.take 120) ≤ 112
        · by_cases h5 : padZ (blk.take 120)
          · exact .inr ⟨h1, rfl, h4, h3, h5⟩
          · exact .inl ⟨3, by decide, fun a c w hc hR => ReadPad_calls kind a c blk hb hc w hR h1 h2 ⟨h4, h3, h5⟩⟩
        · exact .inl ⟨3, by decide, fun a c w hc hR => ReadLen_calls kind a c blk hb hc w hR h1 h2 ⟨h4, by omega⟩⟩
      · exact .inl ⟨3, by decide, fun a c w hc hR => ReadGen_calls kind a c blk hb hc w hR h1 h2 (by omega)⟩
  · exact .inl ⟨3, by decide, fun a c w hc hR => ReadForm_calls kind a c blk hb hc w hR h1⟩
/-- A head's frame is right. -/
def frameOk (x : List UInt8) : Prop := formB 86 x ∧ ckB x = true ∧ genF (x.take 120) ≤ 2147483647 ∧ lenF (x.take 120) ≤ 112 ∧ padZ (x.take 120)
set_option maxRecDepth 10000 in
set_option maxHeartbeats 4000000 in
theorem has_noframe {w0 : World} {v g r n f : Nat} {d : D} {w : World} (p : VS w0 v g r n f d w) (ho : d.off = false) (hf : f + 512 ≤ n) (hn : n ≤ 1024) (odd : Nat) (h2 : odd < 2) (hno : ¬ frameOk (rowB d.all (areaN f odd))) :
    Calls Try.prog 44 #[.pointer (some ⟨v, 0, none⟩), .int .i64 odd] w fun e w' => e = .returned (.tuple #[.int .i64 0, .slice none 0 0, .bool false]) ∧ Below w.heap.size w w' := by
  have har : areaN f odd + 256 ≤ n := by unfold areaN; omega
  obtain ⟨at_, hat⟩ : ∃ at_, areaN f odd = at_ := ⟨_, rfl⟩
  have HA := Lib.hid (area_calls p.vis odd (by omega))
  rw [hat] at HA har hno
  have hrl := rowB_length d.all n at_ p.is.len (by omega)
  have HRO := Lib.hid (read_one 86 (rowB d.all at_) hrl)
  have HNO := Lib.hid hno
  have HP := Lib.hid p
  obtain ⟨y0, y1⟩ := p.vis.cells
  clear p hno hat
  go_enter Try.func44, Try.ntmps44
  go_wp2_with fail
  refine HA.out.mono ?_
  rintro e w1 ⟨rfl, rfl⟩
  go_wp2_with fail
  refine (Dk.ReadOk_calls HP.out.is at_ (by omega) (Nat.le_refl n) ho).mono ?_
  rintro e w1 ⟨x, rfl, hx, hxr, hb1⟩
  have HB1 := Lib.hid hb1
  have HX := Lib.hid (rd_row hxr)
  clear hx hxr hb1 y0 y1
  go_wp2_with fail
  rcases HRO.out with ⟨E, hE, hcall⟩ | hok
  · refine (hcall ⟨x, 0, none⟩ 128 w1 (Nat.le_refl _) HX.out).mono ?_
    rintro e w2 ⟨rfl, hb2⟩
    have HB2 := Lib.hid (HB1.out.trans (hb2.mono HB1.out.size))
    have hE2 : (E == 0) = false := beq_eq_false_iff_ne.2 hE
    clear hcall hb2
    go_wp2_with fail
    go_ret3
    exact ⟨rfl, HB2.out⟩
  · exact absurd hok HNO.out
end Go.Proofs.Ytmlgkahadgpaiaa.Va
namespace Go.Proofs.Ytmlgkahadgpaiaa.Va
open Go.RowKit _root_.Go.Proofs.Ytmlgkahadgpaiaa.Own
open Go.Proofs.Ytmlgkahadgpaiaa.Fr
open Go.Proofs.Ytmlgkahadgpaiaa.Dk (D Is D0 torn putRow rowB wst DOk made_all wpList_make_at rowB_length)
set_option linter.unusedVariables false
set_option linter.unusedSimpArgs false
theorem ne_cast {a b : Nat} (h : ¬ a = b) : ((a : Int) == (b : Int)) = false := by rw [beq_eq_false_iff_ne]; omega
theorem gt_cast' {a b : Nat} (h : a > b) : decide ((a : Int) > (b : Int)) = true := by rw [decide_eq_true_eq]; omega
theorem le_cast' {a b : Nat} (h : a ≤ b) : decide ((a : Int) > (b : Int)) = false := by rw [decide_eq_false_iff_not]; omega
theorem tmod2 (G : Nat) : ((G : Int)).tmod 2 = ((G % 2 : Nat) : Int) := by rw [Int.tmod_eq_emod_of_nonneg (by omega)]; omega
set_option maxRecDepth 10000 in
set_option maxHeartbeats 4000000 in
theorem has_badhead {w0 : World} {v g r n f : Nat} {d : D} {w : World} (p : VS w0 v g r n f d w) (ho : d.off = false) (hf : f + 512 ≤ n) (hn : n ≤ 1024) (odd : Nat) (h2 : odd < 2) (hok : frameOk (rowB d.all (areaN f odd)))
    (hbad : ¬ genF ((rowB d.all (areaN f odd)).take 120) % 2 = odd ∨ ¬ lenF ((rowB d.all (areaN f odd)).take 120) = 8 ∨ seqF ((rowB d.all (areaN f odd)).take 120) > 255) :
    Calls Try.prog 44 #[.pointer (some ⟨v, 0, none⟩), .int .i64 odd] w fun e w' => e = .returned (.tuple #[.int .i64 0, .slice none 0 0, .bool false]) ∧ Below w.heap.size w w' := by
  have har : areaN f odd + 256 ≤ n := by unfold areaN; omega
  obtain ⟨at_, hat⟩ : ∃ at_, areaN f odd = at_ := ⟨_, rfl⟩
  have HA := Lib.hid (area_calls p.vis odd (by omega))
  rw [hat] at HA har hok hbad
  have hrl := rowB_length d.all n at_ p.is.len (by omega)
  obtain ⟨x, hx⟩ : ∃ x, rowB d.all at_ = x := ⟨_, rfl⟩
  rw [hx] at hok hbad hrl
  have HXX := Lib.hid hx
  have HOK := Lib.hid hok
  have HRL := Lib.hid hrl
  have HP := Lib.hid p
  obtain ⟨y0, y1⟩ := p.vis.cells
  obtain ⟨G, hG⟩ : ∃ G, genF (x.take 120) = G := ⟨_, rfl⟩
  obtain ⟨S, hS⟩ : ∃ S, seqF (x.take 120) = S := ⟨_, rfl⟩
  obtain ⟨N, hN⟩ : ∃ N, lenF (x.take 120) = N := ⟨_, rfl⟩
  rw [hG, hS, hN] at hbad
  have HGSN := Lib.hid (And.intro hG (And.intro hS hN))
  clear p hok hat hx hrl hG hS hN
  have e1 := tmod2 G
  go_enter Try.func44, Try.ntmps44
  go_wp2_with fail
  refine HA.out.mono ?_
  rintro e w1 ⟨rfl, rfl⟩
  go_wp2_with fail
  refine (Dk.ReadOk_calls HP.out.is at_ (by omega) (Nat.le_refl n) ho).mono ?_
  rintro e w1 ⟨xg, rfl, hxg, hxr, hb1⟩
  rw [HXX.out] at hxr
  have HB1 := Lib.hid hb1
  have HX := Lib.hid (rd_row hxr)
  clear hxg hxr hb1 y0 y1
  go_wp2_with fail
  have hrd := ReadOk_calls 86 ⟨xg, 0, none⟩ 128 x HRL.out (Nat.le_refl _) w1 HX.out HOK.out.1 HOK.out.2.1 ⟨HOK.out.2.2.1, HOK.out.2.2.2.1, HOK.out.2.2.2.2⟩
  rw [HGSN.out.1, HGSN.out.2.1, HGSN.out.2.2] at hrd
  refine hrd.mono ?_
  rintro e w2 ⟨⟨A2, c2, rfl, -, -, -, -⟩, hb2⟩
  have HB2 := Lib.hid (HB1.out.trans (hb2.mono HB1.out.size))
  clear hrd hb2
  by_cases k1 : G % 2 = odd
  · have k1' : ((G % 2 : Nat) : Int) = (odd : Int) := by rw [k1]
    rw [k1'] at e1
    by_cases k2 : N = 8
    · have k3 : S > 255 := by
        rcases hbad with h | h | h
        · exact absurd k1 h
        · exact absurd k2 h
        · exact h
      subst k2
      have e3 : decide ((S : Int) > 255) = true := gt_cast' k3
      go_wp2_with fail
      go_ret3
      exact ⟨rfl, HB2.out⟩
    · have e2 : ((N : Int) == 8) = false := ne_cast k2
      go_wp2_with fail
      go_ret3
      exact ⟨rfl, HB2.out⟩
  · have e2 := ne_cast k1
    have e3 : ¬ ((G % 2 : Nat) : Int) = (odd : Int) := beq_eq_false_iff_ne.1 e2
    obtain ⟨q, hq⟩ : ∃ q, G % 2 = q := ⟨_, rfl⟩
    rw [hq] at e1 e2 e3 k1
    go_wp2_with fail
    go_ret3
    exact ⟨rfl, HB2.out⟩
end Go.Proofs.Ytmlgkahadgpaiaa.Va
