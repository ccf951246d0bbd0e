/- Chapter 07: Write as a function of what the disk has. -/
import Derived.Test.YtmlgkahadgpaiaaDkW
namespace Go.Proofs.Ytmlgkahadgpaiaa.Dk
open Go.RowKit _root_.Go.Proofs.Ytmlgkahadgpaiaa.Own
set_option linter.unusedVariables false
set_option linter.unusedSimpArgs false
/-- A write of 128 bytes to a block that is there: how it comes out, and the disk behind it. -/
def wst (d : D) (i : Nat) (b : List UInt8) : Int × D :=
  if d.off = true then (19, d)
  else if d.armed = true ∧ d.left = 0 then (19, { d with all := putRow d.all i (torn d.keep.toNat b), off := true, armed := false, writes := d.writes + 1 })
  else (0, { d with all := putRow d.all i b, left := d.left - 1, writes := d.writes + 1 })
structure DOk (d : D) (k : Nat) : Prop where
  wr : 0 ≤ d.writes ∧ d.writes ≤ k
  lf : -(k : Int) ≤ d.left ∧ d.left ≤ 9223372036854775807
  kp : 0 ≤ d.keep ∧ d.keep ≤ 128
theorem DOk.mono {d : D} {k k' : Nat} (h : DOk d k) (hk : k ≤ k') : DOk d k' := ⟨by have := h.wr; omega, by have := h.lf; omega, h.kp⟩
theorem DOk.wst {d : D} {k : Nat} (h : DOk d k) (i : Nat) (b : List UInt8) : DOk (wst d i b).2 (k + 1) := by
  unfold Dk.wst
  split
  · exact h.mono (by omega)
  · split
    · exact ⟨by have := h.wr; simp only; omega, by have := h.lf; simp only; omega, h.kp⟩
    · exact ⟨by have := h.wr; simp only; omega, by have := h.lf; simp only; omega, h.kp⟩
theorem Write_fun {g r n c : Nat} {R : List Value} {d : D} {w : World} (h : Is g r n c R d w) {k : Nat} (hk : DOk d k) (hk1 : k ≤ 1000000) (i : Nat) (hi : i < n) (hc : n ≤ c) (ad : Addr) (cb : Nat) (b : List UInt8) (hb : b.length = 128) (hcb : 128 ≤ cb) (hR : Rd w (some ad) (bys b)) (hng : ad.block ≠ g) :
    Calls Try.prog 34 #[.pointer (some ⟨g, 0, none⟩), .int .i64 i, .slice (some ad) 128 cb] w fun e w' => e = .returned (.int .i64 (wst d i b).1) ∧ Only [g, r] w w' ∧ Is g r n c R (wst d i b).2 w' := by
  have hw : 0 ≤ d.writes ∧ d.writes < 1099511627776 := by have := hk.wr; omega
  unfold wst
  by_cases c1 : d.off = true
  · rw [if_pos c1]
    exact (WriteBad_calls h i (some ad) 128 cb 19 (.inr (.inr ⟨by omega, rfl, c1, rfl⟩))).mono fun e w' ⟨h1, h2⟩ => ⟨h1, Only.of_below h2, by
      have hb2 := h2
      exact ⟨(hb2.block g (blk_lt h.own)).trans h.own, (hb2.block r (blk_lt h.row)).trans h.row, h.len⟩⟩
  · rw [if_neg c1]
    have c2 : d.off = false := by simpa using c1
    by_cases c3 : d.armed = true ∧ d.left = 0
    · rw [if_pos c3]
      exact WriteTorn_calls h i hi hc c2 ad cb b hb hcb hR hng hw hk.kp c3.1 c3.2
    · rw [if_neg c3]
      refine WriteAll_calls h i hi hc c2 ad cb b hb hcb hR hng hw (by have := hk.lf; omega) ?_
      cases c4 : d.armed with
      | false => exact .inl rfl
      | true => exact .inr ⟨rfl, by simpa using fun z => c3 ⟨c4, z⟩⟩
end Go.Proofs.Ytmlgkahadgpaiaa.Dk
