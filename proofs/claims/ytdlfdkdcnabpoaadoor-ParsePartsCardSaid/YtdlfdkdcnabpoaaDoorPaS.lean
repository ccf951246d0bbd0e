/- Layer 17: the document's Same, of the same nodes. -/
import Derived.Test.YtdlfdkdcnabpoaaDoorPaD
import Derived.Test.YtdlfdkdcnabpoaaDoorTurn
namespace Go.Proofs.YtdlfdkdcnabpoaaDoor.Pa
set_option linter.unusedSimpArgs false
set_option linter.unusedVariables false
open Go.RowKit
open _root_.Go.Proofs.YtdlfdkdcnabpoaaDoor.Own
set_option maxRecDepth 10000 in
set_option maxHeartbeats 8000000 in
theorem Same_calls {A B : Option Addr} {c d : Nat} {l : List Nd} {w : World} (hR : Rd w A (ndC l)) (hS : Rd w B (ndC l)) (n : Nat) (hn : n = l.length) (hc : n ≤ c) (hd : n ≤ d) (hl : n ≤ 1000) :
    Calls Tryd.prog 17 #[.slice A n c, .slice B n d] w fun e w' => e = .returned (.bool true) ∧ Below w.heap.size w w' := by
  have HR := Lib.hid hR
  have HS := Lib.hid hS
  have HN := Lib.hid hn
  clear hR hS hn
  go_enter Tryd.func17, Tryd.ntmps17
  go_wp2_with fail
  go_loopw [5] (fun v5 wr => ∃ i : Nat, v5 = .int .i64 i ∧ i ≤ n ∧ Hid (Below w.heap.size w wr)) (fun v5 _ => n - (intOf v5).toNat)
  case atStart => exact ⟨0, rfl, Nat.zero_le _, Lib.hid (Below.refl _ _)⟩
  case round =>
    obtain ⟨i, rfl, hi, HB⟩ := hrel
    by_cases hlt : i < n
    · have d3 : decide (i < n) = true := decide_eq_true hlt
      have d4 : ((i : Int) < (n : Int)) = True := by simp; omega
      obtain ⟨a1, x, rfl, hx, -, X⟩ := nd_at HR.out (by rw [← HN.out]; exact hlt)
      obtain ⟨a2, y, rfl, hy, -, Y⟩ := nd_at HS.out (by rw [← HN.out]; exact hlt)
      rw [hx] at hy
      cases hy
      obtain ⟨kk, hkk⟩ : ∃ kk, x.k = kk := ⟨_, rfl⟩
      obtain ⟨nn, hnn⟩ : ∃ nn, x.n = nn := ⟨_, rfl⟩
      rw [hkk, hnn] at X Y
      obtain ⟨J, hJ⟩ : ∃ J : World → Prop, ∀ W, J W ↔ Below w.heap.size w W := ⟨_, fun _ => Iff.rfl⟩
      have hj := (hJ wr.drew).2 HB.out.drew
      have K := fun w1 h1 => And.intro (X w1 ((hJ w1).1 h1)) (Y w1 ((hJ w1).1 h1))
      simp only [and_assoc] at K
      have HJ := Lib.hid hJ
      clear hJ X Y hx hkk hnn
      go_wp2_with fail
      refine Turn.region_seq [0, 1, 2, 3, 4, 5, 6, 7, 8] (fun _ => false) J (by kernel_rfl) (by kernel_rfl) hj ?_
      repeat (first | (apply Turn.seq_yes; (· simp only [List.getElem?_toArray, List.getElem?_cons_succ, List.getElem?_cons_zero]; rfl); (· rfl); (· go_simp); (· intro w1 h1; obtain ⟨zz0, zz1, yy0, yy1⟩ := K w1 h1; go_simp; exact ⟨rfl, rfl, h1⟩); (· go_simp; rfl)) | (apply Turn.seq_yes; (· simp only [List.getElem?_toArray, List.getElem?_cons_succ, List.getElem?_cons_zero]; rfl); (· rfl); (· go_simp); (· intro w1 h1; obtain ⟨zz0, zz1, yy0, yy1⟩ := K w1 h1; go_simp; exact ⟨rfl, h1⟩); (· go_simp; rfl)))
      apply Turn.seq_nil
      clear K hj
      go_wp2_with fail
      go_roundw
      case rel => exact ⟨i + 1, by go_num, by omega, Lib.hid HB.out.drew⟩
      case measure => simp only [intOf]; omega
    · have d3 : decide (i < n) = false := decide_eq_false hlt
      have d4 : ((i : Int) < (n : Int)) = False := by simp; omega
      go_wp2_with fail
      go_returns
      exact ⟨rfl, HB.out⟩
end Go.Proofs.YtdlfdkdcnabpoaaDoor.Pa
