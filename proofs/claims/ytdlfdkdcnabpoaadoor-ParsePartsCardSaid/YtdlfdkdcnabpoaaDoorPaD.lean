/- Layer 17: Begin, the program's. -/
import Derived.Test.YtdlfdkdcnabpoaaDoorPaB
namespace Go.Proofs.YtdlfdkdcnabpoaaDoor.Pa
set_option linter.unusedSimpArgs false
set_option linter.unusedVariables false
open Go.RowKit
open _root_.Go.Proofs.YtdlfdkdcnabpoaaDoor.Own
def argAt (l : List Nd) (i : Nat) : Int := match l[i]? with | some x => argsI x.k | none => 0
/-- Where the program says that what ends there begins. -/
def bP (l : List Nd) : Nat → Int → Nat
  | 0, _ => 0
  | j + 1, need => if j + 1 < l.length then (if need + (argAt l (j + 1) - 1) = 0 then j + 1 else bP l j (need + (argAt l (j + 1) - 1))) else 0
set_option maxRecDepth 10000 in
set_option maxHeartbeats 8000000 in
theorem Begin_calls {A : Option Addr} {c : Nat} {l : List Nd} {w : World} (hR : Rd w A (ndC l)) (n : Nat) (hn : n = l.length) (hc : n ≤ c) (hl : n ≤ 1000) (i : Nat) (hi : i ≤ 1000) :
    Calls Tryd.prog 22 #[.slice A n c, .int .i64 i] w fun e w' => e = .returned (.int .i64 (bP l i 1)) ∧ w = w' := by
  have HR := Lib.hid hR
  have HN := Lib.hid hn
  obtain ⟨q, hq⟩ : ∃ q, bP l i 1 = q := ⟨_, rfl⟩
  rw [hq]
  have HQ := Lib.hid hq
  clear hR hn hq
  go_enter Tryd.func22, Tryd.ntmps22
  go_wp2_with fail
  go_loopw [1, 5] (fun v1 v5 wr => ∃ (z need : Int), v1 = .int .i64 z ∧ v5 = .int .i64 need ∧ -1 ≤ z ∧ z ≤ i ∧ need ≤ 1 + 2 * (i - z) ∧ 1 - 2 * (i - z) ≤ need ∧ Hid (0 ≤ z → bP l z.toNat need = q) ∧ Hid (z = -1 → q = 0) ∧ w = wr) (fun v1 _ _ => (intOf v1 + 1).toNat)
  case atStart => exact ⟨i, 1, rfl, rfl, by omega, by omega, by omega, by omega, Lib.hid (fun _ => by rw [Int.toNat_natCast]; exact HQ.out), Lib.hid (fun h => by omega), rfl⟩
  case round =>
    obtain ⟨z, need, rfl, rfl, hz1, hz2, hn1, hn2, HE, HZ, rfl⟩ := hrel
    by_cases hneg : z = -1
    · subst hneg
      have hq0 := HZ.out rfl
      have HQ0 := Lib.hid hq0
      clear hq0
      go_wp2_with fail
      go_returns
      exact ⟨by rw [HQ0.out]; rfl, rfl⟩
    obtain ⟨j, rfl⟩ : ∃ j : Nat, z = j := ⟨z.toNat, by omega⟩
    have hE := HE.out (by omega)
    rw [Int.toNat_natCast] at hE
    have j0 : ((0 : Int) ≤ (j : Int)) = True := by simp
    by_cases hlt : j < n
    · have d3 : decide (j < n) = true := decide_eq_true hlt
      have d4 : ((j : Int) < (n : Int)) = True := by simp; omega
      obtain ⟨ad, x, rfl, hx, hal, X⟩ := nd_at HR.out (by rw [← HN.out]; exact hlt)
      obtain ⟨y0, y1⟩ := X w (Below.refl _ _)
      have hal' : (ad.add (j * 2)).block < w.heap.size := by rw [block_add]; exact hal
      have haa : argAt l j = argsI x.k := by unfold argAt; rw [hx]
      have HAr := Lib.hid (fun w => Args_calls x.k w)
      have HAC := Lib.hid (argsI_cases x.k)
      obtain ⟨a, ha⟩ : ∃ a, argsI x.k = a := ⟨_, rfl⟩
      rw [ha] at HAr HAC haa
      have ha2 : a ≤ 2 := by rcases HAC.out with h | h | h | h <;> omega
      have ha1 : -1 ≤ a := by rcases HAC.out with h | h | h | h <;> omega
      have e1 : wrap64 (a - 1) = a - 1 := by unfold wrap64; omega
      have e2 : wrap64 (need + (a - 1)) = need + (a - 1) := by unfold wrap64; omega
      have e3 : wrap64 ((j : Int) - 1) = (j : Int) - 1 := by unfold wrap64; omega
      have HS := Lib.hid (show j = 0 → q = 0 by
        intro h
        subst h
        exact hE.symm)
      have HS2 := Lib.hid (show ∀ m, j = m + 1 → (if need + (a - 1) = 0 then m + 1 else bP l m (need + (a - 1))) = q by
        intro m h
        subst h
        have hb : bP l (m + 1) need = if m + 1 < l.length then (if need + (argAt l (m + 1) - 1) = 0 then m + 1 else bP l m (need + (argAt l (m + 1) - 1))) else 0 := rfl
        rw [if_pos (show m + 1 < l.length by rw [← HN.out]; exact hlt), haa] at hb
        rw [← hE, hb])
      clear X hx hal haa ha hE
      by_cases hz : need + (a - 1) = 0
      · have i1 : (need + (a - 1) == 0) = true := beq_iff_eq.2 hz
        have HZ2 := Lib.hid hz
        have HQJ : Hid (q = j) := Lib.hid (by
          cases j with
          | zero => exact HS.out rfl
          | succ m => have := HS2.out m rfl; rw [if_pos hz] at this; exact this.symm)
        clear hz
        go_wp2_with fail
        refine (HAr.out _).mono ?_
        rintro e w2 ⟨rfl, rfl⟩
        go_wp2_with fail
        go_returns
        exact ⟨by rw [HQJ.out]; rfl, rfl⟩
      · have i1 : (need + (a - 1) == 0) = false := beq_eq_false_iff_ne.2 hz
        have HZ2 := Lib.hid hz
        clear hz
        go_wp2_with fail
        refine (HAr.out _).mono ?_
        rintro e w2 ⟨rfl, rfl⟩
        go_wp2_with fail
        go_roundw
        case rel =>
          refine ⟨(j : Int) - 1, need + (a - 1), rfl, rfl, by omega, by omega, by omega, by omega, Lib.hid (fun h => ?_), Lib.hid (fun h => HS.out (by omega)), by first | exact rfl | trivial⟩
          obtain ⟨m, rfl⟩ : ∃ m, j = m + 1 := ⟨j - 1, by omega⟩
          have := HS2.out m rfl
          rw [if_neg HZ2.out] at this
          rw [show ((m + 1 : Nat) : Int) - 1 = (m : Int) by omega, Int.toNat_natCast]
          exact this
        case measure => simp only [intOf]; omega
    · have d3 : decide (j < n) = false := decide_eq_false hlt
      have d4 : ((j : Int) < (n : Int)) = False := by simp; omega
      have hq0 : q = 0 := by
        rw [← hE]
        cases j with
        | zero => rfl
        | succ m => unfold bP; rw [if_neg (by rw [← HN.out]; exact hlt)]
      have HQ0 := Lib.hid hq0
      clear hq0 hE
      go_wp2_with fail
      go_returns
      exact ⟨by rw [HQ0.out]; rfl, rfl⟩
end Go.Proofs.YtdlfdkdcnabpoaaDoor.Pa
