/- Chapter 30: move.used. -/
import Derived.Test.YtohdldlagkmcnaaDoorMvA
namespace Go.Proofs.YtohdldlagkmcnaaDoor.Mv
set_option linter.unusedSimpArgs false
set_option linter.unusedVariables false
open Go.RowKit
open _root_.Go.Proofs.YtohdldlagkmcnaaDoor.Own
open Go.Proofs.YtohdldlagkmcnaaDoor.Pl
attribute [local go_sem] b16_and b16_or b16_andNot
structure Fl where
  k : Int
  a : BitVec 16
  b : BitVec 16
  c : BitVec 16
  d : BitVec 16
/-- What is used for a flow. -/
def uB (a b c d : BitVec 16) : BitVec 16 := (a &&& ~~~c) ||| (d &&& ~~~b)
def orU (ls : List Fl) : BitVec 16 := ls.foldl (fun o f => o ||| uB f.a f.b f.c f.d) 0#16
theorem orU_snoc (ls : List Fl) (f : Fl) : orU (ls ++ [f]) = orU ls ||| uB f.a f.b f.c f.d := by simp [orU]
theorem take_snoc' {α : Type} (ls : List α) (k : Nat) (h : k < ls.length) : ls.take (k + 1) = ls.take k ++ [ls[k]] := List.take_succ_eq_append_getElem h
def FlAt (w : World) (g : Nat) (ls : List Fl) : Prop := ∀ i (h : i < ls.length), w.cell? ⟨g, i * 5, none⟩ = some (.int .i64 ls[i].k) ∧ w.cell? ⟨g, i * 5 + 1, none⟩ = some (.int .u16 (nH ls[i].a)) ∧ w.cell? ⟨g, i * 5 + 2, none⟩ = some (.int .u16 (nH ls[i].b)) ∧ w.cell? ⟨g, i * 5 + 3, none⟩ = some (.int .u16 (nH ls[i].c)) ∧ w.cell? ⟨g, i * 5 + 4, none⟩ = some (.int .u16 (nH ls[i].d))
theorem FlAt.below {w w' : World} {g : Nat} {ls : List Fl} (h : FlAt w g ls) (hb : Below w.heap.size w w') : FlAt w' g ls := by
  intro i hi
  obtain ⟨h0, h1, h2, h3, h4⟩ := h i hi
  have f := fun {p : Addr} {v : Value} (hc : w.cell? p = some v) => (hb.cell (World.block_lt_of_cell? w _ hc)).trans hc
  exact ⟨f h0, f h1, f h2, f h3, f h4⟩
set_option maxRecDepth 10000 in
set_option maxHeartbeats 4000000 in
theorem used_calls (g n c : Nat) (ls : List Fl) (hn : ls.length = n) (hm : n ≤ 1000) (w : World) (h : FlAt w g ls) :
    Calls Tryd.prog 23 #[.slice (some ⟨g, 0, none⟩) n c] w fun e w' => e = .returned (.int .u16 (nH (orU ls))) ∧ Below w.heap.size w w' := by
  have HF := Lib.hid h
  have HN := Lib.hid hn
  have HZ := Lib.hid (show (0 : Int) = nH (orU (ls.take 0)) from rfl)
  clear h hn
  go_enter Tryd.func23, Tryd.ntmps23
  go_wp2_with fail
  go_loopw [3, 8] (fun o i wr => ∃ k : Nat, k ≤ n ∧ o = .int .u16 (nH (orU (ls.take k))) ∧ i = .int .i64 k ∧ Hid (Below w.heap.size w wr)) (fun _ i _ => n - (intOf i).toNat)
  case atStart => exact ⟨0, Nat.zero_le _, by rw [HZ.out], rfl, Lib.hid (Below.refl _ _)⟩
  case round =>
    obtain ⟨k, hk, rfl, rfl, HB⟩ := hrel
    by_cases hlt : k < n
    · have hkl : k < ls.length := by rw [HN.out]; exact hlt
      have d1 : decide ((k : Int) < (n : Int)) = true := by rw [decide_eq_true_eq]; omega
      have d2 : decide (k < n) = true := decide_eq_true hlt
      have f1 : IntKind.i64.wrap ((k : Int) + 1) = ((k + 1 : Nat) : Int) := by rw [IntKind.wrap_i64]; omega
      obtain ⟨z0, z1, z2, z3, z4⟩ := HF.out.below HB.out k hkl
      have E := Lib.hid (show orU (ls.take (k + 1)) = orU (ls.take k) ||| uB ls[k].a ls[k].b ls[k].c ls[k].d by rw [take_snoc' ls k hkl, orU_snoc])
      have hor := b16_or (orU (ls.take k)) (uB ls[k].a ls[k].b ls[k].c ls[k].d)
      have HU := Lib.hid (Used_calls ls[k].a ls[k].b ls[k].c ls[k].d)
      have HB1 := Lib.hid (HB.out.alloc HB.out.size (.cells #[.int .i64 ls[k].k, .int .u16 (nH ls[k].a), .int .u16 (nH ls[k].b), .int .u16 (nH ls[k].c), .int .u16 (nH ls[k].d)] 60))
      generalize ls[k] = f at *
      obtain ⟨fk, fa, fb, fc, fd⟩ := f
      simp only at z0 z1 z2 z3 z4 hor
      go_wp2_with fail
      refine (HU.out _).mono ?_
      rintro e w1 ⟨rfl, hb1⟩
      have HB2 := Lib.hid (HB1.out.trans (hb1.mono HB1.out.size))
      clear hb1 z0 z1 z2 z3 z4 HU HB1
      go_wp2_with fail
      go_roundw
      case rel => exact ⟨k + 1, by omega, by rw [E.out]; rfl, by go_num, HB2⟩
      case measure => simp [intOf]; omega
    · obtain rfl : k = n := by omega
      have d1 : decide ((k : Int) < (k : Int)) = false := by rw [decide_eq_false_iff_not]; omega
      go_wp2_with fail
      go_ret
      have e9 : ls.take k = ls := List.take_of_length_le (by rw [HN.out]; exact Nat.le_refl _)
      exact ⟨by rw [e9]; rfl, HB.out⟩
end Go.Proofs.YtohdldlagkmcnaaDoor.Mv
