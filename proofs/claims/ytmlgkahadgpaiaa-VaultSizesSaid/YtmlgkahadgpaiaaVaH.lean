/- Chapter 10: New, and whatever is refused. -/
import Derived.Test.YtmlgkahadgpaiaaVaG
namespace Go.Proofs.Ytmlgkahadgpaiaa.Va
open Go.RowKit _root_.Go.Proofs.Ytmlgkahadgpaiaa.Own
open Go.Proofs.Ytmlgkahadgpaiaa.Fr
open Go.Proofs.Ytmlgkahadgpaiaa.Dk (D Is D0 torn putRow rowB wst DOk made_all wpList_make_at rowB_length)
set_option linter.unusedVariables false
set_option linter.unusedSimpArgs false
set_option maxRecDepth 10000 in
theorem New_calls {g r n : Nat} {d : D} {w : World} (h : Is g r n n [] d w) (f : Nat) (hf : f + 512 ≤ n) (hn : n ≤ 1024) :
    Calls Try.prog 12 #[.pointer (some ⟨g, 0, none⟩), .int .i64 f] w fun e w' => ∃ x, e = .returned (.tuple #[.pointer (some ⟨x, 0, none⟩), .int .i64 0]) ∧ VIs x g f w' ∧ w.heap.size ≤ x ∧ Below w.heap.size w w' := by
  have HL := Lib.hid (Dk.Len_calls h)
  have m1 : decide ((f : Int) < 0) = false := by rw [decide_eq_false_iff_not]; omega
  have f1 : IntKind.i64.wrap ((n : Int) - 512) = (n : Int) - 512 := by rw [IntKind.wrap_i64]; omega
  have m2 : decide ((f : Int) > (n : Int) - 512) = false := by rw [decide_eq_false_iff_not]; omega
  have m3 : decide ((n : Int) - 512 < (f : Int)) = false := by rw [decide_eq_false_iff_not]; omega
  clear h
  go_enter Try.func12, Try.ntmps12
  go_wp2_with fail
  refine HL.out.mono ?_
  rintro e w1 ⟨rfl, hb1⟩
  have hb2 := hb1.alloc hb1.size (.cells #[.pointer (some ⟨g, 0, none⟩), .int .i64 f] 39)
  have hv := heap_alloc_new w1 (.cells #[.pointer (some ⟨g, 0, none⟩), .int .i64 f] 39)
  have HB2 := Lib.hid hb2
  have HV := Lib.hid hv
  have HS := Lib.hid hb1.size
  clear hb1 hb2 hv
  go_wp2_with fail
  go_ret2
  exact ⟨_, rfl, HV.out, HS.out, HB2.out⟩
set_option maxRecDepth 10000 in
theorem NewRange_calls {g r n : Nat} {d : D} {w : World} (h : Is g r n n [] d w) (f : Int) (hn : n ≤ 1024) (hf : f < 0 ∨ (n : Int) - 512 < f) :
    Calls Try.prog 12 #[.pointer (some ⟨g, 0, none⟩), .int .i64 f] w fun e w' => e = .returned (.tuple #[.pointer none, .int .i64 8]) ∧ Below w.heap.size w w' := by
  have HL := Lib.hid (Dk.Len_calls h)
  have f1 : IntKind.i64.wrap ((n : Int) - 512) = (n : Int) - 512 := by rw [IntKind.wrap_i64]; omega
  clear h
  by_cases c1 : f < 0
  · have m1 := decide_eq_true c1
    go_enter Try.func12, Try.ntmps12
    go_wp2_with fail
    try (refine HL.out.mono ?_; rintro e w1 ⟨rfl, hb1⟩; go_wp2_with fail)
    go_ret2
    first | exact ⟨rfl, Below.refl _ _⟩ | exact ⟨rfl, hb1⟩
  · have m1 := decide_eq_false c1
    have c2 : (n : Int) - 512 < f := by rcases hf with h | h <;> first | exact absurd h c1 | exact h
    have m2 : decide (f > (n : Int) - 512) = true := by rw [decide_eq_true_eq]; omega
    have m3 := decide_eq_true c2
    go_enter Try.func12, Try.ntmps12
    go_wp2_with fail
    refine HL.out.mono ?_
    rintro e w1 ⟨rfl, hb1⟩
    have HB1 := Lib.hid hb1
    clear hb1
    go_wp2_with fail
    go_ret2
    exact ⟨rfl, HB1.out⟩
theorem NewNil_calls (f : Int) (w : World) : Calls Try.prog 12 #[.pointer none, .int .i64 f] w fun e w' => e = .returned (.tuple #[.pointer none, .int .i64 2]) ∧ w = w' := by
  go_enter Try.func12, Try.ntmps12
  go_wp2_with fail
  go_ret2
  exact ⟨rfl, rfl⟩
theorem nilok_calls (w : World) : Calls Try.prog 40 #[.pointer none] w fun e w' => e = .returned (.bool false) ∧ w = w' := by
  go_enter Try.func40, Try.ntmps40
  go_wp2_with fail
  go_ret
  exact ⟨rfl, rfl⟩
theorem emptyok_calls (v : Nat) (w : World) (h : w.cell? ⟨v, 0, none⟩ = some (.pointer none)) : Calls Try.prog 40 #[.pointer (some ⟨v, 0, none⟩)] w fun e w' => e = .returned (.bool false) ∧ w = w' := by
  go_enter Try.func40, Try.ntmps40
  go_wp2_with fail
  go_ret
  exact ⟨rfl, rfl⟩
/-- A vault that nobody made: nil, or without a disk. -/
def Nobody (x : Value) (w : World) : Prop := x = .pointer none ∨ ∃ v, x = .pointer (some ⟨v, 0, none⟩) ∧ w.cell? ⟨v, 0, none⟩ = some (.pointer none)
theorem Nobody.below {x : Value} {w w' : World} (h : Nobody x w) (hb : Below w.heap.size w w') : Nobody x w' := by
  rcases h with rfl | ⟨v, rfl, h⟩
  · exact .inl rfl
  · exact .inr ⟨v, rfl, (hb.cell (World.block_lt_of_cell? w _ h)).trans h⟩
theorem Nobody.ok {x : Value} {w : World} (h : Nobody x w) : Calls Try.prog 40 #[x] w fun e w' => e = .returned (.bool false) ∧ w = w' := by
  rcases h with rfl | ⟨v, rfl, h⟩
  · exact nilok_calls w
  · exact emptyok_calls v w h
theorem NobodySave_calls {x : Value} {w : World} (h : Nobody x w) (gen : Int) (b : Value) : Calls Try.prog 13 #[x, .int .i64 gen, b] w fun e w' => e = .returned (.int .i64 2) ∧ w = w' := by
  have H := Lib.hid h.ok
  clear h
  go_enter Try.func13, Try.ntmps13
  go_wp2_with fail
  refine H.out.mono ?_
  rintro e w1 ⟨rfl, rfl⟩
  go_wp2_with fail
  go_ret
  exact ⟨rfl, rfl⟩
theorem NobodyLoad_calls (x : Option Addr) {w : World} (h : Nobody (.pointer x) w) : Calls Try.prog 17 #[.pointer x] w fun e w' => e = .returned (.tuple #[.int .i64 0, .slice none 0 0, .int .i64 2]) ∧ Below w.heap.size w w' := by
  have hb := (Below.refl w.heap.size w).alloc (Nat.le_refl _) (.cells #[.pointer x] 29)
  have H := Lib.hid (h.below hb).ok
  have HB := Lib.hid hb
  clear hb h
  go_enter Try.func17, Try.ntmps17
  go_wp2_with fail
  refine H.out.mono ?_
  rintro e w1 ⟨rfl, rfl⟩
  go_wp2_with fail
  go_ret3
  exact ⟨rfl, HB.out⟩
set_option maxRecDepth 10000 in
theorem LoadOff_calls {w0 : World} {v g r n f : Nat} {d : D} {w : World} (p : VS w0 v g r n f d w) (ho : d.off = true) :
    Calls Try.prog 17 #[.pointer (some ⟨v, 0, none⟩)] w fun e w' => e = .returned (.tuple #[.int .i64 0, .slice none 0 0, .int .i64 19]) ∧ Below w.heap.size w w' := by
  have hb := (Below.refl w.heap.size w).alloc (Nat.le_refl _) (.cells #[.pointer (some ⟨v, 0, none⟩)] 29)
  have HP0 := Lib.hid (p.call hb)
  have HON := fun W (p : VS w0 v g r n f d W) => Dk.On_calls p.is
  rw [ho] at HON
  have HON := Lib.hid HON
  obtain ⟨y0, y1⟩ := HP0.out.vis.cells
  have HB := Lib.hid hb
  clear p hb
  go_enter Try.func17, Try.ntmps17
  go_wp2_with fail
  refine (ok_calls HP0.out.vis).mono ?_
  rintro e w1 ⟨rfl, rfl⟩
  go_wp2_with fail
  refine (HON.out _ HP0.out).mono ?_
  rintro e w1 ⟨rfl, hb1⟩
  have HB1 := Lib.hid (HB.out.trans (hb1.mono HB.out.size))
  clear hb1 y0 y1
  go_wp2_with fail
  go_ret3
  exact ⟨rfl, HB1.out⟩
theorem SaveRange_calls {v g f : Nat} {w : World} (h : VIs v g f w) (gen : Int) (hg : gen < 0 ∨ 2147483647 < gen) (b : Value) :
    Calls Try.prog 13 #[.pointer (some ⟨v, 0, none⟩), .int .i64 gen, b] w fun e w' => e = .returned (.int .i64 8) ∧ w = w' := by
  have H := Lib.hid (ok_calls h)
  clear h
  by_cases c1 : gen < 0
  · have m1 := decide_eq_true c1
    go_enter Try.func13, Try.ntmps13
    go_wp2_with fail
    refine H.out.mono ?_
    rintro e w1 ⟨rfl, rfl⟩
    go_wp2_with fail
    go_ret
    exact ⟨rfl, rfl⟩
  · have m1 := decide_eq_false c1
    have c2 : 2147483647 < gen := by rcases hg with h | h <;> first | exact absurd h c1 | exact h
    have m2 := decide_eq_true c2
    have m3 : decide (gen > 2147483647) = true := decide_eq_true c2
    go_enter Try.func13, Try.ntmps13
    go_wp2_with fail
    refine H.out.mono ?_
    rintro e w1 ⟨rfl, rfl⟩
    go_wp2_with fail
    go_ret
    exact ⟨rfl, rfl⟩
theorem SaveFull_calls {v g f : Nat} {w : World} (h : VIs v g f w) (gen : Nat) (hg : gen ≤ 2147483647) (A : Option Addr) (l c : Nat) (hl : 32640 < l) (hm : l ≤ 1000000) :
    Calls Try.prog 13 #[.pointer (some ⟨v, 0, none⟩), .int .i64 gen, .slice A l c] w fun e w' => e = .returned (.int .i64 12) ∧ w = w' := by
  have H := Lib.hid (ok_calls h)
  have m1 : decide ((gen : Int) < 0) = false := by rw [decide_eq_false_iff_not]; omega
  have m2 : decide ((gen : Int) > 2147483647) = false := by rw [decide_eq_false_iff_not]; omega
  have hbk : 255 < blkN l := by unfold blkN; omega
  have m3 : decide (((blkN l : Nat) : Int) > 255) = true := by rw [decide_eq_true_eq]; omega
  have m4 : decide (255 < blkN l) = true := decide_eq_true hbk
  have HBK := Lib.hid (Blocks_calls l (by omega) w)
  clear h hg hm hl hbk
  go_enter Try.func13, Try.ntmps13
  go_wp2_with fail
  refine H.out.mono ?_
  rintro e w1 ⟨rfl, rfl⟩
  go_wp2_with fail
  refine HBK.out.mono ?_
  rintro e w1 ⟨rfl, rfl⟩
  go_wp2_with fail
  go_ret
  exact ⟨rfl, rfl⟩
end Go.Proofs.Ytmlgkahadgpaiaa.Va
