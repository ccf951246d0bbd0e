/- Chapter 07: the reference's disk in memory; its Power, Arm, Has, Read. -/
import Derived.Test.YtmlgkahadgpaiaaDkA
namespace Go.Proofs.Ytmlgkahadgpaiaa.Dk
open Go.RowKit _root_.Go.Proofs.Ytmlgkahadgpaiaa.Own
set_option linter.unusedVariables false
set_option linter.unusedSimpArgs false
structure RD where
  all : List UInt8
  off : Bool
  fuse : Int
  keep : Int
  writes : Int
def rcells (q m : Nat) (d : RD) : List Value := [.slice (some ⟨q, 0, none⟩) m m, .bool d.off, .int .i64 d.fuse, .int .i64 d.keep, .int .i64 d.writes]
theorem rcells_is (q m : Nat) (d : RD) : rcells q m d = [.slice (some ⟨q, 0, none⟩) m m, .bool d.off, .int .i64 d.fuse, .int .i64 d.keep, .int .i64 d.writes] := rfl
structure RIs (h q n : Nat) (d : RD) (w : World) : Prop where
  own : w.heap[h]? = some (.cells ⟨rcells q (n * 128) d⟩ 62 (0, 0))
  row : w.heap[q]? = some (.cells ⟨bys d.all⟩ 5 (0, 0))
  len : d.all.length = n * 128
theorem RIs.cells {h q n : Nat} {d : RD} {w : World} (hI : RIs h q n d w) : w.cell? ⟨h, 0, none⟩ = some (.slice (some ⟨q, 0, none⟩) (n * 128) (n * 128)) ∧ w.cell? ⟨h, 1, none⟩ = some (.bool d.off) ∧ w.cell? ⟨h, 2, none⟩ = some (.int .i64 d.fuse) ∧ w.cell? ⟨h, 3, none⟩ = some (.int .i64 d.keep) ∧ w.cell? ⟨h, 4, none⟩ = some (.int .i64 d.writes) := by
  have k := fun i => cell_of_row w h i _ _ _ hI.own
  exact ⟨k 0, k 1, k 2, k 3, k 4⟩
theorem RIs.on {h q n : Nat} {d : RD} {w : World} (hI : RIs h q n d w) : On w [h] [(h, rcells q (n * 128) d, 62)] w := by
  have := On.start (w := w) (L := [(h, rcells q (n * 128) d, 62)]) (by intro x hx; simp at hx; subst hx; exact hI.own) (by simp)
  exact this
theorem RIs.ne {h q n : Nat} {d : RD} {w : World} (hI : RIs h q n d w) : h ≠ q := by
  intro e
  subst e
  have := hI.own.symm.trans hI.row
  simp at this
theorem RIs.of_on {h q n : Nat} {d d' : RD} {w w' : World} (hI : RIs h q n d w) (hO : On w [h] [(h, rcells q (n * 128) d', 62)] w') (ha : d'.all = d.all) : Only [h] w w' ∧ RIs h q n d' w' := by
  refine ⟨hO.only, hO.row 0 rfl, ?_, by rw [ha]; exact hI.len⟩
  rw [ha, hO.only.keep q (blk_lt hI.row) (by simp; exact fun e => hI.ne e.symm)]
  exact hI.row
theorem RIs.below {h q n : Nat} {d : RD} {w w' : World} (hI : RIs h q n d w) (hb : Below w.heap.size w w') : RIs h q n d w' :=
  ⟨(hb.block h (blk_lt hI.own)).trans hI.own, (hb.block q (blk_lt hI.row)).trans hI.row, hI.len⟩
theorem RIs.sets {h q n : Nat} {d : RD} {w : World} (hI : RIs h q n d w) : (∀ i, w.frozen? ⟨h, i, none⟩ = false) ∧ h < w.heap.size := by
  have := hI.on.rules _ (List.mem_cons_self ..)
  exact ⟨this.2.1, this.2.2.1⟩
theorem RPower_calls {h q n : Nat} {d : RD} {w : World} (hI : RIs h q n d w) : Calls Try.prog 32 #[.pointer (some ⟨h, 0, none⟩)] w fun e w' => e = .returned (.tuple #[]) ∧ Only [h] w w' ∧ RIs h q n { d with off := false, fuse := -1 } w' := by
  obtain ⟨h0, h1, h2, h3, h4⟩ := hI.cells
  obtain ⟨hf, hg⟩ := hI.sets
  have HI := Lib.hid hI
  clear hI
  go_enter Try.func32, Try.ntmps32
  go_wp2_with fail
  go_end0
  exact ⟨rfl, HI.out.of_on ((HI.out.on.set 0 rfl 1 (.bool false)).set 0 rfl 2 (.int .i64 (-1))) rfl⟩
def armR (d : RD) (m k : Int) : RD := if m < 0 ∨ k < 0 ∨ k > 128 then d else { d with fuse := m, keep := k }
theorem RArm_calls {h q n : Nat} {d : RD} {w : World} (hI : RIs h q n d w) (m k : Int) : Calls Try.prog 31 #[.pointer (some ⟨h, 0, none⟩), .int .i64 m, .int .i64 k] w fun e w' => e = .returned (.int .i64 (armE m k)) ∧ Only [h] w w' ∧ RIs h q n (armR d m k) w' := by
  obtain ⟨h0, h1, h2, h3, h4⟩ := hI.cells
  obtain ⟨hf, hg⟩ := hI.sets
  have HI := Lib.hid hI
  clear hI
  have hcase : (m < 0 ∧ (m < 0 ∨ k < 0 ∨ k > 128)) ∨ (¬ m < 0 ∧ k < 0 ∧ (m < 0 ∨ k < 0 ∨ k > 128)) ∨ (¬ m < 0 ∧ ¬ k < 0 ∧ k > 128 ∧ (m < 0 ∨ k < 0 ∨ k > 128)) ∨ (¬ m < 0 ∧ ¬ k < 0 ∧ ¬ k > 128 ∧ ¬ (m < 0 ∨ k < 0 ∨ k > 128)) := by omega
  unfold armE armR
  rcases hcase with ⟨c1, z⟩ | ⟨c1, c2, z⟩ | ⟨c1, c2, c3, z⟩ | ⟨c1, c2, c3, z⟩
  case inr.inr.inr =>
    rw [if_neg z, if_neg z]
    have m1 := decide_eq_false c1
    have m2 := decide_eq_false c2
    have m3 := decide_eq_false c3
    clear c1 c2 c3 z
    go_enter Try.func31, Try.ntmps31
    go_wp2_with fail
    go_ret
    exact ⟨rfl, HI.out.of_on ((HI.out.on.set 0 rfl 2 (.int .i64 m)).set 0 rfl 3 (.int .i64 k)) rfl⟩
  all_goals
    rw [if_pos z, if_pos z]
    first | have m1 := decide_eq_true c1 | have m1 := decide_eq_false c1
    try (first | have m2 := decide_eq_true c2 | have m2 := decide_eq_false c2)
    try have m3 := decide_eq_true c3
    clear z
    go_enter Try.func31, Try.ntmps31
    go_wp2_with fail
    go_ret
    exact ⟨rfl, Only.refl _ _, HI.out⟩
theorem rHas_calls (q n : Nat) (hn : n ≤ 1024) (d : RD) (i : Int) (b : Bool) (hb : decide (0 ≤ i ∧ i < n) = b) (w : World) : Calls Try.prog 52 #[.agg ⟨rcells q (n * 128) d⟩, .int .i64 i] w fun e w' => e = .returned (.bool b) ∧ Below w.heap.size w w' := by
  have H0 := (At.refl w).alloc (rcells q (n * 128) d) 62
  rw [rcells_is] at H0 ⊢
  obtain ⟨m, hm⟩ : ∃ m : Nat, n * 128 = m := ⟨_, rfl⟩
  have hq : (m : Int).tdiv 128 = n := by rw [Int.tdiv_eq_ediv_of_nonneg (by omega)]; omega
  rw [hm] at H0 ⊢
  subst hb
  by_cases c1 : i ≥ 0
  · have m1 := decide_eq_true c1
    by_cases c2 : i < n
    · have m2 := decide_eq_true c2
      rw [show decide (0 ≤ i ∧ i < n) = true from decide_eq_true ⟨c1, c2⟩]
      go_enter Try.func52, Try.ntmps52
      go_wp2_with fail
      go_ret
      exact ⟨rfl, H0.below⟩
    · have m2 := decide_eq_false c2
      rw [show decide (0 ≤ i ∧ i < n) = false from decide_eq_false (fun z => c2 z.2)]
      go_enter Try.func52, Try.ntmps52
      go_wp2_with fail
      go_ret
      exact ⟨rfl, H0.below⟩
  · have m1 := decide_eq_false c1
    rw [show decide (0 ≤ i ∧ i < n) = false from decide_eq_false (fun z => c1 z.1)]
    go_enter Try.func52, Try.ntmps52
    go_wp2_with fail
    go_ret
    exact ⟨rfl, H0.below⟩
theorem RReadBad_calls {h q n : Nat} {d : RD} {w : World} (hI : RIs h q n d w) (hn : n ≤ 1024) (i : Int) (E : Int) (hE : (¬ (0 ≤ i ∧ i < n) ∧ E = 8) ∨ ((0 ≤ i ∧ i < n) ∧ d.off = true ∧ E = 19)) :
    Calls Try.prog 33 #[.pointer (some ⟨h, 0, none⟩), .int .i64 i] w fun e w' => e = .returned (.tuple #[.slice none 0 0, .int .i64 E]) ∧ Below w.heap.size w w' := by
  obtain ⟨h0, h1, h2, h3, h4⟩ := hI.cells
  have HI := Lib.hid hI
  clear hI
  have H0 := At.refl w
  rcases hE with ⟨z, rfl⟩ | ⟨z, zo, rfl⟩
  · have HB := Lib.hid (rHas_calls q n hn d i false (decide_eq_false z))
    rw [rcells_is] at HB
    go_enter Try.func33, Try.ntmps33
    go_wp2_with fail
    refine callAt (HB.out _) H0 ?_
    rintro e w1 rfl H1
    go_wp2_with fail
    go_ret2
    exact ⟨rfl, H1.below⟩
  · have HB := Lib.hid (rHas_calls q n hn d i true (decide_eq_true z))
    rw [rcells_is, zo] at HB
    rw [zo] at h1
    go_enter Try.func33, Try.ntmps33
    go_wp2_with fail
    refine callAt (HB.out _) H0 ?_
    rintro e w1 rfl H1
    obtain ⟨k0, k1, k2, k3, k4⟩ := (HI.out.below H1.below).cells
    rw [zo] at k1
    clear h0 h1 h2 h3 h4
    go_wp2_with fail
    go_ret2
    exact ⟨rfl, H1.below⟩
theorem row_rd {w : World} {q : Nat} {all : List UInt8} {t : TypeId} {fr : Nat × Nat} (hrow : w.heap[q]? = some (.cells ⟨bys all⟩ t fr)) (k m : Nat) : Rd w (some ⟨q, k, none⟩) (bys ((all.drop k).take m)) := by
  intro j hj
  have hj' : j < m ∧ k + j < all.length := by
    rw [bys_length, List.length_take, List.length_drop] at hj
    omega
  refine ⟨_, rfl, ?_⟩
  have hadd : (⟨q, k, none⟩ : Addr).add j = ⟨q, k + j, none⟩ := by unfold Addr.add; split <;> simp_all
  rw [hadd, cell_of_row w q (k + j) _ _ _ hrow]
  simp [bys, hj'.2]
set_option maxHeartbeats 1000000 in
theorem RReadOk_calls {h q n : Nat} {d : RD} {w : World} (hI : RIs h q n d w) (hn : n ≤ 1024) (i : Nat) (hi : i < n) (ho : d.off = false) :
    Calls Try.prog 33 #[.pointer (some ⟨h, 0, none⟩), .int .i64 i] w fun e w' => ∃ v, e = .returned (.tuple #[v, .int .i64 0]) ∧ Has w.heap.size 5 v (bys (rowB d.all i)) w' ∧ Below w.heap.size w w' := by
  obtain ⟨h0, h1, h2, h3, h4⟩ := hI.cells
  have HI := Lib.hid hI
  clear hI
  have H0 := At.refl w
  have HB := Lib.hid (rHas_calls q n hn d i true (decide_eq_true (by omega)))
  rw [rcells_is, ho] at HB
  rw [ho] at h1
  go_enter Try.func33, Try.ntmps33
  go_wp2_with fail
  refine callAt (HB.out _) H0 ?_
  rintro e w1 rfl H1
  obtain ⟨k0, k1, k2, k3, k4⟩ := (HI.out.below H1.below).cells
  rw [ho] at k1
  clear h0 h1 h2 h3 h4
  obtain ⟨-, hg1⟩ := (HI.out.below H1.below).sets
  have HL := HI.out.len
  obtain ⟨m, hm⟩ : ∃ m : Nat, n * 128 = m := ⟨_, rfl⟩
  rw [hm] at k0
  go_wp2_with (at_builtin; refine wpList_app rfl _ _ 23 rfl w.heap.size 5 (.int .u8 0) 1 Try.underlying23 infoB rfl _ [] rfl ?hOwn _ _ _ (bys (rowB d.all i)) rfl ?hLen ?hNil ?hRd (bys_one _) ?hCap ?hCap2 ?hBase ?_)
  case hOwn => exact Has.lit _ w1 [] H1.below.size (by simp [maxLen])
  case hLen => rw [bys_length, rowB_length _ _ _ HL hi]; omega
  case hNil => exact fun z => nomatch z
  case hRd =>
    refine Rd.alloc ?_ _
    have := row_rd (HI.out.below H1.below).row (i * 128) 128
    rw [Nat.mul_comm i 128] at this
    unfold rowB
    rw [Nat.mul_comm i 128]
    exact this
  case hCap => rw [bys_length, rowB_length _ _ _ HL hi]; simp [maxLen]
  case hCap2 => rw [bys_length, rowB_length _ _ _ HL hi]; simp
  case hBase => have := H1.below.size; simp; omega
  intro v' w2 hv hg
  have HV := Lib.hid hv
  have HW : Below w.heap.size w w2 := (H1.below.alloc H1.below.size _).grown hg (by have := H1.below.size; simp; omega) (fun k e => by cases e; exact H1.below.size)
  clear hg hv
  go_wp2_with fail
  go_ret2
  exact ⟨_, rfl, HV.out, HW⟩
end Go.Proofs.Ytmlgkahadgpaiaa.Dk
