/- Chapter 07: Power, Arm, Read. -/
import Derived.Test.YtmlgkahadgpaiaaDkC
namespace Go.Proofs.Ytmlgkahadgpaiaa.Dk
open Go.RowKit _root_.Go.Proofs.Ytmlgkahadgpaiaa.Own
set_option linter.unusedVariables false
set_option linter.unusedSimpArgs false
theorem Is.on {g r n c : Nat} {R : List Value} {d : D} {w : World} (h : Is g r n c R d w) : On w [g] [(g, dcells r n c d, 79)] w := by
  have := On.start (w := w) (L := [(g, dcells r n c d, 79)]) (by intro x hx; simp at hx; subst hx; exact h.own) (by simp)
  exact this
theorem Is.ne {g r n c : Nat} {R : List Value} {d : D} {w : World} (h : Is g r n c R d w) : g ≠ r := by
  intro e
  subst e
  have := h.own.symm.trans h.row
  simp at this
/-- Only the disk's own cells have turned. -/
theorem Is.of_on {g r n c : Nat} {R : List Value} {d d' : D} {w w' : World} (h : Is g r n c R d w) (hO : On w [g] [(g, dcells r n c d', 79)] w') (ha : d'.all = d.all) : Only [g] w w' ∧ Is g r n c R d' w' := by
  refine ⟨hO.only, hO.row 0 rfl, ?_, by rw [ha]; exact h.len⟩
  rw [ha, hO.only.keep r (blk_lt h.row) (by simp; exact fun e => h.ne e.symm)]
  exact h.row
theorem Is.below {g r n c : Nat} {R : List Value} {d : D} {w w' : World} (h : Is g r n c R d w) (hb : Below w.heap.size w w') : Is g r n c R d w' :=
  ⟨(hb.block g (blk_lt h.own)).trans h.own, (hb.block r (blk_lt h.row)).trans h.row, h.len⟩
theorem Is.sets {g r n c : Nat} {R : List Value} {d : D} {w : World} (h : Is g r n c R d w) : (∀ i, w.frozen? ⟨g, i, none⟩ = false) ∧ g < w.heap.size := by
  have := h.on.rules _ (List.mem_cons_self ..)
  exact ⟨this.2.1, this.2.2.1⟩
theorem Power_calls {g r n c : Nat} {R : List Value} {d : D} {w : World} (h : Is g r n c R d w) : Calls Try.prog 16 #[.pointer (some ⟨g, 0, none⟩)] w fun e w' => e = .returned (.tuple #[]) ∧ Only [g] w w' ∧ Is g r n c R { d with off := false, armed := false } w' := by
  obtain ⟨h0, h1, h2, h3, h4, h5⟩ := h.cells
  obtain ⟨hf, hg⟩ := h.sets
  have HI := Lib.hid h
  clear h
  go_enter Try.func16, Try.ntmps16
  go_wp2_with fail
  go_end0
  exact ⟨rfl, HI.out.of_on ((HI.out.on.set 0 rfl 1 (.bool false)).set 0 rfl 2 (.bool false)) rfl⟩
/-- How Arm comes out. -/
def armE (m k : Int) : Int := if m < 0 ∨ k < 0 ∨ k > 128 then 8 else 0
def armD (d : D) (m k : Int) : D := if m < 0 ∨ k < 0 ∨ k > 128 then d else { d with armed := true, left := m, keep := k }
theorem Arm_calls {g r n c : Nat} {R : List Value} {d : D} {w : World} (h : Is g r n c R d w) (m k : Int) : Calls Try.prog 15 #[.pointer (some ⟨g, 0, none⟩), .int .i64 m, .int .i64 k] w fun e w' => e = .returned (.int .i64 (armE m k)) ∧ Only [g] w w' ∧ Is g r n c R (armD d m k) w' := by
  obtain ⟨h0, h1, h2, h3, h4, h5⟩ := h.cells
  obtain ⟨hf, hg⟩ := h.sets
  have HI := Lib.hid h
  clear h
  have hcase : (m < 0 ∧ (m < 0 ∨ k < 0 ∨ k > 128)) ∨ (¬ m < 0 ∧ k < 0 ∧ (m < 0 ∨ k < 0 ∨ k > 128)) ∨ (¬ m < 0 ∧ ¬ k < 0 ∧ k > 128 ∧ (m < 0 ∨ k < 0 ∨ k > 128)) ∨ (¬ m < 0 ∧ ¬ k < 0 ∧ ¬ k > 128 ∧ ¬ (m < 0 ∨ k < 0 ∨ k > 128)) := by omega
  unfold armE armD
  rcases hcase with ⟨c1, q⟩ | ⟨c1, c2, q⟩ | ⟨c1, c2, c3, q⟩ | ⟨c1, c2, c3, q⟩
  case inr.inr.inr =>
    rw [if_neg q, if_neg q]
    have m1 := decide_eq_false c1
    have m2 := decide_eq_false c2
    have m3 := decide_eq_false c3
    clear c1 c2 c3 q
    go_enter Try.func15, Try.ntmps15
    go_wp2_with fail
    go_ret
    exact ⟨rfl, HI.out.of_on (((HI.out.on.set 0 rfl 2 (.bool true)).set 0 rfl 3 (.int .i64 m)).set 0 rfl 4 (.int .i64 k)) rfl⟩
  all_goals
    rw [if_pos q, if_pos q]
    first | have m1 := decide_eq_true c1 | have m1 := decide_eq_false c1
    try (first | have m2 := decide_eq_true c2 | have m2 := decide_eq_false c2)
    try have m3 := decide_eq_true c3
    clear q
    go_enter Try.func15, Try.ntmps15
    go_wp2_with fail
    go_ret
    exact ⟨rfl, Only.refl _ _, HI.out⟩
/-- A block's bytes. -/
def rowB (all : List UInt8) (i : Nat) : List UInt8 := (all.drop (i * 128)).take 128
theorem rowB_length (all : List UInt8) (n i : Nat) (hl : all.length = n * 128) (hi : i < n) : (rowB all i).length = 128 := by
  unfold rowB
  rw [List.length_take, List.length_drop]
  omega
theorem row_cells (all : List UInt8) (R : List Value) (n i : Nat) (hl : all.length = n * 128) (hi : i < n) (j : Nat) (hj : j < 128) : (bys all ++ R)[i * 128 + j]? = (bys (rowB all i))[j]? := by
  rw [List.getElem?_append_left (by rw [bys_length]; omega)]
  unfold bys rowB
  rw [List.getElem?_map, List.getElem?_map, List.getElem?_take, if_pos hj, List.getElem?_drop]
theorem zero128 : ∃ zs : List Value, zs.length = 128 ∧ (Try.prog.info? 91).map (·.zero) = some (some (.agg ⟨zs⟩)) ∧ zs = List.replicate 128 (.int .u8 0) := ⟨List.replicate 128 (.int .u8 0), by simp, by kernel_rfl, rfl⟩
theorem size128 : (Try.prog.info? 91).map (·.size) = some 128 := by kernel_rfl
set_option maxHeartbeats 1000000 in
/-- Read of a block that is there, of a disk that is on. -/
theorem ReadOk_calls {g r n c : Nat} {R : List Value} {d : D} {w : World} (h : Is g r n c R d w) (i : Nat) (hi : i < n) (hc : n ≤ c) (ho : d.off = false) :
    Calls Try.prog 58 #[.pointer (some ⟨g, 0, none⟩), .int .i64 i] w fun e w' => ∃ x, e = .returned (.tuple #[.slice (some ⟨x, 0, none⟩) 128 128, .int .i64 0]) ∧ w.heap.size ≤ x ∧ w'.heap[x]? = some (.cells ⟨bys (rowB d.all i)⟩ 91 (0, 0)) ∧ Below w.heap.size w w' := by
  have HB := Lib.hid (block_calls h i)
  rw [show blockV n i = 0 from if_pos (by omega)] at HB
  have HI := Lib.hid h
  clear h
  have H0 := At.refl w
  go_enter Try.func58, Try.ntmps58
  go_wp2_with fail
  refine callAt HB.out H0 ?_
  rintro e w1 rfl H1
  have HI1 := Lib.hid (HI.out.below H1.below)
  obtain ⟨h0, h1, -, -, -, -⟩ := HI1.out.cells
  rw [ho] at h1
  clear H0
  obtain ⟨zs, z1, z2, z3⟩ := zero128
  have hb128 := rowB_length d.all n i HI.out.len hi
  have hxl : (bys (rowB d.all i)).length = 128 := by rw [bys_length]; exact hb128
  have hone := bys_one (rowB d.all i)
  have hcell := fun j hj => row_cells d.all R n i HI.out.len hi j hj
  obtain ⟨X, hXe⟩ : ∃ X, bys (rowB d.all i) = X := ⟨_, rfl⟩
  rw [hXe] at hxl hone hcell
  have HX := Lib.hid hXe
  clear hXe
  have hX : Hid (X.length = 128 ∧ (∀ u ∈ X, u.oneCell' = true) ∧ ∀ j, j < 128 → (bys d.all ++ R)[i * 128 + j]? = X[j]?) := Lib.hid ⟨hxl, hone, hcell⟩
  clear hxl hone hcell hb128 z3
  go_wp2_with (first | (refine wpList_load_part rfl 91 _ rfl r (i * 128) rfl 91 (bys d.all ++ R) X 128 (0, 0) _ HI1.out.row Try.underlying91 rfl size128 hX.out.1 hX.out.2.2 ?_) | (refine wpList_alloc_arr rfl 91 rfl zs z2 ?_) | (refine wpList_store_row rfl 91 _ _ rfl w1.heap.size ⟨X⟩ rfl rfl 91 ⟨zs⟩ ((H1.alloc zs 91).row 0 rfl) ?hsz ?hold ?hone ?_))
  case hsz => rw [size128]; exact congrArg some hX.out.1.symm
  case hold => exact z1.trans hX.out.1.symm
  case hone => rw [Array.all_eq_true]; intro j hj; exact hX.out.2.1 _ (List.getElem_mem _)
  have H3 := (H1.alloc zs 91).setRow 0 rfl ⟨X⟩
  go_ret2
  exact ⟨w1.heap.size, rfl, H1.below.size, by rw [HX.out]; exact H3.row 0 rfl, H3.below⟩
/-- Read of no block, or of a disk that is off. -/
theorem ReadBad_calls {g r n c : Nat} {R : List Value} {d : D} {w : World} (h : Is g r n c R d w) (i : Int) (E : Int) (hE : (¬ (0 ≤ i ∧ i < n) ∧ E = 8) ∨ ((0 ≤ i ∧ i < n) ∧ d.off = true ∧ E = 19)) :
    Calls Try.prog 58 #[.pointer (some ⟨g, 0, none⟩), .int .i64 i] w fun e w' => e = .returned (.tuple #[.slice none 0 0, .int .i64 E]) ∧ Below w.heap.size w w' := by
  have HB := Lib.hid (block_calls h i)
  have HI := Lib.hid h
  clear h
  have H0 := At.refl w
  rcases hE with ⟨h1, rfl⟩ | ⟨h1, h2, rfl⟩
  · rw [show blockV n i = 8 from if_neg h1] at HB
    go_enter Try.func58, Try.ntmps58
    go_wp2_with fail
    refine callAt HB.out H0 ?_
    rintro e w1 rfl H1
    go_wp2_with fail
    go_ret2
    exact ⟨rfl, H1.below⟩
  · rw [show blockV n i = 0 from if_pos h1] at HB
    go_enter Try.func58, Try.ntmps58
    go_wp2_with fail
    refine callAt HB.out H0 ?_
    rintro e w1 rfl H1
    have HI1 := Lib.hid (HI.out.below H1.below)
    obtain ⟨h0, h3, -, -, -, -⟩ := HI1.out.cells
    rw [h2] at h3
    clear H0
    go_wp2_with fail
    go_ret2
    exact ⟨rfl, H1.below⟩
end Go.Proofs.Ytmlgkahadgpaiaa.Dk
