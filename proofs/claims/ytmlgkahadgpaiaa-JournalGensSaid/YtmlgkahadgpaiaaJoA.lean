/- Chapter 09: a journal in memory; New; a journal that nobody made; what stands in a block. -/
import Derived.Test.YtmlgkahadgpaiaaVaC
import Derived.WalkMore
namespace Go.Proofs.Ytmlgkahadgpaiaa.Jo
open Go.RowKit _root_.Go.Proofs.Ytmlgkahadgpaiaa.Own
open Go.Proofs.Ytmlgkahadgpaiaa.Fr
open Go.Proofs.Ytmlgkahadgpaiaa.Dk (D Is D0 torn putRow rowB wst DOk rowB_length)
open Go.Proofs.Ytmlgkahadgpaiaa.Va (rd_row rd_keep read_one tmod2 ne_cast)
set_option linter.unusedVariables false
set_option linter.unusedSimpArgs false
/-- The journal's own cells. -/
def JIs (j g f m G N : Nat) (w : World) : Prop := w.heap[j]? = some (.cells ⟨[.pointer (some ⟨g, 0, none⟩), .int .i64 f, .int .i64 m, .int .i64 G, .int .i64 N]⟩ 57 (0, 0))
theorem JIs.cells {j g f m G N : Nat} {w : World} (h : JIs j g f m G N w) : w.cell? ⟨j, 0, none⟩ = some (.pointer (some ⟨g, 0, none⟩)) ∧ w.cell? ⟨j, 1, none⟩ = some (.int .i64 f) ∧ w.cell? ⟨j, 2, none⟩ = some (.int .i64 m) ∧ w.cell? ⟨j, 3, none⟩ = some (.int .i64 G) ∧ w.cell? ⟨j, 4, none⟩ = some (.int .i64 N) := by
  have k := fun i => cell_of_row w j i _ _ _ h
  exact ⟨k 0, k 1, k 2, k 3, k 4⟩
theorem JIs.below {j g f m G N : Nat} {w w' : World} (h : JIs j g f m G N w) (hb : Below w.heap.size w w') : JIs j g f m G N w' := (hb.block j (blk_lt h)).trans h
theorem JIs.free {j g f m G N : Nat} {w : World} (h : JIs j g f m G N w) (i : Nat) : w.frozen? ⟨j, i, none⟩ = false := by simp [World.frozen?, show w.heap[j]? = _ from h]
/-- Beside the disk and the journal nothing elder has turned. -/
structure JS (w0 : World) (j g r n f m : Nat) (d : D) (G N : Nat) (w : World) : Prop where
  only : Only [g, r, j] w0 w
  is : Is g r n n [] d w
  jis : JIs j g f m G N w
  old : g < w0.heap.size ∧ r < w0.heap.size ∧ j < w0.heap.size
theorem JS.call {w0 : World} {j g r n f m : Nat} {d : D} {G N : Nat} {w w' : World} (p : JS w0 j g r n f m d G N w) (hb : Below w.heap.size w w') : JS w0 j g r n f m d G N w' :=
  ⟨p.only.trans (Only.of_below hb), ⟨(hb.block g (blk_lt p.is.own)).trans p.is.own, (hb.block r (blk_lt p.is.row)).trans p.is.row, p.is.len⟩, p.jis.below hb, p.old⟩
theorem JS.ne {w0 : World} {j g r n f m : Nat} {d : D} {G N : Nat} {w : World} (p : JS w0 j g r n f m d G N w) : j ≠ g ∧ j ≠ r := by
  refine ⟨?_, ?_⟩ <;> intro e <;> subst e
  · have := p.jis.symm.trans p.is.own; simp at this
  · have := p.jis.symm.trans p.is.row; simp at this
theorem JS.turn {w0 : World} {j g r n f m : Nat} {d d' : D} {G N : Nat} {w w' : World} (p : JS w0 j g r n f m d G N w) (ho : Only [g, r] w w') (hi : Is g r n n [] d' w') : JS w0 j g r n f m d' G N w' :=
  ⟨p.only.trans (ho.mono (by simp)), hi, (ho.keep j (blk_lt p.jis) (by simp; exact p.ne)).trans p.jis, p.old⟩
theorem JS.self {w0 : World} {j g r n f m : Nat} {d : D} {G N : Nat} {w : World} (p : JS w0 j g r n f m d G N w) : JS w j g r n f m d G N w := ⟨Only.refl _ _, p.is, p.jis, blk_lt p.is.own, blk_lt p.is.row, blk_lt p.jis⟩
theorem JS.setG {w0 : World} {j g r n f m : Nat} {d : D} {G N : Nat} {w : World} (p : JS w0 j g r n f m d G N w) (G' : Nat) : JS w0 j g r n f m d G' N (w.setCell ⟨j, 3, none⟩ (.int .i64 G')) := by
  have ho : Only [j] w (w.setCell ⟨j, 3, none⟩ (.int .i64 G')) := only_setCell w j 3 _
  refine ⟨p.only.trans (ho.mono (by simp)), ⟨(ho.keep g (blk_lt p.is.own) (by simp; exact fun e => p.ne.1 e.symm)).trans p.is.own, (ho.keep r (blk_lt p.is.row) (by simp; exact fun e => p.ne.2 e.symm)).trans p.is.row, p.is.len⟩, ?_, p.old⟩
  unfold JIs
  rw [heap_setCell_list p.jis]; rfl
theorem JS.setN {w0 : World} {j g r n f m : Nat} {d : D} {G N : Nat} {w : World} (p : JS w0 j g r n f m d G N w) (N' : Nat) : JS w0 j g r n f m d G N' (w.setCell ⟨j, 4, none⟩ (.int .i64 N')) := by
  have ho : Only [j] w (w.setCell ⟨j, 4, none⟩ (.int .i64 N')) := only_setCell w j 4 _
  refine ⟨p.only.trans (ho.mono (by simp)), ⟨(ho.keep g (blk_lt p.is.own) (by simp; exact fun e => p.ne.1 e.symm)).trans p.is.own, (ho.keep r (blk_lt p.is.row) (by simp; exact fun e => p.ne.2 e.symm)).trans p.is.row, p.is.len⟩, ?_, p.old⟩
  unfold JIs
  rw [heap_setCell_list p.jis]; rfl
set_option maxRecDepth 10000 in
theorem New_calls {g r n : Nat} {d : D} {w : World} (h : Is g r n n [] d w) (f m : Nat) (h1 : 1 ≤ m) (h2 : m ≤ 64) (hf : f + 2 * m ≤ n) (hn : n ≤ 1024) :
    Calls Try.prog 19 #[.pointer (some ⟨g, 0, none⟩), .int .i64 f, .int .i64 m] w fun e w' => ∃ x, e = .returned (.tuple #[.pointer (some ⟨x, 0, none⟩), .int .i64 0]) ∧ JIs x g f m 0 0 w' ∧ w.heap.size ≤ x ∧ Below w.heap.size w w' := by
  have HL := Lib.hid (Dk.Len_calls h)
  have m1 : decide ((m : Int) < 1) = false := by rw [decide_eq_false_iff_not]; omega
  have m2 : decide ((m : Int) > 64) = false := by rw [decide_eq_false_iff_not]; omega
  have m3 : decide ((f : Int) < 0) = false := by rw [decide_eq_false_iff_not]; omega
  have f1 : IntKind.i64.wrap (2 * (m : Int)) = 2 * (m : Int) := by rw [IntKind.wrap_i64]; omega
  have f2 : IntKind.i64.wrap ((n : Int) - 2 * (m : Int)) = (n : Int) - 2 * (m : Int) := by rw [IntKind.wrap_i64]; omega
  have m4 : decide ((f : Int) > (n : Int) - 2 * (m : Int)) = false := by rw [decide_eq_false_iff_not]; omega
  have m5 : decide ((n : Int) - 2 * (m : Int) < (f : Int)) = false := by rw [decide_eq_false_iff_not]; omega
  have m6 : decide (m < 1) = false := by rw [decide_eq_false_iff_not]; omega
  have m7 : decide (64 < m) = false := by rw [decide_eq_false_iff_not]; omega
  clear h h1 h2 hf hn
  go_enter Try.func19, Try.ntmps19
  go_wp2_with fail
  refine HL.out.mono ?_
  rintro e w1 ⟨rfl, hb1⟩
  have hb2 := hb1.alloc hb1.size (.cells #[.pointer (some ⟨g, 0, none⟩), .int .i64 f, .int .i64 m, .int .i64 (0 : Nat), .int .i64 (0 : Nat)] 57)
  have hv := heap_alloc_new w1 (.cells #[.pointer (some ⟨g, 0, none⟩), .int .i64 f, .int .i64 m, .int .i64 (0 : Nat), .int .i64 (0 : Nat)] 57)
  have HB2 := Lib.hid hb2
  have HV := Lib.hid hv
  have HS := Lib.hid hb1.size
  clear hb1 hb2 hv
  go_wp2_with fail
  go_ret2
  exact ⟨_, rfl, HV.out, HS.out, HB2.out⟩
set_option maxRecDepth 10000 in
theorem NewFar_calls {g r n : Nat} {d : D} {w : World} (h : Is g r n n [] d w) (f m : Nat) (h1 : 1 ≤ m) (h2 : m ≤ 64) (hf : n < f + 2 * m) (hm : 2 * m ≤ n) (hn : n ≤ 1024) :
    Calls Try.prog 19 #[.pointer (some ⟨g, 0, none⟩), .int .i64 f, .int .i64 m] w fun e w' => e = .returned (.tuple #[.pointer none, .int .i64 8]) ∧ Below w.heap.size w w' := by
  have HL := Lib.hid (Dk.Len_calls h)
  have m1 : decide ((m : Int) < 1) = false := by rw [decide_eq_false_iff_not]; omega
  have m2 : decide ((m : Int) > 64) = false := by rw [decide_eq_false_iff_not]; omega
  have m3 : decide ((f : Int) < 0) = false := by rw [decide_eq_false_iff_not]; omega
  have f1 : IntKind.i64.wrap (2 * (m : Int)) = 2 * (m : Int) := by rw [IntKind.wrap_i64]; omega
  have f2 : IntKind.i64.wrap ((n : Int) - 2 * (m : Int)) = (n : Int) - 2 * (m : Int) := by rw [IntKind.wrap_i64]; omega
  have m4 : decide ((f : Int) > (n : Int) - 2 * (m : Int)) = true := by rw [decide_eq_true_eq]; omega
  have m5 : decide ((n : Int) - 2 * (m : Int) < (f : Int)) = true := by rw [decide_eq_true_eq]; omega
  have m6 : decide (m < 1) = false := by rw [decide_eq_false_iff_not]; omega
  have m7 : decide (64 < m) = false := by rw [decide_eq_false_iff_not]; omega
  clear h h1 h2 hf hm hn
  go_enter Try.func19, Try.ntmps19
  go_wp2_with fail
  refine HL.out.mono ?_
  rintro e w1 ⟨rfl, hb1⟩
  have HB1 := Lib.hid hb1
  clear hb1
  go_wp2_with fail
  go_ret2
  exact ⟨rfl, HB1.out⟩
theorem NewNil_calls (f m : Int) (w : World) : Calls Try.prog 19 #[.pointer none, .int .i64 f, .int .i64 m] w fun e w' => e = .returned (.tuple #[.pointer none, .int .i64 2]) ∧ w = w' := by
  go_enter Try.func19, Try.ntmps19
  go_wp2_with fail
  go_ret2
  exact ⟨rfl, rfl⟩
theorem ok_calls {j g f m G N : Nat} {w : World} (h : JIs j g f m G N w) : Calls Try.prog 45 #[.pointer (some ⟨j, 0, none⟩)] w fun e w' => e = .returned (.bool true) ∧ w = w' := by
  obtain ⟨y0, y1, y2, y3, y4⟩ := h.cells
  go_enter Try.func45, Try.ntmps45
  go_wp2_with fail
  go_ret
  exact ⟨rfl, rfl⟩
theorem nilok_calls (w : World) : Calls Try.prog 45 #[.pointer none] w fun e w' => e = .returned (.bool false) ∧ w = w' := by
  go_enter Try.func45, Try.ntmps45
  go_wp2_with fail
  go_ret
  exact ⟨rfl, rfl⟩
theorem emptyok_calls (v : Nat) (w : World) (h : w.cell? ⟨v, 0, none⟩ = some (.pointer none)) : Calls Try.prog 45 #[.pointer (some ⟨v, 0, none⟩)] w fun e w' => e = .returned (.bool false) ∧ w = w' := by
  go_enter Try.func45, Try.ntmps45
  go_wp2_with fail
  go_ret
  exact ⟨rfl, rfl⟩
def Nobody (x : Value) (w : World) : Prop := x = .pointer none ∨ ∃ v, x = .pointer (some ⟨v, 0, none⟩) ∧ w.cell? ⟨v, 0, none⟩ = some (.pointer none)
theorem Nobody.below {x : Value} {w w' : World} (h : Nobody x w) (hb : Below w.heap.size w w') : Nobody x w' := by
  rcases h with rfl | ⟨v, rfl, h⟩
  · exact .inl rfl
  · exact .inr ⟨v, rfl, (hb.cell (World.block_lt_of_cell? w _ h)).trans h⟩
theorem Nobody.ok {x : Value} {w : World} (h : Nobody x w) : Calls Try.prog 45 #[x] w fun e w' => e = .returned (.bool false) ∧ w = w' := by
  rcases h with rfl | ⟨v, rfl, h⟩
  · exact nilok_calls w
  · exact emptyok_calls v w h
theorem NobodyAdd_calls {x : Value} {w : World} (h : Nobody x w) (b : Value) : Calls Try.prog 20 #[x, b] w fun e w' => e = .returned (.int .i64 2) ∧ w = w' := by
  have H := Lib.hid h.ok
  clear h
  go_enter Try.func20, Try.ntmps20
  go_wp2_with fail
  refine H.out.mono ?_
  rintro e w1 ⟨rfl, rfl⟩
  go_wp2_with fail
  go_ret
  exact ⟨rfl, rfl⟩
theorem NobodyClean_calls {x : Value} {w : World} (h : Nobody x w) : Calls Try.prog 24 #[x] w fun e w' => e = .returned (.int .i64 2) ∧ w = w' := by
  have H := Lib.hid h.ok
  clear h
  go_enter Try.func24, Try.ntmps24
  go_wp2_with fail
  refine H.out.mono ?_
  rintro e w1 ⟨rfl, rfl⟩
  go_wp2_with fail
  go_ret
  exact ⟨rfl, rfl⟩
set_option maxRecDepth 10000 in
set_option maxHeartbeats 4000000 in
theorem NobodyOpen_calls {x : Value} {w : World} (h : Nobody x w) (gen : Int) : Calls Try.prog 22 #[x, .int .i64 gen] w fun e w' => e = .returned (.tuple #[.slice none 0 0, .int .i64 2]) ∧ w = w' := by
  have H := Lib.hid h.ok
  clear h
  go_enter Try.func22, Try.ntmps22
  go_wp2_with fail
  go_step3
  go_wp2_with fail
  refine H.out.mono ?_
  rintro e w1 ⟨rfl, rfl⟩
  go_wp2_with fail
  rw [Exit.noGoto_ret]
  go_ret2
  exact ⟨rfl, rfl⟩
theorem NobodyLen_calls {x : Value} {w : World} (h : Nobody x w) : Calls Try.prog 26 #[x] w fun e w' => e = .returned (.int .i64 0) ∧ w = w' := by
  have H := Lib.hid h.ok
  clear h
  go_enter Try.func26, Try.ntmps26
  go_wp2_with fail
  refine H.out.mono ?_
  rintro e w1 ⟨rfl, rfl⟩
  go_wp2_with fail
  go_ret
  exact ⟨rfl, rfl⟩
theorem NobodyRoom_calls {x : Value} {w : World} (h : Nobody x w) : Calls Try.prog 27 #[x] w fun e w' => e = .returned (.int .i64 0) ∧ w = w' := by
  have H := Lib.hid h.ok
  clear h
  go_enter Try.func27, Try.ntmps27
  go_wp2_with fail
  refine H.out.mono ?_
  rintro e w1 ⟨rfl, rfl⟩
  go_wp2_with fail
  go_ret
  exact ⟨rfl, rfl⟩
theorem NobodyGen_calls {x : Value} {w : World} (h : Nobody x w) : Calls Try.prog 25 #[x] w fun e w' => e = .returned (.int .i64 0) ∧ w = w' := by
  have H := Lib.hid h.ok
  clear h
  go_enter Try.func25, Try.ntmps25
  go_wp2_with fail
  refine H.out.mono ?_
  rintro e w1 ⟨rfl, rfl⟩
  go_wp2_with fail
  go_ret
  exact ⟨rfl, rfl⟩
theorem Len_calls {j g f m G N : Nat} {w : World} (h : JIs j g f m G N w) : Calls Try.prog 26 #[.pointer (some ⟨j, 0, none⟩)] w fun e w' => e = .returned (.int .i64 N) ∧ w = w' := by
  have H := Lib.hid (ok_calls h)
  obtain ⟨y0, y1, y2, y3, y4⟩ := h.cells
  go_enter Try.func26, Try.ntmps26
  go_wp2_with fail
  refine H.out.mono ?_
  rintro e w1 ⟨rfl, rfl⟩
  go_wp2_with fail
  go_ret
  exact ⟨rfl, rfl⟩
theorem Room_calls {j g f m G N : Nat} {w : World} (h : JIs j g f m G N w) : Calls Try.prog 27 #[.pointer (some ⟨j, 0, none⟩)] w fun e w' => e = .returned (.int .i64 m) ∧ w = w' := by
  have H := Lib.hid (ok_calls h)
  obtain ⟨y0, y1, y2, y3, y4⟩ := h.cells
  go_enter Try.func27, Try.ntmps27
  go_wp2_with fail
  refine H.out.mono ?_
  rintro e w1 ⟨rfl, rfl⟩
  go_wp2_with fail
  go_ret
  exact ⟨rfl, rfl⟩
theorem Gen_calls {j g f m G N : Nat} {w : World} (h : JIs j g f m G N w) : Calls Try.prog 25 #[.pointer (some ⟨j, 0, none⟩)] w fun e w' => e = .returned (.int .i64 G) ∧ w = w' := by
  have H := Lib.hid (ok_calls h)
  obtain ⟨y0, y1, y2, y3, y4⟩ := h.cells
  go_enter Try.func25, Try.ntmps25
  go_wp2_with fail
  refine H.out.mono ?_
  rintro e w1 ⟨rfl, rfl⟩
  go_wp2_with fail
  go_ret
  exact ⟨rfl, rfl⟩
theorem record_calls {j g f m G N : Nat} {w : World} (h : JIs j g f m G N w) (i : Nat) (hf : f + 2 * i ≤ 1024) : Calls Try.prog 47 #[.pointer (some ⟨j, 0, none⟩), .int .i64 i] w fun e w' => e = .returned (.int .i64 (f + 2 * i : Nat)) ∧ w = w' := by
  obtain ⟨y0, y1, y2, y3, y4⟩ := h.cells
  have f1 : IntKind.i64.wrap (2 * (i : Int)) = 2 * (i : Int) := by rw [IntKind.wrap_i64]; omega
  have f2 : IntKind.i64.wrap ((f : Int) + 2 * (i : Int)) = ((f + 2 * i : Nat) : Int) := by rw [IntKind.wrap_i64]; omega
  go_enter Try.func47, Try.ntmps47
  go_wp2_with fail
  go_ret
  exact ⟨by simp, rfl⟩
theorem commit_calls {j g f m G N : Nat} {w : World} (h : JIs j g f m G N w) (i : Nat) (hf : f + 2 * i ≤ 1024) : Calls Try.prog 48 #[.pointer (some ⟨j, 0, none⟩), .int .i64 i] w fun e w' => e = .returned (.int .i64 (f + 2 * i + 1 : Nat)) ∧ w = w' := by
  obtain ⟨y0, y1, y2, y3, y4⟩ := h.cells
  have f1 : IntKind.i64.wrap (2 * (i : Int)) = 2 * (i : Int) := by rw [IntKind.wrap_i64]; omega
  have f2 : IntKind.i64.wrap ((f : Int) + 2 * (i : Int)) = (f : Int) + 2 * (i : Int) := by rw [IntKind.wrap_i64]; omega
  have f3 : IntKind.i64.wrap ((f : Int) + 2 * (i : Int) + 1) = ((f + 2 * i + 1 : Nat) : Int) := by rw [IntKind.wrap_i64]; omega
  go_enter Try.func48, Try.ntmps48
  go_wp2_with fail
  go_ret
  exact ⟨by simp, rfl⟩
/-- What a block has as a frame of a kind, a generation and a place. -/
def frameK (kind : UInt8) (x : List UInt8) : Prop := formB kind x ∧ ckB x = true ∧ genF (x.take 120) ≤ 2147483647 ∧ lenF (x.take 120) ≤ 112 ∧ padZ (x.take 120)
open Classical in
noncomputable def stF (kind : UInt8) (x : List UInt8) (G i : Nat) : Option (List UInt8) :=
  if frameK kind x ∧ genF (x.take 120) = G ∧ seqF (x.take 120) = i then some (((x.take 120).drop 8).take (lenF (x.take 120))) else none
def StRes (base : Nat) (o : Option (List UInt8)) (e : Ending) (w' : World) : Prop :=
  (∀ b, o = some b → ∃ A c, e = .returned (.tuple #[.slice A b.length c, .int .i64 0]) ∧ b.length ≤ c ∧ (A = none → c = 0) ∧ Rd w' A (bys b) ∧ ∀ a, A = some a → base ≤ a.block)
  ∧ (o = none → e = .returned (.tuple #[.slice none 0 0, .int .i64 6]))
set_option maxRecDepth 10000 in
set_option maxHeartbeats 4000000 in
theorem stands_calls {w0 : World} {j g r n f m : Nat} {d : D} {G N : Nat} {w : World} (p : JS w0 j g r n f m d G N w) (ho : d.off = false) (hn : n ≤ 1024) (kind : UInt8) (at_ i : Nat) (hat : at_ < n) :
    Calls Try.prog 49 #[.pointer (some ⟨j, 0, none⟩), .int .u8 (nB kind), .int .i64 at_, .int .i64 i] w fun e w' => StRes w.heap.size (stF kind (rowB d.all at_) G i) e w' ∧ Below w.heap.size w w' := by
  have hrl := rowB_length d.all n at_ p.is.len hat
  obtain ⟨x, hx⟩ : ∃ x, rowB d.all at_ = x := ⟨_, rfl⟩
  rw [hx] at hrl ⊢
  have HXX := Lib.hid hx
  have HRL := Lib.hid hrl
  have HP := Lib.hid p
  obtain ⟨y0, y1, y2, y3, y4⟩ := p.jis.cells
  by_cases hok : frameK kind x
  · have HOK := Lib.hid hok
    obtain ⟨G', hG'⟩ : ∃ G', genF (x.take 120) = G' := ⟨_, rfl⟩
    obtain ⟨S, hS⟩ : ∃ S, seqF (x.take 120) = S := ⟨_, rfl⟩
    obtain ⟨L, hL⟩ : ∃ L, lenF (x.take 120) = L := ⟨_, rfl⟩
    obtain ⟨b, hb⟩ : ∃ b, ((x.take 120).drop 8).take L = b := ⟨_, rfl⟩
    have hbl : b.length = L := by
      have h1 := hok.2.2.2.1
      rw [← hb, List.length_take, List.length_drop, List.length_take, hrl]
      omega
    have hst : stF kind x G i = if G' = G ∧ S = i then some b else none := by
      unfold stF
      rw [hG', hS, hL, hb]
      by_cases hh : G' = G ∧ S = i
      · rw [if_pos ⟨hok, hh⟩, if_pos hh]
      · rw [if_neg (fun q => hh q.2), if_neg hh]
    have HST := Lib.hid hst
    have HGS := Lib.hid (And.intro hG' (And.intro hS (And.intro hL hb)))
    have HBL := Lib.hid hbl
    clear p hx hrl hok hG' hS hL hb hbl hst
    go_enter Try.func49, Try.ntmps49
    go_wp2_with fail
    refine (Dk.ReadOk_calls HP.out.is at_ hat (Nat.le_refl n) ho).mono ?_
    rintro e w1 ⟨xg, rfl, hxg, hxr, hb1⟩
    rw [HXX.out] at hxr
    have HB1 := Lib.hid hb1
    have HX := Lib.hid (rd_row hxr)
    have HP1 := Lib.hid (HP.out.call hb1)
    clear hxg hxr hb1 y0 y1 y2 y3 y4
    go_wp2_with fail
    have hrd := ReadOk_calls kind ⟨xg, 0, none⟩ 128 x HRL.out (Nat.le_refl _) w1 HX.out HOK.out.1 HOK.out.2.1 ⟨HOK.out.2.2.1, HOK.out.2.2.2.1, HOK.out.2.2.2.2⟩
    rw [HGS.out.1, HGS.out.2.1, HGS.out.2.2.1, HGS.out.2.2.2] at hrd
    refine hrd.mono ?_
    rintro e w2 ⟨⟨A2, c2, rfl, hc2, hA2, hr2, hf2, -⟩, hb2⟩
    have HB2 := Lib.hid (HB1.out.trans (hb2.mono HB1.out.size))
    have HP2 := Lib.hid (HP1.out.call hb2)
    have HR2 := Lib.hid (And.intro hc2 (And.intro hA2 (And.intro hr2 hf2)))
    clear hrd hb2 hc2 hA2 hr2 hf2
    obtain ⟨y0, y1, y2, y3, y4⟩ := HP2.out.jis.cells
    by_cases k1 : G' = G
    · have e1 : ((G' : Int) == (G : Int)) = true := by rw [beq_iff_eq]; omega
      have e1' : ((G' : Int) != (G : Int)) = false := by rw [bne_eq_false_iff_eq]; omega
      by_cases k2 : S = i
      · have e2 : ((S : Int) == (i : Int)) = true := by rw [beq_iff_eq]; omega
        have e2' : ((S : Int) != (i : Int)) = false := by rw [bne_eq_false_iff_eq]; omega
        have HK := Lib.hid (And.intro k1 k2)
        clear k1 k2
        go_wp2_with fail
        go_ret2
        rw [HST.out, if_pos HK.out]
        refine ⟨⟨?_, (fun h => nomatch h)⟩, HB2.out⟩
        rintro b' hb'
        cases hb'
        rw [HBL.out]
        exact ⟨A2, c2, rfl, HR2.out.1, HR2.out.2.1, HR2.out.2.2.1, fun a ha => Nat.le_trans HB1.out.size (HR2.out.2.2.2 a ha)⟩
      · have e2 : ((S : Int) == (i : Int)) = false := ne_cast k2
        have HK := Lib.hid (show ¬ (G' = G ∧ S = i) from fun h => k2 h.2)
        clear k1 k2
        go_wp2_with fail
        go_ret2
        rw [HST.out, if_neg HK.out]
        exact ⟨⟨(fun _ h => nomatch h), fun _ => rfl⟩, HB2.out⟩
    · have e1 : ((G' : Int) == (G : Int)) = false := ne_cast k1
      have HK := Lib.hid (show ¬ (G' = G ∧ S = i) from fun h => k1 h.1)
      clear k1
      go_wp2_with fail
      go_ret2
      rw [HST.out, if_neg HK.out]
      exact ⟨⟨(fun _ h => nomatch h), fun _ => rfl⟩, HB2.out⟩
  · have HRO := Lib.hid (read_one kind x hrl)
    have HNO := Lib.hid hok
    have hst : stF kind x G i = none := by unfold stF; rw [if_neg (fun q => hok q.1)]
    rw [hst]
    clear p hx hrl hok hst
    go_enter Try.func49, Try.ntmps49
    go_wp2_with fail
    refine (Dk.ReadOk_calls HP.out.is at_ hat (Nat.le_refl n) ho).mono ?_
    rintro e w1 ⟨xg, rfl, hxg, hxr, hb1⟩
    rw [HXX.out] at hxr
    have HB1 := Lib.hid hb1
    have HX := Lib.hid (rd_row hxr)
    clear hxg hxr hb1 y0 y1 y2 y3 y4
    go_wp2_with fail
    rcases HRO.out with ⟨E, hE, hcall⟩ | hok
    · refine (hcall ⟨xg, 0, none⟩ 128 w1 (Nat.le_refl _) HX.out).mono ?_
      rintro e w2 ⟨rfl, hb2⟩
      have HB2 := Lib.hid (HB1.out.trans (hb2.mono HB1.out.size))
      have hE2 : (E == 0) = false := beq_eq_false_iff_ne.2 hE
      clear hcall hb2
      go_wp2_with fail
      go_ret2
      exact ⟨⟨(fun _ h => nomatch h), fun _ => rfl⟩, HB2.out⟩
    · exact absurd hok HNO.out
end Go.Proofs.Ytmlgkahadgpaiaa.Jo
