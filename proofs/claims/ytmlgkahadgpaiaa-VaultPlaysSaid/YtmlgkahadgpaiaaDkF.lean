/- Chapter 07: the program's disk and the document's, side by side: each call answers alike and leaves them alike. -/
import Derived.Test.YtmlgkahadgpaiaaDkE
namespace Go.Proofs.Ytmlgkahadgpaiaa.Dk
open Go.RowKit _root_.Go.Proofs.Ytmlgkahadgpaiaa.Own
set_option linter.unusedVariables false
set_option linter.unusedSimpArgs false
structure Rel (d : D) (rd : RD) (k : Nat) : Prop where
  all : rd.all = d.all
  off : rd.off = d.off
  wr : rd.writes = d.writes
  wb : 0 ≤ d.writes ∧ d.writes ≤ k
  lb : -(k : Int) ≤ d.left ∧ d.left ≤ 9223372036854775807
  kp : 0 ≤ rd.keep ∧ rd.keep ≤ 128
  on : d.armed = true → rd.fuse = d.left ∧ rd.keep = d.keep ∧ 0 ≤ d.left
  no : d.armed = false → rd.fuse = -1
theorem Rel.new (n : Nat) : Rel (D0 n) (RD0 n) 0 := ⟨rfl, rfl, rfl, by simp [D0], by simp [D0], by simp [RD0], by simp [D0], fun _ => rfl⟩
theorem Rel.mono {d : D} {rd : RD} {k k' : Nat} (h : Rel d rd k) (hk : k ≤ k') : Rel d rd k' :=
  ⟨h.all, h.off, h.wr, by have := h.wb; omega, by have := h.lb; omega, h.kp, h.on, h.no⟩
theorem Rel.power {d : D} {rd : RD} {k : Nat} (h : Rel d rd k) : Rel { d with off := false, armed := false } { rd with off := false, fuse := -1 } k :=
  ⟨h.all, rfl, h.wr, h.wb, h.lb, h.kp, by simp, fun _ => rfl⟩
theorem Rel.arm {d : D} {rd : RD} {k : Nat} (h : Rel d rd k) (m p : Int) (hm : m ≤ 9223372036854775807) : Rel (armD d m p) (armR rd m p) k := by
  unfold armD armR
  split
  · exact h
  · rename_i hh
    refine ⟨h.all, h.off, h.wr, h.wb, ?_, ?_, fun _ => ⟨rfl, rfl, ?_⟩, by simp⟩ <;> simp only <;> omega
theorem write_step {d : D} {rd : RD} {k n : Nat} (hr : Rel d rd k) (hk : k ≤ 1000) (i : Int) (N : Nat) (b : List UInt8) (hb : b.length = N) (hn : n ≤ 1024) :
    ∃ (E : Int) (d' : D) (rd' : RD), Rel d' rd' (k + 1) ∧
      (∀ g r c R A cb (w : World), n ≤ c → Is g r n c R d w → (A = none → cb = 0) → N ≤ cb → Rd w A (bys b) → (∀ a, A = some a → a.block ≠ g) →
        Calls Try.prog 34 #[.pointer (some ⟨g, 0, none⟩), .int .i64 i, .slice A N cb] w fun e w' => e = .returned (.int .i64 E) ∧ Only [g, r] w w' ∧ Is g r n c R d' w') ∧
      (∀ h q A cb (w : World), RIs h q n rd w → (A = none → cb = 0) → N ≤ cb → Rd w A (bys b) → (∀ a, A = some a → a.block ≠ h ∧ a.block ≠ q) →
        Calls Try.prog 35 #[.pointer (some ⟨h, 0, none⟩), .int .i64 i, .slice A N cb] w fun e w' => e = .returned (.int .i64 E) ∧ Only [h, q] w w' ∧ RIs h q n rd' w') := by
  have bad : ∀ E : Int, ((¬ (0 ≤ i ∧ i < n) ∧ E = 8) ∨ ((0 ≤ i ∧ i < n) ∧ N ≠ 128 ∧ E = 1) ∨ ((0 ≤ i ∧ i < n) ∧ N = 128 ∧ d.off = true ∧ E = 19)) → ∃ (E : Int) (d' : D) (rd' : RD), Rel d' rd' (k + 1) ∧
      (∀ g r c R A cb (w : World), n ≤ c → Is g r n c R d w → (A = none → cb = 0) → N ≤ cb → Rd w A (bys b) → (∀ a, A = some a → a.block ≠ g) →
        Calls Try.prog 34 #[.pointer (some ⟨g, 0, none⟩), .int .i64 i, .slice A N cb] w fun e w' => e = .returned (.int .i64 E) ∧ Only [g, r] w w' ∧ Is g r n c R d' w') ∧
      (∀ h q A cb (w : World), RIs h q n rd w → (A = none → cb = 0) → N ≤ cb → Rd w A (bys b) → (∀ a, A = some a → a.block ≠ h ∧ a.block ≠ q) →
        Calls Try.prog 35 #[.pointer (some ⟨h, 0, none⟩), .int .i64 i, .slice A N cb] w fun e w' => e = .returned (.int .i64 E) ∧ Only [h, q] w w' ∧ RIs h q n rd' w') := by
    intro E hE
    refine ⟨E, d, rd, hr.mono (by omega), ?_, ?_⟩
    · intro g r c R A cb w hc hI _ _ _ _
      exact (WriteBad_calls hI i A N cb E hE).mono fun e w' ⟨h1, h2⟩ => ⟨h1, Only.of_below h2, hI.below h2⟩
    · intro h q A cb w hI _ _ _ _
      exact (RWriteBad_calls hI hn i A N cb E (by rw [hr.off]; exact hE)).mono fun e w' ⟨h1, h2⟩ => ⟨h1, Only.of_below h2, hI.below h2⟩
  by_cases c1 : 0 ≤ i ∧ i < n
  · by_cases c2 : N = 128
    · cases c3 : d.off with
      | true => exact bad 19 (.inr (.inr ⟨c1, c2, c3, rfl⟩))
      | false =>
        subst c2
        obtain ⟨j, rfl⟩ : ∃ j : Nat, i = j := ⟨i.toNat, by omega⟩
        have hj : j < n := by omega
        have some_of : ∀ (A : Option Addr) (cb : Nat), (A = none → cb = 0) → 128 ≤ cb → ∃ a, A = some a := by
          intro A cb h1 h2
          cases A with
          | none => have := h1 rfl; omega
          | some a => exact ⟨a, rfl⟩
        have hw : 0 ≤ d.writes ∧ d.writes < 1099511627776 := by have := hr.wb; omega
        have hw' : 0 ≤ rd.writes ∧ rd.writes < 1099511627776 := by rw [hr.wr]; exact hw
        have hl : -1099511627776 < d.left ∧ d.left ≤ 9223372036854775807 := by have := hr.lb; omega
        have ho' : rd.off = false := by rw [hr.off]; exact c3
        cases c4 : d.armed with
        | true =>
          obtain ⟨e1, e2, e3⟩ := hr.on c4
          by_cases c5 : d.left = 0
          · refine ⟨19, { d with all := putRow d.all j (torn d.keep.toNat b), off := true, armed := false, writes := d.writes + 1 }, { rd with all := putRow rd.all j (torn rd.keep.toNat b), off := true, fuse := -1, writes := rd.writes + 1 }, ?_, ?_, ?_⟩
            · refine ⟨by simp only; rw [hr.all, e2], rfl, by simp only; rw [hr.wr], ?_, ?_, hr.kp, by simp, fun _ => rfl⟩
              · have := hr.wb; simp only; omega
              · have := hr.lb; simp only; omega
            · intro g r c R A cb w hc hI hA hcb hR hng
              obtain ⟨a, rfl⟩ := some_of A cb hA hcb
              exact WriteTorn_calls hI j hj hc c3 a cb b hb hcb hR (hng a rfl) hw (by rw [← e2]; exact hr.kp) c4 c5
            · intro h q A cb w hI hA hcb hR hng
              obtain ⟨a, rfl⟩ := some_of A cb hA hcb
              exact RWriteTorn_calls hI hn j hj ho' a cb b hb hcb hR (hng a rfl) hw' hr.kp (by rw [e1]; exact c5)
          · refine ⟨0, { d with all := putRow d.all j b, left := d.left - 1, writes := d.writes + 1 }, { rd with all := putRow rd.all j b, fuse := rd.fuse - 1, writes := rd.writes + 1 }, ?_, ?_, ?_⟩
            · refine ⟨by simp only; rw [hr.all], hr.off, by simp only; rw [hr.wr], ?_, ?_, hr.kp, ?_, ?_⟩
              · have := hr.wb; simp only; omega
              · have := hr.lb; simp only; omega
              · intro _; simp only; exact ⟨by rw [e1], e2, by omega⟩
              · intro h; simp only at h; rw [c4] at h; cases h
            · intro g r c R A cb w hc hI hA hcb hR hng
              obtain ⟨a, rfl⟩ := some_of A cb hA hcb
              exact WriteAll_calls hI j hj hc c3 a cb b hb hcb hR (hng a rfl) hw hl (.inr ⟨c4, by simpa using c5⟩)
            · intro h q A cb w hI hA hcb hR hng
              obtain ⟨a, rfl⟩ := some_of A cb hA hcb
              exact RWriteArmed_calls hI hn j hj ho' a cb b hb hcb hR (hng a rfl) hw' hr.kp (by rw [e1]; simpa using c5) (by rw [e1, decide_eq_true_eq]; omega) (by rw [e1]; exact hl.2)
        | false =>
          have e1 := hr.no c4
          refine ⟨0, { d with all := putRow d.all j b, left := d.left - 1, writes := d.writes + 1 }, { rd with all := putRow rd.all j b, writes := rd.writes + 1 }, ?_, ?_, ?_⟩
          · refine ⟨by simp only; rw [hr.all], hr.off, by simp only; rw [hr.wr], ?_, ?_, hr.kp, ?_, fun _ => e1⟩
            · have := hr.wb; simp only; omega
            · have := hr.lb; simp only; omega
            · intro h; simp only at h; rw [c4] at h; cases h
          · intro g r c R A cb w hc hI hA hcb hR hng
            obtain ⟨a, rfl⟩ := some_of A cb hA hcb
            exact WriteAll_calls hI j hj hc c3 a cb b hb hcb hR (hng a rfl) hw hl (.inl c4)
          · intro h q A cb w hI hA hcb hR hng
            obtain ⟨a, rfl⟩ := some_of A cb hA hcb
            exact RWriteOk_calls hI hn j hj ho' a cb b hb hcb hR (hng a rfl) hw' hr.kp (by rw [e1]; decide) (by rw [e1]; decide)
    · exact bad 1 (.inr (.inl ⟨c1, c2, rfl⟩))
  · exact bad 8 (.inl ⟨c1, rfl⟩)
/-- Both disks in the world, beside what the caller had. -/
structure PS (w0 : World) (g r n h q : Nat) (d : D) (rd : RD) (w : World) : Prop where
  below : Below w0.heap.size w0 w
  is : Is g r n n [] d w
  ris : RIs h q n rd w
  own : w0.heap.size ≤ g ∧ w0.heap.size ≤ r ∧ w0.heap.size ≤ h ∧ w0.heap.size ≤ q
theorem PS.call {w0 : World} {g r n h q : Nat} {d : D} {rd : RD} {w w' : World} (p : PS w0 g r n h q d rd w) (hb : Below w.heap.size w w') : PS w0 g r n h q d rd w' :=
  ⟨p.below.trans (hb.mono p.below.size), p.is.below hb, p.ris.below hb, p.own⟩
theorem PS.ne {w0 : World} {g r n h q : Nat} {d : D} {rd : RD} {w : World} (p : PS w0 g r n h q d rd w) : h ≠ g ∧ h ≠ r ∧ q ≠ g ∧ q ≠ r := by
  refine ⟨?_, ?_, ?_, ?_⟩ <;> intro e <;> subst e
  · have := p.ris.own.symm.trans p.is.own; simp at this
  · have := p.ris.own.symm.trans p.is.row; simp at this
  · have := p.ris.row.symm.trans p.is.own; simp at this
  · have := p.ris.row.symm.trans p.is.row; simp at this
theorem PS.turn {w0 : World} {g r n h q : Nat} {d d' : D} {rd : RD} {w w' : World} (p : PS w0 g r n h q d rd w) (ho : Only [g, r] w w') (hi : Is g r n n [] d' w') : PS w0 g r n h q d' rd w' := by
  obtain ⟨n1, n2, n3, n4⟩ := p.ne
  refine ⟨p.below.trans (ho.less ?_ p.below.size), hi, ⟨?_, ?_, p.ris.len⟩, p.own⟩
  · intro k hk; simp at hk; rcases hk with rfl | rfl; exact p.own.1; exact p.own.2.1
  · rw [ho.keep h (blk_lt p.ris.own) (by simp [n1, n2])]; exact p.ris.own
  · rw [ho.keep q (blk_lt p.ris.row) (by simp [n3, n4])]; exact p.ris.row
theorem PS.rturn {w0 : World} {g r n h q : Nat} {d : D} {rd rd' : RD} {w w' : World} (p : PS w0 g r n h q d rd w) (ho : Only [h, q] w w') (hi : RIs h q n rd' w') : PS w0 g r n h q d rd' w' := by
  obtain ⟨n1, n2, n3, n4⟩ := p.ne
  refine ⟨p.below.trans (ho.less ?_ p.below.size), ⟨?_, ?_, p.is.len⟩, hi, p.own⟩
  · intro k hk; simp at hk; rcases hk with rfl | rfl; exact p.own.2.2.1; exact p.own.2.2.2
  · rw [ho.keep g (blk_lt p.is.own) (by simp [Ne.symm n1, Ne.symm n3])]; exact p.is.own
  · rw [ho.keep r (blk_lt p.is.row) (by simp [Ne.symm n2, Ne.symm n4])]; exact p.is.row
end Go.Proofs.Ytmlgkahadgpaiaa.Dk
