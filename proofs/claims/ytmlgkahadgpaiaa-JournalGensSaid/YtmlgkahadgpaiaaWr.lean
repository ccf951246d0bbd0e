/- Chapter 05: numbers written as bytes, the high one first. -/
import Derived.Test.YtmlgkahadgpaiaaProg
import Derived.Test.YtmlgkahadgpaiaaOn2
import Derived.Test.YtmlgkahadgpaiaaMem2
import Derived.Lib.Hide
import Derived.Deep.RegionLaw
namespace Go.Proofs.Ytmlgkahadgpaiaa.Fr
open Go.RowKit _root_.Go.Proofs.Ytmlgkahadgpaiaa.Own
set_option linter.unusedVariables false
set_option linter.unusedSimpArgs false
theorem infoB : (Try.prog.info? 5).map (fun i => (i.zero, i.size, i.bytes)) = some (some (.int .u8 0), 1, 1) := by kernel_rfl
/-- A number's lowest k bytes, the high one first. -/
def be (n : Nat) : Nat → List UInt8
  | 0 => []
  | k + 1 => UInt8.ofNat (n / 256 ^ k) :: be n k
theorem be_length (n k : Nat) : (be n k).length = k := by induction k with | zero => rfl | succ k ih => simp [be, ih]
theorem step_app {P : Program} {ops : Array Oper} {o : Oper} {a : Act} {w : World} {K : Act → World → Prop} {Q : Exit → Act → World → Prop} {E : Prop}
    (hg : o.guard = none) (s x : Operand) (t : TypeId) (hop : o.op = Op.call { callee := Callee.builtin Builtin.append, args := #[s, x], argTypes := #[t, t] })
    (base : Nat) (e : TypeId) (z : Value) (by' : Nat) (ht : P.underlying t = some (.slice e))
    (hinfo : (P.info? e).map (fun i => (i.zero, i.size, i.bytes)) = some (some z, 1, by')) (hz : z.cells.size = 1)
    (v : Value) (xs : List Value) (hs : a.eval s = v) (hown : Has base e v xs w) (ad : Addr) (m c : Nat) (ys : List Value) (hx : a.eval x = .slice (some ad) m c) (hm : m = ys.length) (hR : Rd w (some ad) ys)
    (h1 : ∀ u ∈ ys, u.oneCell' = true) (h63 : xs.length + ys.length ≤ maxLen) (hbytes : (xs.length + ys.length) * by' ≤ 140737488355328) (hbase : base ≤ w.heap.size)
    (hK : ∀ v' w', Has base e v' (xs ++ ys) w' → w.grownBy w' v.ownBlock → K (a.put o.dst v') w') :
    if Region.wanted o (yielded ops a.tmps) = true then Oper.wp P o a w K Q else E := by
  have hw : Region.wanted o (yielded ops a.tmps) = true := by simp [Region.wanted, hg]
  rw [if_pos hw]
  obtain ⟨i0, hi, hz0, hz1, hz2⟩ := info_parts hinfo
  subst hm
  refine wp_append_own w s x t hop base e i0 z 1 by' ht hi hz0 hz1 hz2 hz (by decide) v xs.length xs hs hown ad ys.length c ys hx (by simp) ?_ h1 h63 hbytes hbase fun v' w' h2 h3 _ => hK v' w' ?_ h3
  · intro j u hu
    obtain ⟨hj, rfl⟩ := List.getElem?_eq_some_iff.1 hu
    obtain ⟨a', ha', hc'⟩ := hR j hj
    cases ha'
    exact hc'
  · show w'.ownsRow base e 1 v' (xs ++ ys).length (xs ++ ys)
    rw [List.length_append]; exact h2
theorem most_calls (k : Nat) (hk : k = 1 ∨ k = 2 ∨ k = 3 ∨ k = 4) (w : World) : Calls Try.prog 68 #[.int .i64 k] w fun e w' => e = .returned (.int .i64 ((256 ^ k - 1 : Nat) : Int)) ∧ Below w.heap.size w w' := by
  rcases hk with rfl | rfl | rfl | rfl
  all_goals
    go_enter Try.func68, Try.ntmps68
    go_wp2_with fail
    go_ret
    exact ⟨rfl, Below.refl _ _⟩
structure WrIs (base g : Nat) (v : Value) (xs : List UInt8) (w : World) : Prop where
  own : w.heap[g]? = some (.cells ⟨[.int .i64 0, v]⟩ 96 (0, 0))
  has : Has base 5 v (bys xs) w
  gb : base ≤ g
theorem WrIs.cells {base g : Nat} {v : Value} {xs : List UInt8} {w : World} (h : WrIs base g v xs w) : w.cell? ⟨g, 0, none⟩ = some (.int .i64 0) ∧ w.cell? ⟨g, 1, none⟩ = some v ∧ (∀ i, w.frozen? ⟨g, i, none⟩ = false) ∧ g < w.heap.size := by
  have k := fun i => cell_of_row w g i _ _ _ h.own
  exact ⟨k 0, k 1, fun i => frozen_of_row w g i _ _ h.own, blk_lt h.own⟩
theorem WrIs.below {base g : Nat} {v : Value} {xs : List UInt8} {w w' : World} (h : WrIs base g v xs w) (hb : Below w.heap.size w w') : WrIs base g v xs w' :=
  ⟨(hb.block g (blk_lt h.own)).trans h.own, h.has.below hb, h.gb⟩
/-- A row of bytes is none of a block of another type. -/
theorem Has.ne {base g : Nat} {v : Value} {xs : List Value} {w : World} {cs : Array Value} {fr : Nat × Nat} {t : TypeId} (h : Has base 5 v xs w) (hg : w.heap[g]? = some (.cells cs t fr)) (ht : t ≠ 5) : some g ≠ v.ownBlock := by
  intro e
  obtain ⟨h1, ⟨rfl, _⟩ | ⟨k, cap, cur, rfl, hb, hk, -⟩⟩ := h
  · cases e
  · cases e
    rw [hg] at hk
    simp at hk
    exact ht hk.2.1
theorem grown_refl (w : World) (row : Option Nat) : w.grownBy w row := ⟨rfl, rfl, rfl, Nat.le_refl _, fun _ _ _ => rfl⟩
theorem Has.setOther {base g : Nat} {v : Value} {xs : List Value} {w : World} {cs : Array Value} {fr : Nat × Nat} {t : TypeId} (h : Has base 5 v xs w) (hg : w.heap[g]? = some (.cells cs t fr)) (ht : t ≠ 5) (i : Nat) (u : Value) : Has base 5 v xs (w.setCell ⟨g, i, none⟩ u) :=
  World.ownsRow.kept h (row := some g) ⟨rfl, rfl, rfl, by simp, fun k _ hn => Below.heap_setCell w _ _ _ (fun e => hn (by rw [e]))⟩ (.inr (fun e => Has.ne h hg ht e.symm))
theorem WrIs.app {base g : Nat} {v : Value} {ys : List UInt8} {W : World} (h : WrIs base g v ys W) {b : UInt8} {v' : Value} {w' : World} (hv : Has base 5 v' (bys ys ++ bys [b]) w') (hg : W.grownBy w' v.ownBlock) (hB : base ≤ W.heap.size) :
    (w'.cell? ⟨g, 0, none⟩ = some (.int .i64 0) ∧ w'.cell? ⟨g, 1, none⟩ = some v ∧ (∀ i, w'.frozen? ⟨g, i, none⟩ = false) ∧ g < w'.heap.size) ∧ WrIs base g v' (ys ++ [b]) (w'.setCell ⟨g, 1, none⟩ v') ∧ Below base W (w'.setCell ⟨g, 1, none⟩ v') := by
  have hne := Has.ne h.has h.own (by decide)
  have hg' := (hg.block g (blk_lt h.own) hne).trans h.own
  have k := fun i => cell_of_row w' g i _ _ _ hg'
  refine ⟨⟨k 0, k 1, fun i => frozen_of_row w' g i _ _ hg', blk_lt hg'⟩, ⟨?_, ?_, h.gb⟩, ?_⟩
  · rw [heap_setCell_list hg']; rfl
  · rw [bys_append]; exact Has.setOther hv hg' (by decide) 1 v'
  · exact ((Below.refl base W).grown hg hB (fun k e => (h.has.blk k e).1)).setCell (p := ⟨g, 1, none⟩) h.gb _
set_option maxRecDepth 10000 in
set_option maxHeartbeats 4000000 in
theorem Num_calls {base g : Nat} {v : Value} {xs : List UInt8} {w : World} (h : WrIs base g v xs w) (n k : Nat) (hk : k = 1 ∨ k = 2 ∨ k = 3 ∨ k = 4) (hn : n < 256 ^ k) (hx : xs.length ≤ 1000) (hb : base ≤ w.heap.size) :
    Calls Try.prog 55 #[.pointer (some ⟨g, 0, none⟩), .int .i64 n, .int .i64 k] w fun e w' => e = .returned (.tuple #[]) ∧ ∃ v', WrIs base g v' (xs ++ be n k) w' ∧ Below base w w' := by
  have HW := Lib.hid h
  have HM := Lib.hid (most_calls k hk w)
  clear h
  have m1 : decide ((k : Int) < 1) = false := by rw [decide_eq_false_iff_not]; omega
  have m2 : decide ((k : Int) > 4) = false := by rw [decide_eq_false_iff_not]; omega
  have m3 : decide ((n : Int) < 0) = false := by rw [decide_eq_false_iff_not]; omega
  have m4 : decide ((n : Int) > ((256 ^ k - 1 : Nat) : Int)) = false := by rw [decide_eq_false_iff_not]; omega
  obtain ⟨M, hM⟩ : ∃ M : Nat, 256 ^ k - 1 = M := ⟨_, rfl⟩
  rw [hM] at m4 HM
  have m5 : decide (M < n) = false := by rw [decide_eq_false_iff_not]; omega
  have w0 : IntKind.i64.wrap 0 = 0 := by decide
  have w8 : IntKind.i64.wrap 8 = 8 := by decide
  have w16 : IntKind.i64.wrap 16 = 16 := by decide
  have w24 : IntKind.i64.wrap 24 = 24 := by decide
  go_enter Try.func55, Try.ntmps55
  go_wp2_with fail
  refine HM.out.mono ?_
  rintro e w1 ⟨rfl, hb1⟩
  have HW1 := Lib.hid (HW.out.below hb1)
  have HB1 := Lib.hid (hb1.mono hb)
  clear hb1 hM
  have f1 : IntKind.i64.wrap ((k : Int) - 1) = (k : Int) - 1 := by rw [IntKind.wrap_i64]; omega
  go_wp2_with fail
  go_loopw [6] (fun v6 wr => ∃ (j : Nat) (vr : Value) (ys : List UInt8), j ≤ k ∧ v6 = .int .i64 ((j : Int) - 1) ∧ ys.length + j = xs.length + k ∧ Hid (WrIs base g vr ys wr) ∧ Hid (ys ++ be n j = xs ++ be n k) ∧ Hid (Below base w wr)) (fun v6 _ => (intOf v6 + 1).toNat)
  case atStart => exact ⟨k, v, xs, Nat.le_refl _, by simp, rfl, HW1, Lib.hid rfl, HB1⟩
  case round =>
    clear HW HW1 HB1 HM
    obtain ⟨j, vr, ys, hj, rfl, hyl, HR, HE, HB⟩ := hrel
    cases j with
    | zero =>
      have hd : decide (((0 : Nat) : Int) - 1 ≥ 0) = false := by decide
      go_wp2_with fail
      go_end0
      refine ⟨rfl, vr, ?_, HB.out⟩
      have he := HE.out
      simp only [be, List.append_nil] at he
      rw [← he]
      exact HR.out
    | succ i =>
      have hi : i = 0 ∨ i = 1 ∨ i = 2 ∨ i = 3 := by omega
      obtain ⟨y0, y1, y2, y3⟩ := HR.out.cells
      rcases hi with rfl | rfl | rfl | rfl
      · have HWa := Lib.hid (HR.out.below (((Below.refl wr.heap.size wr).alloc (Nat.le_refl _) (.cells #[Value.int IntKind.u8 (IntKind.u8.wrap (n : Int))] 5)).drew))
        have hRb : Rd (wr.alloc (.cells #[Value.int IntKind.u8 (IntKind.u8.wrap (n : Int))] 5)).drew (some ⟨wr.heap.size, 0, none⟩) (bys [UInt8.ofNat (n / 256 ^ 0)]) := by
          rw [show bys [UInt8.ofNat (n / 256 ^ 0)] = [Value.int IntKind.u8 (IntKind.u8.wrap (n : Int))] from by
            unfold bys nB
            rw [IntKind.wrap_u8]
            simp
            try omega]
          exact Rd.mark (w := wr) _ _ _
        have HRb := Lib.hid hRb
        clear hRb
        have hle : (bys ys).length + (bys [UInt8.ofNat (n / 256 ^ 0)]).length ≤ 1100 := by rw [bys_length, bys_length]; simp; omega
        have HLe := Lib.hid hle
        clear hle
        go_wp2
        go_region_law (refine step_app rfl (.tmp 39) (.tmp 45) 23 rfl base 5 (.int .u8 0) 1 Try.underlying23 infoB rfl vr (bys ys) (by simp [Act.eval, Act.put]) HWa.out.has ⟨wr.heap.size, 0, none⟩ 1 1 (bys [UInt8.ofNat (n / 256 ^ 0)]) (by simp [Act.eval, Act.put]) rfl HRb.out (bys_one _) (Nat.le_trans HLe.out (by decide)) (by have := HLe.out; omega) (Nat.le_of_lt (Nat.lt_of_le_of_lt HWa.out.gb (blk_lt HWa.out.own))) ?_; intro v' w' hv hg; obtain ⟨A1, N1, c1, rfl⟩ : ∃ A N c, v' = .slice A N c := (by obtain ⟨A, c, e, -⟩ := hv.form; exact ⟨A, _, c, e⟩); obtain ⟨⟨z0, z1, z2, z3⟩, hz, hzb⟩ := HWa.out.app hv hg (Nat.le_of_lt (Nat.lt_of_le_of_lt HWa.out.gb (blk_lt HWa.out.own))); have HZ := Lib.hid hz; have HZB := Lib.hid hzb; clear hv hg hz hzb y0 y1 y2 y3)
        all_goals
          have HB2 := Lib.hid ((HB.out.trans ((((Below.refl base wr).alloc (Nat.le_of_lt (Nat.lt_of_le_of_lt HR.out.gb (blk_lt HR.out.own))) (.cells #[Value.int IntKind.u8 (IntKind.u8.wrap (n : Int))] 5)).drew))).trans HZB.out)
          clear HRb HLe HWa HZB z0 z1 z2 z3
          go_wp2_with fail
          go_roundw
          case rel => exact ⟨0, _, _, by omega, by simp, by simp; omega, HZ, Lib.hid (by have he := HE.out; simp only [be] at he ⊢; rw [List.append_assoc]; exact he), HB2⟩
          case measure => simp [intOf]
      · have HWa := Lib.hid (HR.out.below (((Below.refl wr.heap.size wr).alloc (Nat.le_refl _) (.cells #[Value.int IntKind.u8 (IntKind.u8.wrap ((n : Int) / 256))] 5)).drew))
        have hRb : Rd (wr.alloc (.cells #[Value.int IntKind.u8 (IntKind.u8.wrap ((n : Int) / 256))] 5)).drew (some ⟨wr.heap.size, 0, none⟩) (bys [UInt8.ofNat (n / 256 ^ 1)]) := by
          rw [show bys [UInt8.ofNat (n / 256 ^ 1)] = [Value.int IntKind.u8 (IntKind.u8.wrap ((n : Int) / 256))] from by
            unfold bys nB
            rw [IntKind.wrap_u8]
            simp
            try omega]
          exact Rd.mark (w := wr) _ _ _
        have HRb := Lib.hid hRb
        clear hRb
        have hle : (bys ys).length + (bys [UInt8.ofNat (n / 256 ^ 1)]).length ≤ 1100 := by rw [bys_length, bys_length]; simp; omega
        have HLe := Lib.hid hle
        clear hle
        go_wp2
        go_region_law (refine step_app rfl (.tmp 39) (.tmp 45) 23 rfl base 5 (.int .u8 0) 1 Try.underlying23 infoB rfl vr (bys ys) (by simp [Act.eval, Act.put]) HWa.out.has ⟨wr.heap.size, 0, none⟩ 1 1 (bys [UInt8.ofNat (n / 256 ^ 1)]) (by simp [Act.eval, Act.put]) rfl HRb.out (bys_one _) (Nat.le_trans HLe.out (by decide)) (by have := HLe.out; omega) (Nat.le_of_lt (Nat.lt_of_le_of_lt HWa.out.gb (blk_lt HWa.out.own))) ?_; intro v' w' hv hg; obtain ⟨A1, N1, c1, rfl⟩ : ∃ A N c, v' = .slice A N c := (by obtain ⟨A, c, e, -⟩ := hv.form; exact ⟨A, _, c, e⟩); obtain ⟨⟨z0, z1, z2, z3⟩, hz, hzb⟩ := HWa.out.app hv hg (Nat.le_of_lt (Nat.lt_of_le_of_lt HWa.out.gb (blk_lt HWa.out.own))); have HZ := Lib.hid hz; have HZB := Lib.hid hzb; clear hv hg hz hzb y0 y1 y2 y3)
        all_goals
          have HB2 := Lib.hid ((HB.out.trans ((((Below.refl base wr).alloc (Nat.le_of_lt (Nat.lt_of_le_of_lt HR.out.gb (blk_lt HR.out.own))) (.cells #[Value.int IntKind.u8 (IntKind.u8.wrap ((n : Int) / 256))] 5)).drew))).trans HZB.out)
          clear HRb HLe HWa HZB z0 z1 z2 z3
          go_wp2_with fail
          go_roundw
          case rel => exact ⟨1, _, _, by omega, by simp, by simp; omega, HZ, Lib.hid (by have he := HE.out; simp only [be] at he ⊢; rw [List.append_assoc]; exact he), HB2⟩
          case measure => simp [intOf]
      · have HWa := Lib.hid (HR.out.below (((Below.refl wr.heap.size wr).alloc (Nat.le_refl _) (.cells #[Value.int IntKind.u8 (IntKind.u8.wrap ((n : Int) / 65536))] 5)).drew))
        have hRb : Rd (wr.alloc (.cells #[Value.int IntKind.u8 (IntKind.u8.wrap ((n : Int) / 65536))] 5)).drew (some ⟨wr.heap.size, 0, none⟩) (bys [UInt8.ofNat (n / 256 ^ 2)]) := by
          rw [show bys [UInt8.ofNat (n / 256 ^ 2)] = [Value.int IntKind.u8 (IntKind.u8.wrap ((n : Int) / 65536))] from by
            unfold bys nB
            rw [IntKind.wrap_u8]
            simp
            try omega]
          exact Rd.mark (w := wr) _ _ _
        have HRb := Lib.hid hRb
        clear hRb
        have hle : (bys ys).length + (bys [UInt8.ofNat (n / 256 ^ 2)]).length ≤ 1100 := by rw [bys_length, bys_length]; simp; omega
        have HLe := Lib.hid hle
        clear hle
        go_wp2
        go_region_law (refine step_app rfl (.tmp 39) (.tmp 45) 23 rfl base 5 (.int .u8 0) 1 Try.underlying23 infoB rfl vr (bys ys) (by simp [Act.eval, Act.put]) HWa.out.has ⟨wr.heap.size, 0, none⟩ 1 1 (bys [UInt8.ofNat (n / 256 ^ 2)]) (by simp [Act.eval, Act.put]) rfl HRb.out (bys_one _) (Nat.le_trans HLe.out (by decide)) (by have := HLe.out; omega) (Nat.le_of_lt (Nat.lt_of_le_of_lt HWa.out.gb (blk_lt HWa.out.own))) ?_; intro v' w' hv hg; obtain ⟨A1, N1, c1, rfl⟩ : ∃ A N c, v' = .slice A N c := (by obtain ⟨A, c, e, -⟩ := hv.form; exact ⟨A, _, c, e⟩); obtain ⟨⟨z0, z1, z2, z3⟩, hz, hzb⟩ := HWa.out.app hv hg (Nat.le_of_lt (Nat.lt_of_le_of_lt HWa.out.gb (blk_lt HWa.out.own))); have HZ := Lib.hid hz; have HZB := Lib.hid hzb; clear hv hg hz hzb y0 y1 y2 y3)
        all_goals
          have HB2 := Lib.hid ((HB.out.trans ((((Below.refl base wr).alloc (Nat.le_of_lt (Nat.lt_of_le_of_lt HR.out.gb (blk_lt HR.out.own))) (.cells #[Value.int IntKind.u8 (IntKind.u8.wrap ((n : Int) / 65536))] 5)).drew))).trans HZB.out)
          clear HRb HLe HWa HZB z0 z1 z2 z3
          go_wp2_with fail
          go_roundw
          case rel => exact ⟨2, _, _, by omega, by simp, by simp; omega, HZ, Lib.hid (by have he := HE.out; simp only [be] at he ⊢; rw [List.append_assoc]; exact he), HB2⟩
          case measure => simp [intOf]
      · have HWa := Lib.hid (HR.out.below (((Below.refl wr.heap.size wr).alloc (Nat.le_refl _) (.cells #[Value.int IntKind.u8 (IntKind.u8.wrap ((n : Int) / 16777216))] 5)).drew))
        have hRb : Rd (wr.alloc (.cells #[Value.int IntKind.u8 (IntKind.u8.wrap ((n : Int) / 16777216))] 5)).drew (some ⟨wr.heap.size, 0, none⟩) (bys [UInt8.ofNat (n / 256 ^ 3)]) := by
          rw [show bys [UInt8.ofNat (n / 256 ^ 3)] = [Value.int IntKind.u8 (IntKind.u8.wrap ((n : Int) / 16777216))] from by
            unfold bys nB
            rw [IntKind.wrap_u8]
            simp
            try omega]
          exact Rd.mark (w := wr) _ _ _
        have HRb := Lib.hid hRb
        clear hRb
        have hle : (bys ys).length + (bys [UInt8.ofNat (n / 256 ^ 3)]).length ≤ 1100 := by rw [bys_length, bys_length]; simp; omega
        have HLe := Lib.hid hle
        clear hle
        go_wp2
        go_region_law (refine step_app rfl (.tmp 39) (.tmp 45) 23 rfl base 5 (.int .u8 0) 1 Try.underlying23 infoB rfl vr (bys ys) (by simp [Act.eval, Act.put]) HWa.out.has ⟨wr.heap.size, 0, none⟩ 1 1 (bys [UInt8.ofNat (n / 256 ^ 3)]) (by simp [Act.eval, Act.put]) rfl HRb.out (bys_one _) (Nat.le_trans HLe.out (by decide)) (by have := HLe.out; omega) (Nat.le_of_lt (Nat.lt_of_le_of_lt HWa.out.gb (blk_lt HWa.out.own))) ?_; intro v' w' hv hg; obtain ⟨A1, N1, c1, rfl⟩ : ∃ A N c, v' = .slice A N c := (by obtain ⟨A, c, e, -⟩ := hv.form; exact ⟨A, _, c, e⟩); obtain ⟨⟨z0, z1, z2, z3⟩, hz, hzb⟩ := HWa.out.app hv hg (Nat.le_of_lt (Nat.lt_of_le_of_lt HWa.out.gb (blk_lt HWa.out.own))); have HZ := Lib.hid hz; have HZB := Lib.hid hzb; clear hv hg hz hzb y0 y1 y2 y3)
        all_goals
          have HB2 := Lib.hid ((HB.out.trans ((((Below.refl base wr).alloc (Nat.le_of_lt (Nat.lt_of_le_of_lt HR.out.gb (blk_lt HR.out.own))) (.cells #[Value.int IntKind.u8 (IntKind.u8.wrap ((n : Int) / 16777216))] 5)).drew))).trans HZB.out)
          clear HRb HLe HWa HZB z0 z1 z2 z3
          go_wp2_with fail
          go_roundw
          case rel => exact ⟨3, _, _, by omega, by simp, by simp; omega, HZ, Lib.hid (by have he := HE.out; simp only [be] at he ⊢; rw [List.append_assoc]; exact he), HB2⟩
          case measure => simp [intOf]
end Go.Proofs.Ytmlgkahadgpaiaa.Fr
