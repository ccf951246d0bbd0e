/- Chapter 07: alive, and the law DiskNobody. -/
import Derived.Test.YtinommcocgnmlaaDkN
namespace Go.Proofs.Ytinommcocgnmlaa.Dk
open Go.RowKit _root_.Go.Proofs.Ytinommcocgnmlaa.Own
set_option linter.unusedVariables false
set_option linter.unusedSimpArgs false
/-- The world as a caller of its own disk sees it: nothing elder has turned; the disk is known. -/
structure St (w0 : World) (g r n c : Nat) (R : List Value) (d : D) (w : World) : Prop where
  below : Below w0.heap.size w0 w
  is : Is g r n c R d w
  own : w0.heap.size ≤ g ∧ w0.heap.size ≤ r
theorem St.call {w0 : World} {g r n c : Nat} {R : List Value} {d : D} {w w' : World} (h : St w0 g r n c R d w) (hb : Below w.heap.size w w') : St w0 g r n c R d w' :=
  ⟨h.below.trans (hb.mono h.below.size), h.is.below hb, h.own⟩
theorem St.turn {w0 : World} {g r n c : Nat} {R : List Value} {d d' : D} {w w' : World} (h : St w0 g r n c R d w) (ho : Only [g, r] w w') (hi : Is g r n c R d' w') : St w0 g r n c R d' w' :=
  ⟨h.below.trans (ho.less (by intro k hk; simp at hk; rcases hk with rfl | rfl; exact h.own.1; exact h.own.2) h.below.size), hi, h.own⟩
theorem callSt {P : Program} {f : FuncId} {args : Array Value} {W w0 : World} {g r n c : Nat} {R : List Value} {d : D} {E : Ending → Prop} {Post : Ending → World → Prop}
    (h : Calls P f args W fun e w' => E e ∧ Below W.heap.size W w') (hS : St w0 g r n c R d W) (k : ∀ e w', E e → St w0 g r n c R d w' → Post e w') : Calls P f args W Post :=
  h.mono fun e w' ⟨h1, h2⟩ => k e w' h1 (hS.call h2)
theorem turnSt {P : Program} {f : FuncId} {args : Array Value} {W w0 : World} {g r n c : Nat} {R : List Value} {d d' : D} {E : Ending → Prop} {Post : Ending → World → Prop}
    (h : Calls P f args W fun e w' => E e ∧ Only [g, r] W w' ∧ Is g r n c R d' w') (hS : St w0 g r n c R d W) (k : ∀ e w', E e → Only [g, r] W w' → St w0 g r n c R d' w' → Post e w') : Calls P f args W Post :=
  h.mono fun e w' ⟨h1, h2, h3⟩ => k e w' h1 h2 (hS.turn h2 h3)
/-- Bytes of a usual size. -/
theorem Bytes128 (k i p : Int) (b : UInt8) (s : Int) (hs : -100 ≤ s ∧ s ≤ 100) (w : World) :
    Calls Try.prog 17 #[.agg #[.int .u8 k, .int .i64 i, .int .i64 p, .int .u8 (nB b), .int .i8 s]] w fun e w' => ∃ a c, e = .returned (.slice (some a) 128 c) ∧ 128 ≤ c ∧ w.heap.size ≤ a.block ∧ Rd w' (some a) (bys (ups b 128)) ∧ Below w.heap.size w w' := by
  have h := Bytes_calls k i p b s (by omega) w
  rw [show actLen s = 128 from if_neg (by omega)] at h
  refine h.mono ?_
  rintro e w' ⟨v, rfl, hv, hb⟩
  obtain ⟨a, c, rfl, hc, hr⟩ := Has.some_ hv 127 (by rw [ups_length])
  exact ⟨a, c, rfl, hc, (Has.blk hv a.block rfl).1, hr, hb⟩
theorem rd_set {w w' : World} {bs : List Nat} {a : Addr} {xs : List Value} (h : Hid (Rd w (some a) xs)) (ho : Only bs w w') (hb : a.block ∉ bs) : Hid (Rd w' (some a) xs) := Lib.hid (Rd.only h.out ho (fun _ e => by cases e; exact hb))
def aD (d : D) : D := { d with armed := true, left := 0, keep := 2 }
def bD : D := { all := putRow (D0 2).all 1 (torn 2 (ups 1 128)), off := true, armed := false, left := 0, keep := 2, writes := 1 }
theorem b_row : rowB bD.all 1 = torn 2 (ups 1 128) := by
  have h1 : ((D0 2).all).length = 256 := by unfold D0; exact List.length_replicate
  have h2 : (torn 2 (ups 1 128)).length = 128 := by simp [torn, ups_length]
  unfold rowB bD putRow
  simp only
  rw [List.append_assoc, List.drop_append_of_le_length (by rw [List.length_take]; omega), List.drop_of_length_le (by rw [List.length_take]; omega), List.nil_append, List.take_append_of_le_length (by omega), List.take_of_length_le (by omega)]
theorem torn_cells : (bys (torn 2 (ups 1 128)))[0]? = some (.int .u8 1) ∧ (bys (torn 2 (ups 1 128)))[1]? = some (.int .u8 2) ∧ (bys (torn 2 (ups 1 128)))[2]? = some (.int .u8 255) ∧ (bys (torn 2 (ups 1 128)))[127]? = some (.int .u8 255) := by
  refine ⟨rfl, rfl, rfl, rfl⟩
set_option maxRecDepth 10000 in
set_option maxHeartbeats 4000000 in
theorem alive07 (w : World) : Calls Try.prog 13 #[] w fun e w' => e = .returned (.bool true) ∧ Below w.heap.size w w' := by
  have H0 := At.refl w
  go_enter Try.func13, Try.ntmps13
  go_wp2_with fail
  refine (New_calls 2 (by decide) (by decide) w).mono ?_
  rintro e w1 ⟨g, r, rfl, hg, hr, hI, hb⟩
  have S1 : St w g r 2 2 [] (D0 2) w1 := ⟨hb, hI, hg, hr⟩
  clear hI hb H0
  go_wp2_with fail
  refine callSt (NewBad_calls 0 (by decide) _) S1 ?_
  rintro e w2 rfl S2
  clear S1
  go_wp2_with fail
  have hB := Bytes128 0 0 0 1 0 (by decide) w2
  rw [show nB 1 = 1 from rfl] at hB
  refine hB.mono ?_
  rintro e w3 ⟨a, c, rfl, hc, ha, hR, hb3⟩
  have S3 := S2.call hb3
  have HR := Lib.hid hR
  have hag : a.block ≠ g := by have := blk_lt S2.is.own; omega
  have har : a.block ≠ r := by have := blk_lt S2.is.row; omega
  clear S2 hb3 hR hB ha
  go_wp2_with fail
  have hA := Arm_calls S3.is 0 2
  rw [show armE 0 2 = 0 from rfl, show armD (D0 2) 0 2 = aD (D0 2) from rfl] at hA
  refine hA.mono ?_
  rintro e w4 ⟨rfl, o4, i4⟩
  have S4 := S3.turn (o4.mono (by simp)) i4
  have HR4 := rd_set HR o4 (by simpa using hag)
  clear hA S3 HR o4 i4
  go_wp2_with fail
  have hW := WriteTorn_calls S4.is 1 (by decide) (by decide) rfl a c (ups 1 128) (ups_length _ _) hc HR4.out hag (by decide) (by decide) rfl rfl
  refine hW.mono ?_
  rintro e w5 ⟨rfl, o5, i5⟩
  have S5 : St w g r 2 2 [] bD w5 := S4.turn o5 i5
  have HR5 := rd_set HR4 o5 (by simp; exact ⟨hag, har⟩)
  clear hW S4 HR4 o5 i5
  go_wp2_with fail
  have hO := On_calls S5.is
  rw [show bD.off = true from rfl] at hO
  refine callSt hO S5 ?_
  rintro e w6 rfl S6
  clear hO S5 HR5
  go_wp2_with fail
  refine callSt (WriteBad_calls S6.is 0 (some a) 128 c 19 (.inr (.inr ⟨by decide, rfl, rfl, rfl⟩))) S6 ?_
  rintro e w7 rfl S7
  clear S6
  go_wp2_with fail
  refine (Power_calls S7.is).mono ?_
  rintro e w8 ⟨rfl, o8, i8⟩
  have S8 := S7.turn (o8.mono (by simp)) i8
  clear S7 o8 i8
  go_wp2_with fail
  refine (ReadOk_calls S8.is 1 (by decide) (by decide) rfl).mono ?_
  rintro e w9 ⟨x, rfl, hx, hxr, hb9⟩
  have S9 := S8.call hb9
  rw [show rowB ({ bD with off := false, armed := false } : D).all 1 = torn 2 (ups 1 128) from b_row] at hxr
  obtain ⟨t0, t1, t2, t3⟩ := torn_cells
  generalize bys (torn 2 (ups 1 128)) = X at *
  have x0 : w9.cell? ⟨x, 0, none⟩ = some (.int .u8 1) := by rw [cell_of_row w9 x 0 _ _ _ hxr]; simpa using t0
  have x1 : w9.cell? ⟨x, 1, none⟩ = some (.int .u8 2) := by rw [cell_of_row w9 x 1 _ _ _ hxr]; simpa using t1
  have x2 : w9.cell? ⟨x, 2, none⟩ = some (.int .u8 255) := by rw [cell_of_row w9 x 2 _ _ _ hxr]; simpa using t2
  have x3 : w9.cell? ⟨x, 127, none⟩ = some (.int .u8 255) := by rw [cell_of_row w9 x 127 _ _ _ hxr]; simpa using t3
  clear S8 hb9 hxr hx t0 t1 t2 t3
  go_wp2_with fail
  refine callSt (Writes_calls S9.is) S9 ?_
  rintro e w10 rfl S10
  clear S9 x0 x1 x2 x3
  go_wp2_with fail
  refine callSt (nilWrite_calls 0 (some a) 128 c _) S10 ?_
  rintro e w11 rfl S11
  clear S10
  go_wp2_with fail
  refine callSt (WriteBad_calls S11.is 2 (some a) 128 c 8 (.inl ⟨by decide, rfl⟩)) S11 ?_
  rintro e w12 rfl S12
  clear S11
  go_wp2_with fail
  refine callSt (WriteBad_calls S12.is 0 (some a) 9 c 1 (.inr (.inl ⟨by decide, by decide, rfl⟩))) S12 ?_
  rintro e w13 rfl S13
  clear S12
  go_wp2_with fail
  refine callSt (Len_calls S13.is) S13 ?_
  rintro e w14 rfl S14
  clear S13
  go_wp2_with fail
  go_ret
  exact ⟨rfl, S14.below⟩
end Go.Proofs.Ytinommcocgnmlaa.Dk
