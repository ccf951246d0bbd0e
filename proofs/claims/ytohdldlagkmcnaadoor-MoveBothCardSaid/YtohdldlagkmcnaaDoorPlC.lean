/- Layer 12: policy.down, Owned, Caps; the reference's Seen, ActsFor, Caps. -/
import Derived.Test.YtohdldlagkmcnaaDoorPlB
import Derived.Test.YtohdldlagkmcnaaDoorRel
import Derived.Test.YtohdldlagkmcnaaDoorOn2
import Derived.Test.YtohdldlagkmcnaaDoorGrR
namespace Go.Proofs.YtohdldlagkmcnaaDoor.Pl
set_option linter.unusedSimpArgs false
set_option linter.unusedVariables false
open Go.RowKit Go.Shelf
open _root_.Go.Proofs.YtohdldlagkmcnaaDoor.Own
open _root_.Go.Proofs.YtohdldlagkmcnaaDoor.Rel
attribute [local go_sem] b16_and b16_or
/-- For which roles one acts under a label. -/
def downF (P : Pol) (r : Int) (S I : BitVec 16) : BitVec 16 := dn P.acts (seenF P S I) (bitI r)
theorem polC_part (P : Pol) : ∀ i, i < 16 → (polC P)[33 + i]? = (gC P.acts)[i]? := fun i hi => by rw [polC_acts P i hi, gC_at _ i hi]
theorem info16 : (Tryd.prog.info? 26).map (·.size) = some 16 := by kernel_rfl
set_option maxRecDepth 10000 in
set_option maxHeartbeats 2000000 in
theorem down_calls (P : Pol) (r : Int) (S I : BitVec 16) (w : World) (hT : Table w) (hw1 : 1 ≤ w.heap.size) :
    Calls Tryd.prog 33 #[.agg ⟨polC P⟩, .int .i64 r, .agg #[.int .u16 (nH S), .int .u16 (nH I)]] w fun e w' => e = .returned (.int .u16 (nH (downF P r S I))) ∧ Below w.heap.size w w' := by
  have hA := ((At.refl w).alloc (polC P) 29).alloc [.int .u16 (nH S), .int .u16 (nH I)] 24
  simp only [World.size_alloc] at hA
  have HA := Lib.hid hA
  have HT := Lib.hid (And.intro hT hw1)
  clear hA hT hw1
  go_enter Tryd.func33, Tryd.ntmps33
  go_wp2_with fail
  obtain ⟨W0, hW0⟩ : ∃ W0, (w.alloc (.cells ⟨polC P⟩ 29)).alloc (.cells ⟨[.int .u16 (nH S), .int .u16 (nH I)]⟩ 24) = W0 := ⟨_, rfl⟩
  rw [hW0] at HA
  first | rw [hW0] | (change _ at hW0; rw [show (w.alloc (.cells ⟨polC P⟩ 29)).alloc (.cells #[.int .u16 (nH S), .int .u16 (nH I)] 24) = W0 from hW0])
  clear hW0
  obtain ⟨J, hJ⟩ : ∃ J : World → Prop, ∀ V, J V ↔ At w [(w.heap.size + 1, [.int .u16 (nH S), .int .u16 (nH I)], 24), (w.heap.size, polC P, 29)] V := ⟨_, fun _ => Iff.rfl⟩
  have HJ := Lib.hid hJ
  have K := fun V (h : J V) => show V.cell? ⟨w.heap.size + 1, 0, none⟩ = some (.int .u16 (nH S)) ∧ V.cell? ⟨w.heap.size + 1, 1, none⟩ = some (.int .u16 (nH I)) from ⟨(((hJ V).1 h).rules _ (List.mem_cons_self ..)).1 0, (((hJ V).1 h).rules _ (List.mem_cons_self ..)).1 1⟩
  have hj := (hJ _).2 HA.out.drew
  clear hJ
  refine Turn.region_seq [0, 1, 2, 5, 6, 3, 4, 7, 8, 9] (fun i => i == 3 || i == 4 || i == 7 || i == 8) J (by kernel_rfl) (by kernel_rfl) hj ?_
  apply Turn.seq_yes; (· simp only [List.getElem?_toArray, List.getElem?_cons_succ, List.getElem?_cons_zero]; rfl); (· rfl); (· go_simp); (· intro w1 h1; have K1 := K w1 h1; go_simp; exact ⟨rfl, h1⟩); (· go_simp; rfl)
  apply Turn.seq_yes; (· simp only [List.getElem?_toArray, List.getElem?_cons_succ, List.getElem?_cons_zero]; rfl); (· rfl); (· go_simp); (· intro w1 h1; rw [run_load_part 26 _ rfl w.heap.size 33 rfl (gC P.acts) (run_loadVar_part w1 w.heap.size 33 16 29 26 (polC P) (gC P.acts) (0, 0) _ (((HJ.out w1).1 h1).row 1 rfl) Tryd.underlying26 rfl info16 (gC_length _) (polC_part P))]; exact ⟨rfl, rfl, h1⟩); (· go_simp; rfl)
  apply Turn.seq_yes; (· simp only [List.getElem?_toArray, List.getElem?_cons_succ, List.getElem?_cons_zero]; rfl); (· rfl); (· go_simp); (· intro w1 h1; have K1 := K w1 h1; go_simp; exact ⟨rfl, h1⟩); (· go_simp; rfl)
  apply Turn.seq_yes; (· simp only [List.getElem?_toArray, List.getElem?_cons_succ, List.getElem?_cons_zero]; rfl); (· rfl); (· go_simp); (· intro w1 h1; rw [run_load_row 29 _ rfl w.heap.size rfl 29 ⟨polC P⟩ (0, 0) _ (((HJ.out w1).1 h1).row 1 rfl) Tryd.underlying29 rfl polC_size]; exact ⟨rfl, rfl, h1⟩); (· go_simp; rfl)
  apply Turn.seq_yes; (· simp only [List.getElem?_toArray, List.getElem?_cons_succ, List.getElem?_cons_zero]; rfl); (· rfl); (· go_simp); (· intro w1 h1; have K1 := K w1 h1; go_simp; exact ⟨rfl, h1⟩); (· go_simp; rfl)
  apply Turn.seq_call; (· simp only [List.getElem?_toArray, List.getElem?_cons_succ, List.getElem?_cons_zero]; rfl); (· rfl); (· go_simp); (· intro v; go_simp; rfl)
  go_simp
  have hA1 := (HA.out.other (.cells #[.int .i64 r] 3)).drew
  have hc1 := cell_of_row (W0.alloc (.cells #[.int .i64 r] 3)).drew W0.heap.size 0 _ _ _ (heap_alloc_new W0 (.cells #[.int .i64 r] 3))
  obtain ⟨W1, hW1⟩ : ∃ W1, (W0.alloc (.cells #[.int .i64 r] 3)).drew = W1 := ⟨_, rfl⟩
  rw [hW1] at hA1 hc1 ⊢
  have HA1 := Lib.hid hA1
  have HC1 := Lib.hid hc1
  have hj1 := (HJ.out _).2 hA1
  clear hW1 hA1 hc1 hj K
  refine ⟨hj1, ?_⟩
  apply Turn.seq_call; (· simp only [List.getElem?_toArray, List.getElem?_cons_succ, List.getElem?_cons_zero]; rfl); (· rfl); (· go_simp); (· intro v; go_simp; rfl)
  go_simp
  refine (Of_calls _ r W1 HC1.out).mono ?_
  rintro e w2 ⟨rfl, rfl⟩
  refine ⟨_, rfl, hj1, ?_⟩
  apply Turn.seq_call; (· simp only [List.getElem?_toArray, List.getElem?_cons_succ, List.getElem?_cons_zero]; rfl); (· rfl); (· go_simp); (· intro v; go_simp; rfl)
  go_simp
  refine (Seen_calls P S I W1 (HT.out.1.below (HA1.out.below.mono HT.out.2)) (Nat.le_trans HT.out.2 HA1.out.below.size)).mono ?_
  rintro e w2 ⟨rfl, hb2⟩
  have HA2 := Lib.hid (HA1.out.call hb2)
  have hj2 := (HJ.out _).2 (HA1.out.call hb2)
  clear hb2 hj1
  refine ⟨_, rfl, hj2, ?_⟩
  apply Turn.seq_call; (· simp only [List.getElem?_toArray, List.getElem?_cons_succ, List.getElem?_cons_zero]; rfl); (· rfl); (· go_simp); (· intro v; go_simp; rfl)
  go_simp
  refine (Down_calls P.acts (bitI r) (seenF P S I) w2 (HT.out.1.below (HA2.out.below.mono HT.out.2)) (Nat.le_trans HT.out.2 HA2.out.below.size)).mono ?_
  rintro e w3 ⟨rfl, hb3⟩
  have HA3 := Lib.hid (HA2.out.call hb3)
  have hj3 := (HJ.out _).2 (HA2.out.call hb3)
  clear hb3 hj2
  refine ⟨_, rfl, hj3, ?_⟩
  apply Turn.seq_yes; (· simp only [List.getElem?_toArray, List.getElem?_cons_succ, List.getElem?_cons_zero]; rfl); (· rfl); (· go_simp); (· intro w1 h1; go_simp; exact ⟨rfl, h1⟩); (· go_simp; rfl)
  apply Turn.seq_nil
  clear hj3 HJ
  go_wp2_with fail
  go_ret
  exact ⟨rfl, HA3.out.below⟩
/-- Owners as cells. -/
def oC (f : Nat → UInt8) : List Value := (List.range 16).map fun i => .int .u8 (nB (f i))
theorem oC_length (f : Nat → UInt8) : (oC f).length = 16 := by simp [oC]
theorem oC_at (f : Nat → UInt8) (i : Nat) (hi : i < 16) : (oC f)[i]? = some (.int .u8 (nB (f i))) := by simp [oC, hi]
theorem polC_owners (P : Pol) : ∀ i, i < 16 → (polC P)[49 + i]? = (oC P.own)[i]? := fun i hi => by rw [polC_own P i hi, oC_at _ i hi]
theorem info8 : (Tryd.prog.info? 27).map (·.size) = some 16 := by kernel_rfl
theorem oElem_at (f : Nat → UInt8) (m : Nat) (hm : m < 16) (w : World) : (Instr.index 27 (.agg ⟨oC f⟩) (.int .i64 m)).run Tryd.prog w = .ok (.int .u8 (nB (f m))) w :=
  run_index_arr w 27 5 16 _ _ _ _ Tryd.underlying27 _ Tryd.underlying5 rfl (by kernel_rfl) (by omega) (by omega) (by simpa using oC_at f m hm)
theorem wrap_nB (x : UInt8) : IntKind.i64.wrap (nB x) = nB x ∧ wrap64 (nB x) = nB x := by
  have h1 := u8_lo x
  have h2 := u8_hi x
  exact ⟨by rw [IntKind.wrap_i64]; omega, by unfold wrap64; omega⟩
/-- The tags of some roles. -/
def ownB (P : Pol) (R : BitVec 16) (t : Nat) : Bool := has R (P.own t).toNat
def ownF (P : Pol) (R : BitVec 16) : BitVec 16 := mk16 (ownB P R) 16
set_option maxRecDepth 10000 in
set_option maxHeartbeats 2000000 in
theorem Owned_calls (P : Pol) (R : BitVec 16) (w : World) :
    Calls Tryd.prog 32 #[.agg ⟨polC P⟩, .int .u16 (nH R)] w fun e w' => e = .returned (.int .u16 (nH (ownF P R))) ∧ Below w.heap.size w w' := by
  have hb := (Below.refl w.heap.size w).alloc (Nat.le_refl _) (.cells ⟨polC P⟩ 29)
  have hr := heap_alloc_new w (.cells ⟨polC P⟩ 29)
  have HB := Lib.hid hb
  have HR := Lib.hid hr
  have HZ := Lib.hid (show (0 : Int) = nH (mk16 (ownB P R) 0) from rfl)
  clear hb hr
  go_enter Tryd.func32, Tryd.ntmps32
  go_wp2_with (refine wpList_load_part rfl 27 _ rfl w.heap.size 49 rfl 29 (polC P) (oC P.own) 16 (0, 0) _ HR.out Tryd.underlying27 rfl info8 (oC_length _) (polC_owners P) ?_)
  obtain ⟨W, hW⟩ : ∃ W, w.alloc (.cells ⟨polC P⟩ 29) = W := ⟨_, rfl⟩
  rw [hW] at HB ⊢
  clear hW HR
  go_loop [5, 10] (fun o i => ∃ k : Nat, k ≤ 16 ∧ o = .int .u16 (nH (mk16 (ownB P R) k)) ∧ i = .int .i64 k) (fun _ i => 16 - (intOf i).toNat)
  case atStart => exact ⟨0, Nat.zero_le _, by rw [HZ.out], rfl⟩
  case round =>
    obtain ⟨k, hk, rfl, rfl⟩ := hrel
    by_cases hlt : k < 16
    · have d1 : decide ((k : Int) < 16) = true := by rw [decide_eq_true_eq]; omega
      have d2 : decide (k < 16) = true := decide_eq_true hlt
      have hix := oElem_at P.own k hlt
      obtain ⟨w1, w2⟩ := wrap_nB (P.own k)
      have hH := THasAny_calls R (P.own k).toNat
      have f1 : IntKind.i64.wrap ((k : Int) + 1) = ((k + 1 : Nat) : Int) := by rw [IntKind.wrap_i64]; omega
      cases hb : has R (P.own k).toNat with
      | false =>
        rw [hb] at hH
        have HH := Lib.hid hH
        have E := Lib.hid (mk16_no (f := ownB P R) (k := k) hb)
        clear hH hb
        go_wp2_with (go_at_call 37; refine (HH.out _).mono ?_; rintro e w' ⟨rfl, rfl⟩)
        go_round
        case rel => exact ⟨k + 1, by omega, by rw [E.out], by go_num⟩
        case measure => simp [intOf]; omega
      | true =>
        rw [hb] at hH
        have HH := Lib.hid hH
        have E := Lib.hid (mk16_yes (f := ownB P R) (k := k) hb)
        have hs := nH_shl k hlt
        have hor := b16_or (mk16 (ownB P R) k) (bit k)
        clear hH hb
        go_wp2_with (go_at_call 37; refine (HH.out _).mono ?_; rintro e w' ⟨rfl, rfl⟩)
        go_round
        case rel => exact ⟨k + 1, by omega, by rw [E.out], by go_num⟩
        case measure => simp [intOf]; omega
    · obtain rfl : k = 16 := by omega
      go_wp2_with fail
      go_ret
      exact ⟨rfl, HB.out⟩
/-- A role's capabilities under a label. -/
def capsF (P : Pol) (r : Int) (S I : BitVec 16) : BitVec 16 := ownF P (downF P r S I) &&& P.act
set_option maxRecDepth 10000 in
set_option maxHeartbeats 2000000 in
theorem Caps_calls (P : Pol) (r : Int) (S I : BitVec 16) (w : World) (hT : Table w) (hw1 : 1 ≤ w.heap.size) :
    Calls Tryd.prog 15 #[.agg ⟨polC P⟩, .int .i64 r, .agg #[.int .u16 (nH S), .int .u16 (nH I)]] w fun e w' => e = .returned (.int .u16 (nH (capsF P r S I))) ∧ Below w.heap.size w w' := by
  have hA := ((At.refl w).alloc (polC P) 29).alloc [.int .u16 (nH S), .int .u16 (nH I)] 24
  simp only [World.size_alloc] at hA
  have HA := Lib.hid hA
  have HT := Lib.hid (And.intro hT hw1)
  have hand := b16_and (ownF P (downF P r S I)) P.act
  clear hA hT hw1
  go_enter Tryd.func15, Tryd.ntmps15
  go_wp2_with fail
  obtain ⟨W0, hW0⟩ : ∃ W0, (w.alloc (.cells ⟨polC P⟩ 29)).alloc (.cells ⟨[.int .u16 (nH S), .int .u16 (nH I)]⟩ 24) = W0 := ⟨_, rfl⟩
  rw [hW0] at HA
  first | rw [hW0] | (change _ at hW0; rw [show (w.alloc (.cells ⟨polC P⟩ 29)).alloc (.cells #[.int .u16 (nH S), .int .u16 (nH I)] 24) = W0 from hW0])
  clear hW0
  obtain ⟨J, hJ⟩ : ∃ J : World → Prop, ∀ V, J V ↔ At w [(w.heap.size + 1, [.int .u16 (nH S), .int .u16 (nH I)], 24), (w.heap.size, polC P, 29)] V := ⟨_, fun _ => Iff.rfl⟩
  have HJ := Lib.hid hJ
  have hact : (⟨polC P⟩ : Array Value)[65]? = some (.int .u16 (nH P.act)) := by simpa using polC_act P
  have K := fun V (h : J V) => show V.cell? ⟨w.heap.size + 1, 0, none⟩ = some (.int .u16 (nH S)) ∧ V.cell? ⟨w.heap.size + 1, 1, none⟩ = some (.int .u16 (nH I)) ∧ V.cell? ⟨w.heap.size, 65, none⟩ = some (.int .u16 (nH P.act)) from ⟨(((hJ V).1 h).rules _ (List.mem_cons_self ..)).1 0, (((hJ V).1 h).rules _ (List.mem_cons_self ..)).1 1, (cell_of_row V w.heap.size 65 _ _ _ (((hJ V).1 h).row 1 rfl)).trans hact⟩
  have hj := (hJ _).2 HA.out.drew
  clear hJ hact
  refine region_inv J (by kernel_rfl) (by kernel_rfl) hj ?_
  iterate 2 (apply inv_load_row ?_ 29 _ rfl w.heap.size rfl 29 ⟨polC P⟩ (0, 0) _ (fun w1 h1 => ((HJ.out w1).1 h1).row 1 rfl) Tryd.underlying29 rfl polC_size; (· go_simp; rfl); rotate_left; (· go_simp))
  iterate 2 (apply inv_yes; (· go_simp); (· intro w1 h1; have K1 := K w1 h1; go_simp; exact ⟨rfl, h1⟩); (· go_simp; rfl))
  apply inv_yes
  · go_simp
  · intro w1 h1; go_simp; exact callI (fun w' => (HJ.out w').1) (fun w' => (HJ.out w').2) (down_calls P r S I w1 (HT.out.1.below (((HJ.out w1).1 h1).below.mono HT.out.2)) (Nat.le_trans HT.out.2 ((HJ.out w1).1 h1).below.size)) h1
  · go_simp; rfl
  apply inv_yes
  · go_simp
  · intro w1 h1; go_simp; exact callI (fun w' => (HJ.out w').1) (fun w' => (HJ.out w').2) (Owned_calls P (downF P r S I) w1) h1
  · go_simp; rfl
  repeat (apply inv_yes; (· go_simp); (· intro w1 h1; have K1 := K w1 h1; go_simp; exact ⟨rfl, h1⟩); (· go_simp; rfl))
  refine wpInv_nil (fun w5 h5 => ?_)
  have H5 := Lib.hid ((HJ.out _).1 h5)
  clear K h5 hj HJ
  go_wp2_with fail
  go_ret
  exact ⟨rfl, H5.out.below⟩
end Go.Proofs.YtohdldlagkmcnaaDoor.Pl
