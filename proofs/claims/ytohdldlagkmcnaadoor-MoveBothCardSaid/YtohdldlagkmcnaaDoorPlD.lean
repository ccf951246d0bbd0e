/- Layer 12: the reference's Seen, ActsFor, Caps. -/
import Derived.Test.YtohdldlagkmcnaaDoorPlC
namespace Go.Proofs.YtohdldlagkmcnaaDoor.Pl
set_option linter.unusedSimpArgs false
set_option linter.unusedVariables false
open Go.RowKit Go.Shelf
open _root_.Go.Proofs.YtohdldlagkmcnaaDoor.Own
attribute [local go_sem] b16_and b16_or
theorem lab_cells {w0 V : World} {b : Nat} {P : Pol} (h : V.heap[b]? = some (.cells ⟨polC P⟩ 29 (0, 0))) (k : Nat) (hk : k < 16) : V.cell? ⟨b, 1 + k * 2, none⟩ = some (.int .u16 (nH (P.lab (2 * k)))) ∧ V.cell? ⟨b, 1 + k * 2 + 1, none⟩ = some (.int .u16 (nH (P.lab (2 * k + 1)))) := by
  obtain ⟨q1, q2⟩ := polC_lab2 P k hk
  exact ⟨(cell_of_row V b _ _ _ _ h).trans (by simpa using q1), (cell_of_row V b _ _ _ _ h).trans (by simpa using q2)⟩
theorem pol_cells {V : World} {b : Nat} {P : Pol} (h : V.heap[b]? = some (.cells ⟨polC P⟩ 29 (0, 0))) : V.cell? ⟨b, 0, none⟩ = some (.int .u16 (nH P.live)) ∧ V.cell? ⟨b, 65, none⟩ = some (.int .u16 (nH P.act)) ∧ (∀ k, k < 16 → V.cell? ⟨b, 33 + k, none⟩ = some (.int .u16 (nH (P.acts k)))) ∧ (∀ k, k < 16 → V.cell? ⟨b, 49 + k, none⟩ = some (.int .u8 (nB (P.own k)))) :=
  ⟨(cell_of_row V b _ _ _ _ h).trans (by simpa using polC_live P), (cell_of_row V b _ _ _ _ h).trans (by simpa using polC_act P), fun k hk => (cell_of_row V b _ _ _ _ h).trans (by simpa using polC_acts P k hk), fun k hk => (cell_of_row V b _ _ _ _ h).trans (by simpa using polC_own P k hk)⟩
set_option maxRecDepth 10000 in
set_option maxHeartbeats 4000000 in
theorem RSeen_calls (P : Pol) (S I : BitVec 16) (w : World) :
    Calls Tryd.prog 42 #[.agg ⟨polC P⟩, .agg #[.int .u16 (nH S), .int .u16 (nH I)]] w fun e w' => e = .returned (.int .u16 (nH (seenF P S I))) ∧ Below w.heap.size w w' := by
  have hA := ((At.refl w).alloc (polC P) 29).alloc [.int .u16 (nH S), .int .u16 (nH I)] 24
  simp only [World.size_alloc] at hA
  have HA := Lib.hid hA
  have HZ := Lib.hid (show (0 : Int) = nH (mk16 (seenB P S I) 0) from rfl)
  clear hA
  go_enter Tryd.func42, Tryd.ntmps42
  go_wp2_with fail
  obtain ⟨W0, hW0⟩ : ∃ W0, (w.alloc (.cells ⟨polC P⟩ 29)).alloc (.cells ⟨[.int .u16 (nH S), .int .u16 (nH I)]⟩ 24) = W0 := ⟨_, rfl⟩
  rw [hW0] at HA
  first | rw [hW0] | (rw [show (w.alloc (.cells ⟨polC P⟩ 29)).alloc (.cells #[.int .u16 (nH S), .int .u16 (nH I)] 24) = W0 from hW0])
  clear hW0
  go_loopw [5, 6] (fun o i wr => ∃ k : Nat, k ≤ 16 ∧ o = .int .u16 (nH (mk16 (seenB P S I) k)) ∧ i = .int .i64 k ∧ Hid (At w [(w.heap.size + 1, [.int .u16 (nH S), .int .u16 (nH I)], 24), (w.heap.size, polC P, 29)] wr)) (fun _ i _ => 16 - (intOf i).toNat)
  case atStart => exact ⟨0, Nat.zero_le _, by rw [HZ.out], rfl, HA⟩
  case round =>
    clear HA
    obtain ⟨k, hk, rfl, rfl, H⟩ := hrel
    by_cases hlt : k < 16
    · have d1 : decide ((k : Int) < 16) = true := by rw [decide_eq_true_eq]; omega
      have d2 : decide (k < 16) = true := decide_eq_true hlt
      have hki : (k : Int) < 16 := by omega
      have f1 : IntKind.i64.wrap ((k : Int) + 1) = ((k + 1 : Nat) : Int) := by rw [IntKind.wrap_i64]; omega
      obtain ⟨J, hJ⟩ : ∃ J : World → Prop, ∀ V, J V ↔ At w [(w.heap.size + 1, [.int .u16 (nH S), .int .u16 (nH I)], 24), (w.heap.size, polC P, 29)] V := ⟨_, fun _ => Iff.rfl⟩
      have HJ := Lib.hid hJ
      have K := fun V (h : J V) => And.intro (((HJ.out V).1 h).rules _ (List.mem_cons_self ..)).1 (And.intro (pol_cells (((HJ.out V).1 h).row 1 rfl)).1 (lab_cells (w0 := w) (((HJ.out V).1 h).row 1 rfl) k hlt))
      have K' := fun V (h : J V) => show V.cell? ⟨w.heap.size + 1, 0, none⟩ = some (.int .u16 (nH S)) ∧ V.cell? ⟨w.heap.size + 1, 1, none⟩ = some (.int .u16 (nH I)) ∧ V.cell? ⟨w.heap.size, 0, none⟩ = some (.int .u16 (nH P.live)) ∧ V.cell? ⟨w.heap.size, 1 + k * 2, none⟩ = some (.int .u16 (nH (P.lab (2 * k)))) ∧ V.cell? ⟨w.heap.size, 1 + k * 2 + 1, none⟩ = some (.int .u16 (nH (P.lab (2 * k + 1)))) from ⟨(K V h).1 0, (K V h).1 1, (K V h).2⟩
      have hj := (hJ _).2 H.out.drew
      have hHas := fun V => Has_calls P.live k hlt V
      have hFl := fun V => RFlows_calls (P.lab (2 * k)) (P.lab (2 * k + 1)) S I V
      clear hJ K
      obtain ⟨b, hb⟩ : ∃ b, has P.live k = b := ⟨_, rfl⟩
      obtain ⟨c, hc⟩ : ∃ c, flowsB (P.lab (2 * k)) (P.lab (2 * k + 1)) S I = c := ⟨_, rfl⟩
      rw [hb] at hHas
      rw [hc] at hFl
      have hsb : seenB P S I k = (b && c) := by unfold seenB; rw [hb, hc]
      have HSB := Lib.hid hsb
      clear hb hc hsb
      cases b with
      | false =>
        go_wp2_with fail
        refine region_inv J (by kernel_rfl) (by kernel_rfl) hj ?_
        iterate 3 (apply inv_yes; (· go_simp); (· intro w1 h1; have K1 := K' w1 h1; go_simp; exact ⟨rfl, h1⟩); (· go_simp; rfl))
        apply inv_yes
        · go_simp
        · intro w1 h1; go_simp; exact callI_same (hHas _) h1
        · go_simp; rfl
        repeat (first | (apply inv_yes; (· go_simp); (· intro w1 h1; have K1 := K' w1 h1; go_simp; exact ⟨rfl, h1⟩); (· go_simp; rfl)) | (apply inv_no; (· go_simp); (· go_simp; rfl)))
        refine wpInv_nil (fun w5 h5 => ?_)
        have H5 := Lib.hid ((HJ.out _).1 h5)
        have E := Lib.hid (mk16_no (f := seenB P S I) (k := k) (by rw [HSB.out]; rfl))
        clear K' h5 hj HJ H
        go_wp2_with fail
        go_roundw
        case rel => exact ⟨k + 1, by omega, by rw [E.out], by go_num, H5⟩
        case measure => simp [intOf]; omega
      | true =>
        go_wp2_with fail
        refine region_inv J (by kernel_rfl) (by kernel_rfl) hj ?_
        iterate 3 (apply inv_yes; (· go_simp); (· intro w1 h1; have K1 := K' w1 h1; go_simp; exact ⟨rfl, h1⟩); (· go_simp; rfl))
        apply inv_yes
        · go_simp
        · intro w1 h1; go_simp; exact callI_same (hHas _) h1
        · go_simp; rfl
        iterate 6 (apply inv_yes; (· go_simp); (· intro w1 h1; have K1 := K' w1 h1; go_simp; exact ⟨rfl, h1⟩); (· go_simp; rfl))
        apply inv_yes
        · go_simp
        · intro w1 h1; go_simp; exact callI (fun w' => (HJ.out w').1) (fun w' => (HJ.out w').2) (hFl _) h1
        · go_simp; rfl
        repeat (first | (apply inv_yes; (· go_simp); (· intro w1 h1; have K1 := K' w1 h1; go_simp; exact ⟨rfl, h1⟩); (· go_simp; rfl)) | (apply inv_no; (· go_simp); (· go_simp; rfl)))
        refine wpInv_nil (fun w5 h5 => ?_)
        have H5 := Lib.hid ((HJ.out _).1 h5)
        have hW := With_calls (mk16 (seenB P S I) k) k hlt
        have HW := Lib.hid hW
        clear K' h5 hj HJ H hW
        cases c with
        | false =>
          have E := Lib.hid (mk16_no (f := seenB P S I) (k := k) (by rw [HSB.out]; rfl))
          go_wp2_with fail
          go_roundw
          case rel => exact ⟨k + 1, by omega, by rw [E.out], by go_num, H5⟩
          case measure => simp [intOf]; omega
        | true =>
          have E := Lib.hid (mk16_yes (f := seenB P S I) (k := k) (by rw [HSB.out]; rfl))
          go_wp2_with fail
          refine (HW.out _).mono ?_
          rintro e w' ⟨rfl, rfl⟩
          go_wp2_with fail
          go_roundw
          case rel => exact ⟨k + 1, by omega, by rw [E.out], by go_num, H5⟩
          case measure => simp [intOf]; omega
    · obtain rfl : k = 16 := by omega
      go_wp2_with fail
      go_ret
      exact ⟨rfl, H.out.below⟩
theorem dn_zero (g : Nat → BitVec 16) (W : BitVec 16) (i : Nat) : has (dn g W 0#16) i = false := by
  cases h : has (dn g W 0#16) i with
  | false => rfl
  | true =>
    obtain ⟨q, hq, -⟩ := (dn_iff (g := g) (W := W) 0#16 i).1 h
    rw [has_zero] at hq; cases hq
set_option maxRecDepth 10000 in
set_option maxHeartbeats 4000000 in
theorem ActsFor_calls (P : Pol) (r : Int) (t : Nat) (S I : BitVec 16) (w : World) :
    Calls Tryd.prog 36 #[.agg ⟨polC P⟩, .int .i64 r, .int .i64 t, .agg #[.int .u16 (nH S), .int .u16 (nH I)]] w fun e w' => e = .returned (.bool (has (downF P r S I) t)) ∧ Below w.heap.size w w' := by
  have hA := ((At.refl w).alloc (polC P) 29).alloc [.int .u16 (nH S), .int .u16 (nH I)] 24
  simp only [World.size_alloc] at hA
  have HA := Lib.hid hA
  clear hA
  by_cases hr : 0 ≤ r ∧ r < 16
  · obtain ⟨n, rfl⟩ : ∃ n : Nat, r = n := ⟨r.toNat, by omega⟩
    have hn : n < 16 := by omega
    have e0 : bitI (n : Int) = bit n := by unfold bitI; rw [if_pos (by omega)]; rfl
    have d1 : decide ((n : Int) < 0) = false := by rw [decide_eq_false_iff_not]; omega
    have d2 : decide ((n : Int) > 15) = false := by rw [decide_eq_false_iff_not]; omega
    have d3 : decide (15 < n) = false := by rw [decide_eq_false_iff_not]; omega
    have hWi := fun V => With_calls 0#16 n hn V
    rw [BitVec.zero_or] at hWi
    have hDn := fun V => RDown_calls P.acts (bit n) (seenF P S I) V
    have hH := fun V => RHasAny_calls (dn P.acts (seenF P S I) (bit n)) t V
    have HE := Lib.hid (show has (downF P (n : Int) S I) t = has (dn P.acts (seenF P S I) (bit n)) t by unfold downF; rw [e0])
    have HWi := Lib.hid hWi
    have HDn := Lib.hid hDn
    have HH := Lib.hid hH
    clear hr e0 hWi hDn hH
    go_enter Tryd.func36, Tryd.ntmps36
    go_wp2_with fail
    obtain ⟨W0, hW0⟩ : ∃ W0, (w.alloc (.cells ⟨polC P⟩ 29)).alloc (.cells ⟨[.int .u16 (nH S), .int .u16 (nH I)]⟩ 24) = W0 := ⟨_, rfl⟩
    rw [hW0] at HA
    first | rw [hW0] | (rw [show (w.alloc (.cells ⟨polC P⟩ 29)).alloc (.cells #[.int .u16 (nH S), .int .u16 (nH I)] 24) = W0 from hW0])
    clear hW0
    obtain ⟨J, hJ⟩ : ∃ J : World → Prop, ∀ V, J V ↔ At w [(w.heap.size + 1, [.int .u16 (nH S), .int .u16 (nH I)], 24), (w.heap.size, polC P, 29)] V := ⟨_, fun _ => Iff.rfl⟩
    have HJ := Lib.hid hJ
    have K := fun V (h : J V) => show V.cell? ⟨w.heap.size + 1, 0, none⟩ = some (.int .u16 (nH S)) ∧ V.cell? ⟨w.heap.size + 1, 1, none⟩ = some (.int .u16 (nH I)) from ⟨(((hJ V).1 h).rules _ (List.mem_cons_self ..)).1 0, (((hJ V).1 h).rules _ (List.mem_cons_self ..)).1 1⟩
    have hj := (hJ _).2 HA.out.drew
    clear hJ
    refine region_inv J (by kernel_rfl) (by kernel_rfl) hj ?_
    apply inv_yes; (· go_simp); (· intro w1 h1; have K1 := K w1 h1; go_simp; exact ⟨rfl, h1⟩); (· go_simp; rfl)
    apply inv_yes; (· go_simp); (· intro w1 h1; rw [run_load_part 26 _ rfl w.heap.size 33 rfl (gC P.acts) (run_loadVar_part w1 w.heap.size 33 16 29 26 (polC P) (gC P.acts) (0, 0) _ (((HJ.out w1).1 h1).row 1 rfl) Tryd.underlying26 rfl info16 (gC_length _) (polC_part P))]; exact ⟨rfl, h1⟩); (· go_simp; rfl)
    apply inv_yes; (· go_simp); (· intro w1 h1; have K1 := K w1 h1; go_simp; exact ⟨rfl, h1⟩); (· go_simp; rfl)
    apply inv_yes
    · go_simp
    · intro w1 h1; go_simp; exact callI_same (HWi.out _) h1
    · go_simp; rfl
    apply inv_load_row ?_ 29 _ rfl w.heap.size rfl 29 ⟨polC P⟩ (0, 0) _ (fun w1 h1 => ((HJ.out w1).1 h1).row 1 rfl) Tryd.underlying29 rfl polC_size; (· go_simp; rfl); rotate_left; (· go_simp)
    apply inv_yes; (· go_simp); (· intro w1 h1; have K1 := K w1 h1; go_simp; exact ⟨rfl, h1⟩); (· go_simp; rfl)
    apply inv_yes
    · go_simp
    · intro w1 h1; go_simp; exact callI (fun w' => (HJ.out w').1) (fun w' => (HJ.out w').2) (RSeen_calls P S I w1) h1
    · go_simp; rfl
    apply inv_yes
    · go_simp
    · intro w1 h1; go_simp; exact callI (fun w' => (HJ.out w').1) (fun w' => (HJ.out w').2) (HDn.out w1) h1
    · go_simp; rfl
    apply inv_yes; (· go_simp); (· intro w1 h1; have K1 := K w1 h1; go_simp; exact ⟨rfl, h1⟩); (· go_simp; rfl)
    apply inv_yes
    · go_simp
    · intro w1 h1; go_simp; exact callI_same (HH.out _) h1
    · go_simp; rfl
    apply inv_yes; (· go_simp); (· intro w1 h1; have K1 := K w1 h1; go_simp; exact ⟨rfl, h1⟩); (· go_simp; rfl)
    refine wpInv_nil (fun w5 h5 => ?_)
    have H5 := Lib.hid ((HJ.out _).1 h5)
    clear K h5 hj HJ
    go_wp2_with fail
    go_ret
    rw [HE.out]
    exact ⟨rfl, H5.out.below⟩
  · have HE := Lib.hid (show has (downF P r S I) t = false by unfold downF bitI; rw [if_neg hr]; exact dn_zero _ _ _)
    by_cases h0 : r < 0
    · have d1 : decide (r < 0) = true := decide_eq_true h0
      clear hr h0
      go_enter Tryd.func36, Tryd.ntmps36
      go_wp2_with fail
      go_ret
      rw [HE.out]
      exact ⟨rfl, HA.out.below⟩
    · have d1 : decide (r < 0) = false := decide_eq_false h0
      have d2 : decide (r > 15) = true := by rw [decide_eq_true_eq]; omega
      clear hr h0
      go_enter Tryd.func36, Tryd.ntmps36
      go_wp2_with fail
      go_ret
      rw [HE.out]
      exact ⟨rfl, HA.out.below⟩
def cB (P : Pol) (R : BitVec 16) (k : Nat) : Bool := has P.act k && has R (P.own k).toNat
theorem cB_caps (P : Pol) (r : Int) (S I : BitVec 16) : mk16 (cB P (downF P r S I)) 16 = capsF P r S I := has_ext fun i hi => by
  unfold capsF ownF
  rw [has_and, mk16_has _ 16 (Nat.le_refl _), mk16_has _ 16 (Nat.le_refl _)]
  unfold cB ownB
  simp only [hi, decide_true, Bool.true_and]
  rw [Bool.and_comm]
set_option maxRecDepth 10000 in
set_option maxHeartbeats 8000000 in
theorem RCaps_calls (P : Pol) (r : Int) (S I : BitVec 16) (w : World) :
    Calls Tryd.prog 25 #[.agg ⟨polC P⟩, .int .i64 r, .agg #[.int .u16 (nH S), .int .u16 (nH I)]] w fun e w' => e = .returned (.int .u16 (nH (capsF P r S I))) ∧ Below w.heap.size w w' := by
  have hA := ((At.refl w).alloc (polC P) 29).alloc [.int .u16 (nH S), .int .u16 (nH I)] 24
  simp only [World.size_alloc] at hA
  have HA := Lib.hid hA
  have HE := Lib.hid (cB_caps P r S I)
  obtain ⟨R, hR⟩ : ∃ R, downF P r S I = R := ⟨_, rfl⟩
  rw [hR] at HE
  have HR := Lib.hid hR
  have HZ := Lib.hid (show (0 : Int) = nH (mk16 (cB P R) 0) from rfl)
  clear hA hR
  go_enter Tryd.func25, Tryd.ntmps25
  go_wp2_with fail
  obtain ⟨W0, hW0⟩ : ∃ W0, (w.alloc (.cells ⟨polC P⟩ 29)).alloc (.cells ⟨[.int .u16 (nH S), .int .u16 (nH I)]⟩ 24) = W0 := ⟨_, rfl⟩
  rw [hW0] at HA
  first | rw [hW0] | (rw [show (w.alloc (.cells ⟨polC P⟩ 29)).alloc (.cells #[.int .u16 (nH S), .int .u16 (nH I)] 24) = W0 from hW0])
  clear hW0
  go_loopw [7, 8] (fun o i wr => ∃ k : Nat, k ≤ 16 ∧ o = .int .u16 (nH (mk16 (cB P R) k)) ∧ i = .int .i64 k ∧ Hid (At w [(w.heap.size + 1, [.int .u16 (nH S), .int .u16 (nH I)], 24), (w.heap.size, polC P, 29)] wr)) (fun _ i _ => 16 - (intOf i).toNat)
  case atStart => exact ⟨0, Nat.zero_le _, by rw [HZ.out], rfl, HA⟩
  case round =>
    clear HA
    obtain ⟨k, hk, rfl, rfl, H⟩ := hrel
    by_cases hlt : k < 16
    · have d1 : decide ((k : Int) < 16) = true := by rw [decide_eq_true_eq]; omega
      have d2 : decide (k < 16) = true := decide_eq_true hlt
      have hki : (k : Int) < 16 := by omega
      have f1 : IntKind.i64.wrap ((k : Int) + 1) = ((k + 1 : Nat) : Int) := by rw [IntKind.wrap_i64]; omega
      obtain ⟨w1', w2'⟩ := wrap_nB (P.own k)
      obtain ⟨J, hJ⟩ : ∃ J : World → Prop, ∀ V, J V ↔ At w [(w.heap.size + 1, [.int .u16 (nH S), .int .u16 (nH I)], 24), (w.heap.size, polC P, 29)] V := ⟨_, fun _ => Iff.rfl⟩
      have HJ := Lib.hid hJ
      have K := fun V (h : J V) => And.intro (((HJ.out V).1 h).rules _ (List.mem_cons_self ..)).1 (pol_cells (((HJ.out V).1 h).row 1 rfl))
      have K' := fun V (h : J V) => show V.cell? ⟨w.heap.size + 1, 0, none⟩ = some (.int .u16 (nH S)) ∧ V.cell? ⟨w.heap.size + 1, 1, none⟩ = some (.int .u16 (nH I)) ∧ V.cell? ⟨w.heap.size, 65, none⟩ = some (.int .u16 (nH P.act)) ∧ V.cell? ⟨w.heap.size, 49 + k, none⟩ = some (.int .u8 (nB (P.own k))) from ⟨(K V h).1 0, (K V h).1 1, (K V h).2.2.1, (K V h).2.2.2.2 k hlt⟩
      have hj := (hJ _).2 H.out.drew
      have hHas := fun V => Has_calls P.act k hlt V
      have hAF := fun V => ActsFor_calls P r (P.own k).toNat S I V
      rw [HR.out] at hAF
      clear hJ K
      obtain ⟨b, hb⟩ : ∃ b, has P.act k = b := ⟨_, rfl⟩
      obtain ⟨c, hc⟩ : ∃ c, decide (nB (P.own k) < 16) = c := ⟨_, rfl⟩
      obtain ⟨d, hd⟩ : ∃ d, has R (P.own k).toNat = d := ⟨_, rfl⟩
      rw [hb] at hHas
      rw [hd] at hAF
      have hcd : c = false → d = false := fun h => by
        rw [← hd]
        apply has_hi
        rw [h] at hc
        have := of_decide_eq_false hc
        unfold nB at this
        omega
      have hsb : cB P R k = (b && d) := by unfold cB; rw [hb, hd]
      have HSB := Lib.hid (And.intro hsb hcd)
      have HAF := Lib.hid hAF
      have HHas := Lib.hid hHas
      clear hb hd hsb hcd hAF hHas
      cases b with
      | false =>
        clear hc
        go_wp2_with fail
        refine region_inv J (by kernel_rfl) (by kernel_rfl) hj ?_
        iterate 3 (apply inv_yes; (· go_simp); (· intro w1 h1; have K1 := K' w1 h1; go_simp; exact ⟨rfl, h1⟩); (· go_simp; rfl))
        apply inv_yes
        · go_simp
        · intro w1 h1; go_simp; exact callI_same (HHas.out _) h1
        · go_simp; rfl
        apply inv_yes; (· go_simp); (· intro w1 h1; have K1 := K' w1 h1; go_simp; exact ⟨rfl, h1⟩); (· go_simp; rfl)
        repeat (first | (apply inv_no; (· go_simp); (· go_simp; rfl)) | (apply inv_yes; (· go_simp); (· intro w1 h1; have K1 := K' w1 h1; go_simp; exact ⟨rfl, h1⟩); (· go_simp; rfl)))
        refine wpInv_nil (fun w5 h5 => ?_)
        have H5 := Lib.hid ((HJ.out _).1 h5)
        have E := Lib.hid (mk16_no (f := cB P R) (k := k) (by rw [HSB.out.1]; rfl))
        clear K' h5 hj HJ H
        go_wp2_with fail
        go_roundw
        case rel => exact ⟨k + 1, by omega, by rw [E.out], by go_num, H5⟩
        case measure => simp [intOf]; omega
      | true =>
        cases c with
        | false =>
          go_wp2_with fail
          refine region_inv J (by kernel_rfl) (by kernel_rfl) hj ?_
          iterate 3 (apply inv_yes; (· go_simp); (· intro w1 h1; have K1 := K' w1 h1; go_simp; exact ⟨rfl, h1⟩); (· go_simp; rfl))
          apply inv_yes
          · go_simp
          · intro w1 h1; go_simp; exact callI_same (HHas.out _) h1
          · go_simp; rfl
          iterate 8 (apply inv_yes; (· go_simp); (· intro w1 h1; have K1 := K' w1 h1; go_simp; exact ⟨rfl, h1⟩); (· go_simp; rfl))
          repeat (first | (apply inv_no; (· go_simp); (· go_simp; rfl)) | (apply inv_yes; (· go_simp); (· intro w1 h1; have K1 := K' w1 h1; go_simp; exact ⟨rfl, h1⟩); (· go_simp; rfl)))
          refine wpInv_nil (fun w5 h5 => ?_)
          have H5 := Lib.hid ((HJ.out _).1 h5)
          have E := Lib.hid (mk16_no (f := cB P R) (k := k) (by rw [HSB.out.1, HSB.out.2 (by simp)]; rfl))
          clear K' h5 hj HJ H
          go_wp2_with fail
          go_roundw
          case rel => exact ⟨k + 1, by omega, by rw [E.out], by go_num, H5⟩
          case measure => simp [intOf]; omega
        | true =>
          go_wp2_with fail
          refine region_inv J (by kernel_rfl) (by kernel_rfl) hj ?_
          iterate 3 (apply inv_yes; (· go_simp); (· intro w1 h1; have K1 := K' w1 h1; go_simp; exact ⟨rfl, h1⟩); (· go_simp; rfl))
          apply inv_yes
          · go_simp
          · intro w1 h1; go_simp; exact callI_same (HHas.out _) h1
          · go_simp; rfl
          iterate 8 (apply inv_yes; (· go_simp); (· intro w1 h1; have K1 := K' w1 h1; go_simp; exact ⟨rfl, h1⟩); (· go_simp; rfl))
          apply inv_load_row ?_ 29 _ rfl w.heap.size rfl 29 ⟨polC P⟩ (0, 0) _ (fun w1 h1 => ((HJ.out w1).1 h1).row 1 rfl) Tryd.underlying29 rfl polC_size; (· go_simp; rfl); rotate_left; (· go_simp)
          iterate 7 (apply inv_yes; (· go_simp); (· intro w1 h1; have K1 := K' w1 h1; go_simp; exact ⟨rfl, h1⟩); (· go_simp; rfl))
          apply inv_yes
          · go_simp
          · intro w1 h1; go_simp; exact callI (fun w' => (HJ.out w').1) (fun w' => (HJ.out w').2) (HAF.out w1) h1
          · go_simp; rfl
          apply inv_yes; (· go_simp); (· intro w1 h1; have K1 := K' w1 h1; go_simp; exact ⟨rfl, h1⟩); (· go_simp; rfl)
          refine wpInv_nil (fun w5 h5 => ?_)
          have H5 := Lib.hid ((HJ.out _).1 h5)
          have HW := Lib.hid (With_calls (mk16 (cB P R) k) k hlt)
          clear K' h5 hj HJ H HAF HHas hc
          cases d with
          | false =>
            have E := Lib.hid (mk16_no (f := cB P R) (k := k) (by rw [HSB.out.1]; rfl))
            go_wp2_with fail
            go_roundw
            case rel => exact ⟨k + 1, by omega, by rw [E.out], by go_num, H5⟩
            case measure => simp [intOf]; omega
          | true =>
            have E := Lib.hid (mk16_yes (f := cB P R) (k := k) (by rw [HSB.out.1]; rfl))
            go_wp2_with fail
            refine (HW.out _).mono ?_
            rintro e w' ⟨rfl, rfl⟩
            go_wp2_with fail
            go_roundw
            case rel => exact ⟨k + 1, by omega, by rw [E.out], by go_num, H5⟩
            case measure => simp [intOf]; omega
    · obtain rfl : k = 16 := by omega
      go_wp2_with fail
      go_ret
      rw [← HE.out]
      exact ⟨rfl, H.out.below⟩
end Go.Proofs.YtohdldlagkmcnaaDoor.Pl
