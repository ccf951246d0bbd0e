/- The walk of typing.Type, by the contracts of what it calls. -/
import Derived.Test.YtinommcocgnmlaaTyB
import Derived.Test.YtinommcocgnmlaaMemIn
import Derived.Test.YtinommcocgnmlaaMem2
import Derived.ArgAppend
import Derived.Lib.Hide
import Derived.WalkSpells
import Derived.WalkLawsBesides
namespace Go.Proofs.Ytinommcocgnmlaa.PTypingTypes
open Go.RowKit Go.Proofs.YtinommcocgnmlaaW.PrintWords Go.Proofs.YtinommcocgnmlaaW.PrintLast Go.Proofs.YtinommcocgnmlaaW.PrintMore
open _root_.Go.Proofs.Ytinommcocgnmlaa.Own
set_option linter.unusedVariables false
set_option linter.unusedSimpArgs false
theorem below_drawn {w w' : World} (h : Drawn0 w w') : Below w.heap.size w w' := by
  exact h.below
def ints (l : List Int) : List Value := l.map (Value.int .i64)
theorem ints_length (l : List Int) : (ints l).length = l.length := by simp [ints]
theorem ints_drop (l : List Int) (k : Nat) : (ints l).drop k = ints (l.drop k) := by simp [ints, List.map_drop]
theorem ints_take (l : List Int) (k : Nat) : (ints l).take k = ints (l.take k) := by simp [ints, List.map_take]
theorem ints_append (l m : List Int) : ints l ++ ints m = ints (l ++ m) := by simp [ints]
theorem ints_one (l : List Int) : ∀ u ∈ ints l, u.oneCell' = true := by
  intro u hu
  obtain ⟨z, _, rfl⟩ := List.mem_map.1 hu
  rfl
theorem c_of_rd {w : World} {A : Option Addr} {l : List Int} (hl : l.length ≤ 9223372036854775807) (h : Rd w A (ints l)) : Kd.C (Kd.int .i64) w A l.length l := by
  refine ⟨rfl, hl, fun h0 => ?_⟩
  obtain ⟨ad, ha, _⟩ := h 0 (by rw [ints_length]; exact h0)
  refine ⟨ad, ha, fun j p hj => ?_⟩
  obtain ⟨hj1, rfl⟩ := List.getElem?_eq_some_iff.1 hj
  obtain ⟨a', ha', hc⟩ := h j (by rw [ints_length]; exact hj1)
  rw [ha] at ha'
  cases ha'
  refine ⟨[.int .i64 l[j]], rfl, rfl, ?_⟩
  intro i u hi
  match i, hi with
  | 0, hi =>
    simp only [List.getElem?_cons_zero, Option.some.injEq] at hi
    rw [Nat.add_zero, show j * (Kd.int .i64).sz = j from Nat.mul_one j, hc, ← hi]
    simp [ints]
  | _ + 1, hi => simp at hi
theorem Args_calls (a : Int) (w : World) : Calls Try.prog 42 #[.int .i64 a] w fun e w' => e = .returned (.int .i64 (ar a)) ∧ Below w.heap.size w w' :=
  (parse_Args.calls 2 a _ w (args_eq (by omega) a)).mono fun _ _ ⟨h1, h2⟩ => ⟨h1, below_drawn h2⟩
theorem Node_calls (x : Int) (A : Option Addr) (n c : Nat) (l : List Int) (hn : n = l.length) (hl : l.length ≤ 9223372036854775807) (hc : n ≤ c) (w : World) (hR : Rd w A (ints l)) : Calls Try.prog 28 #[.int .i64 x, .slice A n c] w fun e w' => e = .returned (.tuple #[.int .i64 (nodeT x l), .bool (decide (0 < nodeT x l))]) ∧ Below w.heap.size w w' := by
  subst hn
  exact (typing_Node.calls 4 x A c l _ _ w (c_of_rd hl hR) hc (node_eq (by omega) x l)).mono fun _ _ ⟨h1, h2⟩ => ⟨h1, below_drawn h2⟩
theorem RNode_calls (x : Int) (A : Option Addr) (n c : Nat) (l : List Int) (hn : n = l.length) (hl : l.length ≤ 9223372036854775807) (hc : n ≤ c) (w : World) (hR : Rd w A (ints l)) : Calls Try.prog 29 #[.int .i64 x, .slice A n c] w fun e w' => e = .returned (.int .i64 (nodeT x l)) ∧ Below w.heap.size w w' := by
  subst hn
  exact forepeakref18_Node.calls 30 x A c l _ w (c_of_rd hl hR) hc (rnode_eq x l (by omega))
theorem Right_calls (A : Option Addr) (c : Nat) (l : List S73) (w : World) (hr : Kd.C k73 w A l.length l) (hc : l.length ≤ c) (hl : l.length < 1099511627776) : Calls Try.prog 40 #[.slice A l.length c] w fun e w' => e = .returned (.bool (rightB (nds l))) ∧ Below w.heap.size w w' :=
  parse_Right.calls (l.length + 4) A c l _ w hr hc (right_eq l hl (by omega))
theorem RType_calls (A : Option Addr) (c : Nat) (l : List S73) (w : World) (hr : Kd.C k73 w A l.length l) (hc : l.length ≤ c) (hl : l.length < 1099511627776) : Calls Try.prog 31 #[.slice A l.length c] w fun e w' => e = .returned (.tuple #[.int .i64 (typeL (nds l)).1, .int .i64 (typeL (nds l)).2.1, .int .i64 (typeL (nds l)).2.2]) ∧ Below w.heap.size w w' :=
  forepeakref18_Type.calls (6 * l.length + 60) A c l _ _ _ w hr hc (rtype_eq l hl (by omega))
theorem infoI : (Try.prog.info? 3).map (fun i => (i.zero, i.size, i.bytes)) = some (some (.int .i64 0), 1, 8) := by kernel_rfl
theorem rd_tail {w : World} {A : Option Addr} {l : List Int} {k c : Nat} (h : Rd w A (ints l)) (hk : k ≤ l.length) (hc : l.length ≤ c) : Rd w (if c = k then A else Option.map (fun a => a.add k) A) (ints (l.drop k)) := by
  by_cases e : c = k
  · rw [if_pos e, List.drop_of_length_le (by omega)]
    exact Rd.nil _ _
  · rw [if_neg e, ← ints_drop]
    exact h.drop k
theorem rd_cells {w : World} {A : Option Addr} {xs : List Value} (h : Rd w A xs) : ∀ b, A = some b → ∀ (j : Nat) u, xs[j]? = some u → w.cell? (b.add j) = some u := by
  intro b hb j u hu
  obtain ⟨hj, rfl⟩ := List.getElem?_eq_some_iff.1 hu
  obtain ⟨a, ha, hc⟩ := h j hj
  rw [hb] at ha
  cases ha
  exact hc
theorem own_lower {w : World} {base base' : Nat} {e : TypeId} {n s : Nat} {v : Value} {xs : List Value} (hb : base' ≤ base) (h : w.ownsRow base e s v n xs) : w.ownsRow base' e s v n xs := by
  obtain ⟨h1, h2 | ⟨g, cap, cur, h2, h3, h4⟩⟩ := h
  · exact ⟨h1, .inl h2⟩
  · exact ⟨h1, .inr ⟨g, cap, cur, h2, Nat.le_trans hb h3, h4⟩⟩
set_option maxHeartbeats 2000000 in
theorem Type_calls (A : Option Addr) (c : Nat) (l : List S73) (w : World) (hr : Kd.C k73 w A l.length l) (hc : l.length ≤ c) (hl : l.length < 1099511627776) : Calls Try.prog 30 #[.slice A l.length c] w fun e w' => e = .returned (.tuple #[.int .i64 (typeL (nds l)).1, .int .i64 (typeL (nds l)).2.1, .int .i64 (typeL (nds l)).2.2]) ∧ Below w.heap.size w w' := by
  have HR := Lib.hid hr
  have HC := Lib.hid (Right_calls A c l w hr hc hl)
  clear hr
  cases hb : rightB (nds l) with
  | false =>
    have e : typeL (nds l) = (0, 0, 3) := by unfold typeL; rw [hb]; rfl
    rw [e]
    rw [hb] at HC
    clear hb e
    go_enter Try.func30, Try.ntmps30
    go_wp2_with (go_at_call 40; refine HC.out.mono ?_; rintro e w1 ⟨rfl, hb1⟩)
    go_ret3
    exact ⟨rfl, hb1⟩
  | true =>
    rw [hb] at HC
    obtain ⟨t, ht, hp, ho, hlen⟩ := (right_tree _).1 hb
    have e : typeL (nds l) = typeS [] 0 (nds l) := by unfold typeL; rw [hb]; rfl
    have hb0 : build [] (nds l) = some [t] := by rw [← hp]; exact build_post t ht []
    have h24 : l.length ≤ 24 := by rw [← nds_length]; exact hlen
    have hpos : 0 < l.length := by rw [← nds_length, ← hp]; exact t.post_pos
    rw [e]
    have HB0 := Lib.hid hb0
    clear hb e hp ho hlen ht hb0
    go_enter Try.func30, Try.ntmps30
    go_wp2_with (go_at_call 40; refine HC.out.mono ?_; rintro e w1 ⟨rfl, hb1⟩)
    have HB1 := Lib.hid hb1
    clear hb1 HC
    go_loopw [5, 16] (fun v5 v16 wr => ∃ (i : Nat) (hv : List Int) (s : List Tr), i ≤ l.length ∧ v16 = .int .i64 i ∧ Has w.heap.size 3 v5 (ints hv) wr ∧ Hid (typeS [] 0 (nds l) = typeS hv i (nds (l.drop i))) ∧ Hid (build s (nds (l.drop i)) = some [t]) ∧ Hid (s.length = hv.length) ∧ Hid (hv.length ≤ i) ∧ Below w.heap.size w wr) (fun _ v16 _ => l.length - (intOf v16).toNat)
    case atStart => exact ⟨0, [], [], Nat.zero_le _, rfl, Has.nil _ _ _, Lib.hid rfl, HB0, Lib.hid rfl, Lib.hid (Nat.le_refl _), HB1.out⟩
    case round =>
      clear HB0 HB1
      obtain ⟨i, hv, s, hi, rfl, hhv, HT, HS, HL, HV, hbw⟩ := hrel
      by_cases hlt : i < l.length
      · obtain ⟨ad, hA, hx0, hx1⟩ := at_T73 HR.out (i : Int) (by omega) (by omega)
        subst hA
        rw [rd_at l i hlt, Int.toNat_natCast] at hx0 hx1
        replace hx0 := (hbw.cell (World.block_lt_of_cell? w _ hx0)).trans hx0
        replace hx1 := (hbw.cell (World.block_lt_of_cell? w _ hx1)).trans hx1
        have hlen5 : hv.length ≤ i := HV.out
        obtain ⟨A5, c5, rfl, hc5, hA5, hR5⟩ := hhv.form
        rw [ints_length] at hc5 ⊢
        have HR5 := Lib.hid hR5
        clear hR5 hhv
        have hs1 := HS.out
        rw [drop_at l i hlt] at hs1
        unfold build at hs1
        obtain ⟨s1, hpush, hs2⟩ := Option.bind_eq_some_iff.1 hs1
        clear hs1
        have hpl := push_len hpush
        have har : 0 ≤ ar l[i].f0 ∧ ar l[i].f0 ≤ s.length := by
          have := push_bd hpush
          exact this
        rw [HL.out] at hpl har
        obtain ⟨har0, har1⟩ := har
        have hpl2 : s1.length + (ar l[i].f0).toNat = hv.length + 1 := by have : ar (nd l[i]).k = ar l[i].f0 := rfl; rw [this] at hpl; omega
        obtain ⟨kk, hkk⟩ : ∃ kk, kk = hv.length - (ar l[i].f0).toNat := ⟨_, rfl⟩
        obtain ⟨tt, htt⟩ : ∃ tt, tt = nodeT l[i].f0 (hv.drop kk) := ⟨_, rfl⟩
        have hT := HT.out
        rw [drop_at l i hlt, typeS_cons, show (nd l[i]).k = l[i].f0 from rfl, ← hkk, ← htt] at hT
        have hk0 : (kk : Int) ≤ hv.length := by omega
        have hsub : IntKind.i64.wrap ((hv.length : Int) - ar l[i].f0) = (kk : Int) := by rw [IntWalk.i64_in _ (by omega)]; omega
        have hN := Lib.hid (fun (A' : Option Addr) (n c : Nat) (w' : World) (h1 : n = (hv.drop kk).length) (h2 : n ≤ c) (h3 : Rd w' A' (ints (hv.drop kk))) => Node_calls l[i].f0 A' n c (hv.drop kk) h1 (by rw [List.length_drop]; omega) h2 w' h3)
        rw [← htt] at hN
        have HHT := Lib.hid hT
        have HKK := Lib.hid hkk
        have HSUB := Lib.hid hsub
        have HS1 := Lib.hid hs2
        have HPL := Lib.hid hpl2
        clear hT hkk hsub hs2 hpl2 hpl hpush htt HT HS HL HV
        have HBW := Lib.hid hbw
        clear hbw
        have H0 := (At.refl wr).alloc [.int .i64 l[i].f0, .int .i64 l[i].f1] 73
        cases hd : decide (0 < tt)
        all_goals
          rw [hd] at hN
          have HD := Lib.hid hd
          clear hd
          go_wp2_with fail
          refine callAt (Args_calls _ _) H0 ?_
          rintro e w2 rfl H1
          clear H0
          have hsub := HSUB.out
          go_wp2_with fail
          refine region_at (by kernel_rfl) (by kernel_rfl) H1.drew (fun J hJ1 hJ2 => ?_)
          have K := fun w1 h1 => (hJ1 w1 h1).rules
          simp only [List.forall_mem_cons, World.size_alloc] at K
          repeat (first | (apply inv_yes; (· go_simp); (· intro w1 h1; have K1 := K w1 h1; go_simp; exact ⟨rfl, h1⟩); (· go_simp; rfl)) | (apply inv_no; (· go_simp); (· go_simp; rfl)))
          apply inv_yes
          · go_simp
          · intro w1 h1; have K1 := K w1 h1; go_simp; exact callI hJ1 hJ2 (hN.out _ _ _ _ (by rw [List.length_drop]) (by omega) (rd_tail (HR5.out.below (hJ1 w1 h1).below) (by omega) hc5)) h1
          · go_simp; rfl
          repeat (first | (apply inv_yes; (· go_simp); (· intro w1 h1; have K1 := K w1 h1; go_simp; exact ⟨rfl, h1⟩); (· go_simp; rfl)) | (apply inv_no; (· go_simp); (· go_simp; rfl)))
          refine wpInv_nil (fun w3 h3 => ?_)
          have H3 := hJ1 w3 h3
          clear K hJ1 hJ2 h3 H1
          have HB3 := Lib.hid (HBW.out.trans (H3.below.mono HBW.out.size))
          have HR3 := Lib.hid (HR5.out.below H3.below)
          have hz3 := H3.below.size
          clear hsub H3
          obtain ⟨AX, hAX⟩ : ∃ AX, AX = (if c5 = kk then A5 else Option.map (fun a => a.add kk) A5) := ⟨_, rfl⟩
          rw [← hAX]
          clear hAX
        · go_wp2_with fail
          go_ret3
          exact ⟨by rw [HHT.out, if_neg (by simpa using HD.out)]; rfl, HB3.out⟩
        · obtain ⟨i0, hi0, hz0, hz1, hz2⟩ := info_parts infoI
          have hlt' : (kk : Int) ≤ c5 := by omega
          have hno : (A5 = none → kk = 0 ∧ kk = 0) := fun h => by have := hA5 h; omega
          have HNO := Lib.hid hno
          clear hno hA5
          have hle : (ints (hv.take kk)).length = kk := by rw [ints_length, List.length_take]; omega
          have HRD := Lib.hid (rd_cells ((HR3.out.take kk).below ((Below.refl _ _).alloc (Nat.le_refl _) (.cells #[.int .i64 tt] 3))))
          rw [ints_take] at HRD
          have HLE := Lib.hid hle
          clear hle
          go_wp2_with (at_builtin; refine wpList_append_grows _ rfl _ _ 53 rfl 3 i0 (.int .i64 0) 1 8 Try.underlying53 hi0 hz0 hz1 hz2 rfl (by decide) A5 kk kk (ints (hv.take kk)) rfl HNO.out ?_ ?_ ⟨w3.heap.size, 0, none⟩ 1 1 [.int .i64 tt] rfl rfl ?_ ?_ ?_ ?_ ?_ ?_; (· rw [HLE.out, Nat.mul_one]); (· exact HRD.out); (· exact cell_one_new _ _ _); (· simp [Value.oneCell']); (· omega); (· unfold maxLen; omega); (· omega); intro v4 w4 hown4 hgrow4; have HO4 := Lib.hid hown4; have HG4 := Lib.hid hgrow4; clear hown4 hgrow4)
          have hb4 : Below w.heap.size w w4 := HB3.out.trans ((((Below.refl _ w3).alloc (Nat.le_refl _) _).mono HB3.out.size).grown HG4.out (by have := HB3.out.size; simp; omega) (fun k e => by cases e))
          have hh4 : Has w.heap.size 3 v4 (ints (hv.take kk ++ [tt])) w4 := by
            have h := HO4.out
            rw [show ints (hv.take kk) ++ [.int .i64 tt] = ints (hv.take kk ++ [tt]) by simp [ints]] at h
            have h5 := own_lower (base' := w.heap.size) (by have := HB3.out.size; simp; omega) h
            have e : (ints (hv.take kk ++ [tt])).length = kk + 1 := by rw [ints_length, List.length_append, List.length_take]; simp; omega
            show w4.ownsRow _ _ _ _ _ _
            rw [e]
            exact h5
          have HB4 := Lib.hid hb4
          have HH4 := Lib.hid hh4
          clear hb4 hh4
          go_wp2_with fail
          go_roundw
          case rel =>
            have hk1 := HKK.out
            have hp1 := HPL.out
            refine ⟨i + 1, hv.take kk ++ [tt], s1, by omega, by go_num, HH4.out, Lib.hid ?_, HS1, Lib.hid ?_, Lib.hid ?_, HB4.out⟩
            · rw [HHT.out, if_pos (by simpa using HD.out)]; rfl
            · rw [List.length_append, List.length_take]; simp; omega
            · rw [List.length_append, List.length_take]; simp; omega
          case measure => simp [intOf]; omega
      · obtain rfl : i = l.length := by omega
        have hs := HS.out
        rw [List.drop_of_length_le (Nat.le_refl _)] at hs
        have hs' : s = [t] := by cases hs; rfl
        have hl1 := HL.out
        rw [hs'] at hl1
        obtain ⟨z, hz⟩ : ∃ z, hv = [z] := by
          match hv, hl1 with
          | [z], _ => exact ⟨z, rfl⟩
        subst hz
        have hT := HT.out
        rw [List.drop_of_length_le (Nat.le_refl _)] at hT
        obtain ⟨A5, c5, rfl, hc5, hA5, hR5⟩ := hhv.form
        obtain ⟨a5, ha5, hc0⟩ := hR5 0 (by simp [ints])
        subst ha5
        have hc1 : wr.cell? (a5.add 0) = some (.int .i64 z) := hc0
        rw [show a5.add 0 = a5 from by unfold Addr.add; rfl] at hc1
        have HT' := Lib.hid hT
        have HBW := Lib.hid hbw
        have e1 : (ints [z]).length = 1 := rfl
        rw [e1]
        clear hs hs' hl1 hT hc0 hR5 hA5 hc5 hhv HS HL HT HV hbw e1
        go_wp2_with fail
        go_ret3
        exact ⟨by rw [HT'.out]; rfl, HBW.out⟩
end Go.Proofs.Ytinommcocgnmlaa.PTypingTypes
