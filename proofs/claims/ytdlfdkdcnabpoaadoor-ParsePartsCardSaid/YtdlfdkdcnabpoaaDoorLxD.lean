/- Layer 16: next: the piece that a text begins with. -/
import Derived.Test.YtdlfdkdcnabpoaaDoorLxC
import Derived.Deep.CutBlock
namespace Go.Proofs.YtdlfdkdcnabpoaaDoor.Lx
set_option linter.unusedSimpArgs false
set_option linter.unusedVariables false
open Go.RowKit
open _root_.Go.Proofs.YtdlfdkdcnabpoaaDoor.Own
attribute [local go_sem] str_size str_extract str_append str_toList
theorem takeWhile_all : ∀ (l : List UInt8) (x : UInt8), x ∈ l.takeWhile letter → letter x = true
  | [], x, h => by simp at h
  | a :: l, x, h => by
    cases ha : letter a with
    | false => rw [List.takeWhile_cons_of_neg (by rw [ha]; decide)] at h; cases h
    | true =>
      rw [List.takeWhile_cons_of_pos ha] at h
      rcases List.mem_cons.1 h with rfl | h
      · exact ha
      · exact takeWhile_all l x h
theorem head_letters (c : UInt8) (l : List UInt8) (n : Nat) (hn : ((c :: l).takeWhile letter).length = n) (h0 : 0 < n) : ∃ r, (c :: l).take n = c :: r ∧ head (c :: l) = c :: r ∧ (∀ x ∈ c :: r, letter x = true) ∧ (c :: r).length = n := by
  have hne : (c :: l).takeWhile letter ≠ [] := fun e => by rw [e] at hn; simp at hn; omega
  have hh : head (c :: l) = (c :: l).takeWhile letter := by unfold head; rw [if_neg hne]
  have ht := head_take (c :: l)
  rw [hh, hn] at ht
  cases hc : letter c with
  | false => rw [List.takeWhile_cons_of_neg (by rw [hc]; decide)] at hne; exact absurd rfl hne
  | true =>
    rw [List.takeWhile_cons_of_pos hc] at ht hh hn
    refine ⟨_, ht, hh, fun x hx => ?_, hn⟩
    rw [← List.takeWhile_cons_of_pos hc] at hx
    exact takeWhile_all _ x hx
theorem head_nonletter (c : UInt8) (l : List UInt8) (hn : ((c :: l).takeWhile letter).length = 0) : head (c :: l) = if Lib.hasPrefix (c :: l) [60, 61] then [60, 61] else [c] := by
  have : (c :: l).takeWhile letter = [] := List.eq_nil_of_length_eq_zero hn
  unfold head
  rw [if_pos this]
  rfl
theorem signs_const : (⟨#[124, 38, 45, 40, 41]⟩ : ByteArray) = str [124, 38, 45, 40, 41] := rfl
set_option maxRecDepth 10000 in
set_option maxHeartbeats 4000000 in
theorem next_calls (c : UInt8) (l : List UInt8) (hlen : (c :: l).length ≤ 48) (w : World) (hE : Env w) :
    Calls Tryd.prog 24 #[.string (str (c :: l))] w fun e w' => ∃ v, e = .returned (.tuple #[v, .bool (known (head (c :: l))).isSome]) ∧ IsPc (head (c :: l)) v ∧ Below w.heap.size w w' := by
  obtain ⟨s, hs⟩ : ∃ s, c :: l = s := ⟨_, rfl⟩
  obtain ⟨n, hn⟩ : ∃ n, ((c :: l).takeWhile letter).length = n := ⟨_, rfl⟩
  have hin := run_in (c :: l)
  have hend := run_end (c :: l)
  have hle := run_le (c :: l)
  rw [hn] at hin hend hle
  have HLT := Lib.hid (head_letters c l n hn)
  have HNL := Lib.hid (fun h : n = 0 => head_nonletter c l (hn.trans h))
  have HP : Hid (∀ w, Calls Tryd.prog 33 #[.string (str (c :: l)), .string ⟨#[60, 61]⟩] w fun e w' => e = .returned (.bool (Lib.hasPrefix (c :: l) [60, 61])) ∧ w = w') := Lib.hid (fun w => prefix_calls (c :: l) [60, 61] w)
  have h1 : (c :: l).take 1 = [c] := rfl
  have hpos : 1 ≤ (c :: l).length := by simp
  have h2 : Lib.hasPrefix (c :: l) [60, 61] = true → (c :: l).take 2 = [60, 61] ∧ 2 ≤ (c :: l).length := fun h => by
    obtain ⟨r, hr⟩ := (hasPrefix_iff _ _).1 h
    rw [hr]
    exact ⟨rfl, by simp⟩
  rw [hs] at hin hend hle HLT HNL HP h1 hpos h2 hlen ⊢
  have HIN := Lib.hid hin
  have HEND := Lib.hid hend
  have H2 := Lib.hid h2
  have HS := Lib.hid (And.intro hs hn)
  have HE0 := Lib.hid hE
  have hx1 : ∀ w, (Instr.slice 9 (.string (str s)) none (some (.int .i64 1)) none).run Tryd.prog w = .ok (.string (str [c])) w := fun w => by rw [← h1]; exact run_upto _ Tryd.underlying9 s 1 hpos
  have HX1 := Lib.hid hx1
  clear hin hend h2 h1 hpos hs hn hE hx1
  have HA0 := Lib.hid ((At.refl w).alloc zC 32)
  obtain ⟨J, hJ⟩ : ∃ J : World → Prop, ∀ W, J W := ⟨fun _ => True, fun _ => trivial⟩
  have HJ := Lib.hid hJ
  clear hJ
  go_enter Tryd.func24, Tryd.ntmps24
  go_upto_block 0 with fail
  go_cut [4] (fun v4 wx => v4 = .int .i64 n ∧ wx = w.alloc (.cells ⟨zC⟩ 32))
  case first =>
    go_wp2_with fail
    go_loopw [4] (fun v4 wr => ∃ m : Nat, v4 = .int .i64 m ∧ m ≤ n ∧ wr = w.alloc (.cells ⟨zC⟩ 32)) (fun v4 _ => n - (intOf v4).toNat)
    case atStart => exact ⟨0, rfl, Nat.zero_le _, rfl⟩
    case round =>
      obtain ⟨m, rfl, hmn, rfl⟩ := hrel
      by_cases hlt : m < n
      · obtain ⟨d, hd, hld⟩ := HIN.out m hlt
        have d1 : decide (m < s.length) = true := by rw [decide_eq_true_eq]; omega
        have hx := fun w => run_byte (P := Tryd.prog) (w := w) _ Tryd.underlying9 s m d hd
        have hsm := letter_calls d
        rw [hld] at hsm
        have HSM := Lib.hid hsm
        clear hsm hd hld
        go_wp2_with (go_at_call 31; refine (HSM.out _).mono ?_; rintro e w1 ⟨rfl, rfl⟩)
        go_roundw
        case rel => exact ⟨m + 1, by go_num, by omega, trivial⟩
        case measure => simp only [intOf]; omega
      · obtain rfl : m = n := by omega
        rcases HEND.out with h0 | ⟨d, hd, hld⟩
        · have d1 : decide (m < s.length) = false := by rw [decide_eq_false_iff_not]; have := List.getElem?_eq_none_iff.1 h0; omega
          clear h0
          go_wp2_with fail
          go_meet
          exact ⟨rfl, rfl⟩
        · have d1 : decide (m < s.length) = true := by rw [decide_eq_true_eq]; exact (List.getElem?_eq_some_iff.1 hd).1
          have hx := fun w => run_byte (P := Tryd.prog) (w := w) _ Tryd.underlying9 s m d hd
          have hsm := letter_calls d
          rw [hld] at hsm
          have HSM := Lib.hid hsm
          clear hsm hd hld
          go_wp2_with (go_at_call 31; refine (HSM.out _).mono ?_; rintro e w1 ⟨rfl, rfl⟩)
          go_meet
          exact ⟨rfl, rfl⟩
  case rest =>
    obtain ⟨rfl, rfl⟩ := hcut
    have HB0 := Lib.hid (HE0.out.below HA0.out.below)
    by_cases h0 : 0 < n
    · obtain ⟨r, ht, hh, hall, hlr⟩ := HLT.out h0
      have d0 : decide (0 < n) = true := decide_eq_true h0
      have hx := fun w => run_upto (P := Tryd.prog) (w := w) _ Tryd.underlying9 s n hle
      rw [ht] at hx
      have HN := Lib.hid (named_calls c r hall (by omega) _ HB0.out)
      have HH := Lib.hid hh
      clear ht hh hall hlr
      go_wp2_with fail
      refine HN.out.mono ?_
      rintro e w1 ⟨v, rfl, ⟨k, m, rfl, hkm⟩, hb⟩
      have HKM := Lib.hid hkm
      have HA1 := Lib.hid (HA0.out.call hb)
      clear hb hkm
      obtain ⟨z, hz, zlt, zle⟩ := HA1.out.rules _ (List.mem_cons_self ..)
      have z0 : w1.cell? ⟨w.heap.size, 0, none⟩ = some (.int .i64 0) := z 0
      have z1 : w1.cell? ⟨w.heap.size, 1, none⟩ = some (.string ⟨#[]⟩) := z 1
      have z2 : w1.cell? ⟨w.heap.size, 2, none⟩ = some (.int .i64 0) := z 2
      have z3 : w1.cell? ⟨w.heap.size, 3, none⟩ = some (.int .i64 0) := z 3
      clear z
      unfold pcC
      go_wp2_with fail
      have hA2 := (((HA1.out.set 0 rfl 0 (.int .i64 k)).set 0 rfl 1 (.string (str (c :: r)))).set 0 rfl 2 (.int .i64 m)).set 0 rfl 3 (.int .i64 0)
      have hA3 := hA2
      refine bodyPost_ret (results_cell_tmp rfl _ _ (hA3.row 0 rfl) rfl Tryd.underlying32 rfl infoPc) rfl ?_
      have hb : (known (head s)).isSome = (known (c :: r)).isSome := by rw [HH.out]
      refine ⟨.agg ⟨pcC k (c :: r) m 0⟩, ?_, ?_, hA3.below⟩
      · rw [hb]; rfl
      · rw [HH.out]; exact ⟨k, m, rfl, HKM.out⟩
    · obtain rfl : n = 0 := by omega
      obtain ⟨z, hz', zlt', zle'⟩ := HA0.out.rules _ (List.mem_cons_self ..)
      have hz : ∀ i, (w.alloc (.cells ⟨zC⟩ 32)).frozen? ⟨w.heap.size, i, none⟩ = false := hz'
      have zlt : w.heap.size < (w.alloc (.cells ⟨zC⟩ 32)).heap.size := zlt'
      clear hz' zlt' zle'
      have z0 : (w.alloc (.cells ⟨zC⟩ 32)).cell? ⟨w.heap.size, 0, none⟩ = some (.int .i64 0) := z 0
      have z1 : (w.alloc (.cells ⟨zC⟩ 32)).cell? ⟨w.heap.size, 1, none⟩ = some (.string ⟨#[]⟩) := z 1
      have z2 : (w.alloc (.cells ⟨zC⟩ 32)).cell? ⟨w.heap.size, 2, none⟩ = some (.int .i64 0) := z 2
      have z3 : (w.alloc (.cells ⟨zC⟩ 32)).cell? ⟨w.heap.size, 3, none⟩ = some (.int .i64 0) := z 3
      clear z
      have hh := HNL.out rfl
      generalize hw1 : w.alloc (.cells ⟨zC⟩ 32) = w1 at *
      clear hw1
      cases hp : Lib.hasPrefix s [60, 61] with
      | true =>
        rw [hp, if_pos rfl] at hh
        obtain ⟨t2, l2⟩ := H2.out hp
        have hx : ∀ w, (Instr.slice 9 (.string (str s)) none (some (.int .i64 2)) none).run Tryd.prog w = .ok (.string (str [60, 61])) w := fun w => by rw [← t2]; exact run_upto (P := Tryd.prog) (w := w) _ Tryd.underlying9 s 2 l2
        have hpc := HP.out
        rw [hp] at hpc
        have HPC := Lib.hid hpc
        have HH := Lib.hid hh
        clear t2 hh hp hpc
        go_wp2_with fail
        refine (HPC.out _).mono ?_
        rintro e w2 ⟨rfl, rfl⟩
        go_wp2_with fail
        have hA2 := (((HA0.out.set 0 rfl 0 (.int .i64 4)).set 0 rfl 1 (.string (str [60, 61]))).set 0 rfl 2 (.int .i64 0)).set 0 rfl 3 (.int .i64 0)
        have hA3 := hA2
        refine bodyPost_ret (results_cell_tmp rfl _ _ (hA3.row 0 rfl) rfl Tryd.underlying32 rfl infoPc) rfl ?_
        have hb : (known (head s)).isSome = true := by rw [HH.out, known_two]; rfl
        refine ⟨.agg ⟨pcC 4 [60, 61] 0 0⟩, ?_, ?_, hA3.below⟩
        · rw [hb]; rfl
        · rw [HH.out]; exact ⟨4, 0, rfl, fun x hx => by rw [known_two] at hx; cases hx; exact ⟨rfl, rfl⟩⟩
      | false =>
        rw [hp, if_neg (by decide)] at hh
        have hpc := HP.out
        rw [hp] at hpc
        have HPC := Lib.hid hpc
        have HH := Lib.hid hh
        have hx := HX1.out
        have HC : Hid (∀ w, Env w → Calls Tryd.prog 34 #[.string ⟨#[124, 38, 45, 40, 41]⟩, .string (str [c])] w fun e w' => e = .returned (.bool (Lib.contains [124, 38, 45, 40, 41] [c])) ∧ w = w') := Lib.hid (fun w hE => contains_calls [124, 38, 45, 40, 41] [c] (by decide) w hE)
        clear hh hp hpc
        go_wp2_with fail
        refine (HPC.out _).mono ?_
        rintro e w2 ⟨rfl, rfl⟩
        go_wp2_with fail
        refine Turn.region_seq [0, 1, 2, 3, 4, 5, 6, 7] (fun i => i == 5 || i == 6) J (by kernel_rfl) (by kernel_rfl) (HJ.out _) ?_
        repeat (first | (apply Turn.seq_yes; (· simp only [List.getElem?_toArray, List.getElem?_cons_succ, List.getElem?_cons_zero]; rfl); (· rfl); (· go_simp); (· intro w1 h1; go_simp; exact ⟨rfl, rfl, h1⟩); (· go_simp; rfl)) | (apply Turn.seq_yes; (· simp only [List.getElem?_toArray, List.getElem?_cons_succ, List.getElem?_cons_zero]; rfl); (· rfl); (· go_simp); (· intro w1 h1; go_simp; exact ⟨rfl, h1⟩); (· go_simp; rfl)) | (apply Turn.seq_no; (· simp only [List.getElem?_toArray, List.getElem?_cons_succ, List.getElem?_cons_zero]; rfl); (· go_simp); (· go_simp; rfl)))
        apply Turn.seq_call
        · simp only [List.getElem?_toArray, List.getElem?_cons_succ, List.getElem?_cons_zero]; rfl
        · rfl
        · go_simp
        · intro v; go_simp; rfl
        go_simp
        refine (HC.out _ (HB0.out.below ((Below.refl _ _).drew))).mono ?_
        rintro e w2 ⟨rfl, rfl⟩
        refine ⟨_, rfl, HJ.out _, ?_⟩
        repeat (first | (apply Turn.seq_yes; (· simp only [List.getElem?_toArray, List.getElem?_cons_succ, List.getElem?_cons_zero]; rfl); (· rfl); (· go_simp); (· intro w1 h1; go_simp; exact ⟨rfl, rfl, h1⟩); (· go_simp; rfl)) | (apply Turn.seq_yes; (· simp only [List.getElem?_toArray, List.getElem?_cons_succ, List.getElem?_cons_zero]; rfl); (· rfl); (· go_simp); (· intro w1 h1; go_simp; exact ⟨rfl, h1⟩); (· go_simp; rfl)) | (apply Turn.seq_no; (· simp only [List.getElem?_toArray, List.getElem?_cons_succ, List.getElem?_cons_zero]; rfl); (· go_simp); (· go_simp; rfl)))
        apply Turn.seq_call
        · simp only [List.getElem?_toArray, List.getElem?_cons_succ, List.getElem?_cons_zero]; rfl
        · rfl
        · go_simp
        · intro v; go_simp; rfl
        go_simp
        refine ⟨HJ.out _, ?_⟩
        repeat (first | (apply Turn.seq_yes; (· simp only [List.getElem?_toArray, List.getElem?_cons_succ, List.getElem?_cons_zero]; rfl); (· rfl); (· go_simp); (· intro w1 h1; go_simp; exact ⟨rfl, rfl, h1⟩); (· go_simp; rfl)) | (apply Turn.seq_yes; (· simp only [List.getElem?_toArray, List.getElem?_cons_succ, List.getElem?_cons_zero]; rfl); (· rfl); (· go_simp); (· intro w1 h1; go_simp; exact ⟨rfl, h1⟩); (· go_simp; rfl)) | (apply Turn.seq_no; (· simp only [List.getElem?_toArray, List.getElem?_cons_succ, List.getElem?_cons_zero]; rfl); (· go_simp); (· go_simp; rfl)))
        apply Turn.seq_nil
        go_wp2_with fail
        have HK1 := Lib.hid (known_one (c := c))
        have hA2 := (((HA0.out.set 0 rfl 0 (.int .i64 4)).set 0 rfl 1 (.string (str [c]))).set 0 rfl 2 (.int .i64 0)).set 0 rfl 3 (.int .i64 0)
        have hA3 := hA2.drew
        refine bodyPost_ret (results_cell_tmp rfl _ _ (hA3.row 0 rfl) rfl Tryd.underlying32 rfl infoPc) rfl ?_
        have hb : (known (head s)).isSome = Lib.contains [124, 38, 45, 40, 41] [c] := by rw [HH.out, HK1.out]; cases Lib.contains [124, 38, 45, 40, 41] [c] <;> rfl
        refine ⟨.agg ⟨pcC 4 [c] 0 0⟩, ?_, ?_, hA3.below⟩
        · rw [hb]; rfl
        · rw [HH.out]; refine ⟨4, 0, rfl, fun x hx => ?_⟩
          rw [HK1.out] at hx
          split at hx
          · cases hx; exact ⟨rfl, rfl⟩
          · cases hx
end Go.Proofs.YtdlfdkdcnabpoaaDoor.Lx
