/- Layer 16: named, next: what a text begins with. -/
import Derived.Test.YtdlfdkdcnabpoaaDoorLxB
import Derived.Test.YtdlfdkdcnabpoaaDoorLxShelf
import Derived.Test.YtdlfdkdcnabpoaaDoorTurn
import Derived.WalkSmall
import Derived.Test.YtdlfdkdcnabpoaaDoorOn
import Derived.BigRegion
import Derived.Deep.DeepCutAuto
namespace Go.Proofs.YtdlfdkdcnabpoaaDoor.Lx
set_option linter.unusedSimpArgs false
set_option linter.unusedVariables false
open Go.RowKit
open _root_.Go.Proofs.YtdlfdkdcnabpoaaDoor.Own
attribute [local go_sem] str_size str_extract str_append str_toList
/-- What the library's variables hold, as far as the library's functions ask. -/
structure Env (w : World) : Prop where
  syn : ∃ tp p, w.var? Tryd.prog "strconv.ErrSyntax" = some #[.iface tp p]
  ran : ∃ tp p, w.var? Tryd.prog "strconv.ErrRange" = some #[.iface tp p]
  max : ∃ m, w.cell? ⟨0, 0, none⟩ = some (.int .i64 m)
theorem gSyn : Tryd.prog.globalNamed "strconv.ErrSyntax" = some 1 := by kernel_rfl
theorem gRan : Tryd.prog.globalNamed "strconv.ErrRange" = some 2 := by kernel_rfl
theorem var_lt {P : Program} {w : World} {n : String} {g : Nat} {x : Value} (hg : P.globalNamed n = some g) (h : w.var? P n = some #[x]) : g < w.heap.size := World.block_lt_of_cell? (u := x) w (a := ⟨g, 0, none⟩) ((World.var?_cell hg h 0).trans rfl)
theorem Env.below {w w' : World} (h : Env w) (hb : Below w.heap.size w w') : Env w' := by
  obtain ⟨⟨t1, p1, h1⟩, ⟨t2, p2, h2⟩, m, h3⟩ := h
  exact ⟨⟨t1, p1, var?_below hb gSyn (var_lt gSyn h1) h1⟩, ⟨t2, p2, var?_below hb gRan (var_lt gRan h2) h2⟩, m, (hb.cell (World.block_lt_of_cell? w _ h3)).trans h3⟩
theorem atoi_calls (r : List UInt8) (hl : r.length ≤ 100) (w : World) (hE : Env w) :
    Calls Tryd.prog 44 #[.string (str r)] w fun e w' => ∃ n ev, e = .returned (.tuple #[.int .i64 n, ev]) ∧ Below w.heap.size w w' ∧ ((ev = .nilIface ∧ Lib.atoiAll r = .ok n) ∨ ((∃ p, ev = .iface 89 p) ∧ ∀ m, Lib.atoiAll r ≠ .ok m)) := by
  have hs : (str r).size = r.length := str_size r
  have hd : (str r).data.toList = r := str_data r
  rcases h : Lib.atoiAll r with n | _ | _
  · refine (Tryd.strconv_Atoi_ok (str r) (by omega) n (by rw [hd]; exact h) w).mono ?_
    rintro e w' ⟨rfl, hw⟩
    refine ⟨n, _, rfl, ?_, .inl ⟨rfl, rfl⟩⟩
    rcases hw with rfl | ⟨t, rfl⟩
    · exact Below.refl _ _
    · exact Lib.bytesWorld_below _ _ _
  · obtain ⟨tp, p, hv⟩ := hE.syn
    refine (Any.strconv_Atoi_syntax_var Tryd.laysC172 (str r) (by omega) (by rw [hd]; exact h) tp p w hv).mono ?_
    rintro e w' ⟨N, rfl, _, _, hb⟩
    exact ⟨_, _, rfl, hb, .inr ⟨⟨_, rfl⟩, fun m hm => by cases hm⟩⟩
  · obtain ⟨tp, p, hv⟩ := hE.ran
    refine (Tryd.strconv_Atoi_range_var (str r) (by omega) (by rw [hd]; exact h) tp p w hv).mono ?_
    rintro e w' ⟨N, rfl, _, _, hb⟩
    exact ⟨_, _, rfl, hb, .inr ⟨⟨_, rfl⟩, fun m hm => by cases hm⟩⟩
theorem contains_calls (s t : List UInt8) (hs : s.length ≤ 100) (w : World) (hE : Env w) : Calls Tryd.prog 34 #[.string (str s), .string (str t)] w fun e w' => e = .returned (.bool (Lib.contains s t)) ∧ w = w' := by
  obtain ⟨m, hm⟩ := hE.max
  refine (Tryd.strings_Contains (str s) (str t) m w (by rw [str_size]; omega) hm).mono ?_
  rintro e w' ⟨rfl, rfl⟩
  rw [str_data, str_data]
  exact ⟨rfl, rfl⟩
theorem itoa_calls (n : Nat) (hn : n < 16) (w : World) : Calls Tryd.prog 45 #[.int .i64 n] w fun e w' => e = .returned (.string (str (Lib.decDigits n))) ∧ w = w' :=
  (Tryd.strconv_Itoa_small n (by omega) w).mono fun e w' ⟨h1, h2⟩ => ⟨h1, h2.symm⟩
theorem prefix_calls (s t : List UInt8) (w : World) : Calls Tryd.prog 33 #[.string (str s), .string (str t)] w fun e w' => e = .returned (.bool (Lib.hasPrefix s t)) ∧ w = w' := by
  refine (Tryd.strings_HasPrefix (str s) (str t) w).mono ?_
  rintro e w' ⟨rfl, rfl⟩
  rw [str_data, str_data]
  exact ⟨rfl, rfl⟩
/-- A piece's cells. -/
def pcC (k : Int) (t : List UInt8) (n a : Int) : List Value := [.int .i64 k, .string (str t), .int .i64 n, .int .i64 a]
/-- What a text is, and whether it is one. -/
def IsPc (t : List UInt8) (v : Value) : Prop := ∃ k n : Int, v = .agg ⟨pcC k t n 0⟩ ∧ ∀ x, known t = some x → k = x.1 ∧ n = x.2
/-- What a function gives back that keeps its first result in a variable of its own. -/
theorem results_cell_tmp {P : Program} {fn : Func} {t s : Tmp} {ty T : TypeId} {g : Nat} {cs : List Value} {d : TypeDesc} {fr : Nat × Nat} (h : fn.results = #[.cell t ty, .tmp s]) (tmps : Array Value) (w : World) (hg : w.heap[g]? = some (.cells ⟨cs⟩ T fr))
    (ht : tmps.getD t undef = .pointer (some ⟨g, 0, none⟩)) (hu : P.underlying ty = some d) (hd : (match d with | .struct _ | .array _ _ => true | _ => false) = true) (hi : (P.info? ty).map (·.size) = some cs.length) :
    (results fn tmps).run P w = .ok (.tuple #[.agg ⟨cs⟩, tmps.getD s undef]) w := by
  have hl := run_loadVar_part w g 0 cs.length T ty cs cs fr d hg hu hd hi rfl (fun i _ => by rw [Nat.zero_add])
  simp only [Array.getD_eq_getD_getElem?] at ht
  have ha : (asAddr (.pointer (some ⟨g, 0, none⟩))).run P w = .ok ⟨g, 0, none⟩ w := rfl
  simp [results, h, ht, ha, hl]
theorem infoPc : (Tryd.prog.info? 32).map (·.size) = some 4 := by kernel_rfl
theorem words_const : (⟨#[32, 97, 108, 108, 32, 108, 105, 118, 101, 32, 109, 105, 110, 101, 32, 117, 112, 32, 100, 111, 119, 110, 32, 116, 97, 103, 115, 32, 111, 119, 110, 101, 114, 115, 32, 99, 111, 117, 110, 116, 32, 115, 111, 109, 101, 32]⟩ : ByteArray) = str wordsText := rfl
/-- The cells of a struct of four that a function gives back. -/
abbrev zC : List Value := [.int .i64 0, .string ⟨#[]⟩, .int .i64 0, .int .i64 0]
set_option maxRecDepth 10000 in
set_option maxHeartbeats 4000000 in
theorem named_calls (c : UInt8) (r : List UInt8) (hl : ∀ x ∈ c :: r, letter x = true) (hlen : (c :: r).length ≤ 48) (w : World) (hE : Env w) :
    Calls Tryd.prog 32 #[.string (str (c :: r))] w fun e w' => ∃ v, e = .returned (.tuple #[v, .bool (known (c :: r)).isSome]) ∧ IsPc (c :: r) v ∧ Below w.heap.size w w' := by
  rw [List.length_cons] at hlen
  have hx0 : ∀ w, (Instr.index 9 (.string (str (c :: r))) (.int .i64 0)).run Tryd.prog w = .ok (.int .u8 (nB c)) w := fun w => run_byte _ Tryd.underlying9 (c :: r) 0 c rfl
  have hx1 : ∀ w, (Instr.slice 9 (.string (str (c :: r))) (some (.int .i64 1)) none none).run Tryd.prog w = .ok (.string (str r)) w := fun w => run_from _ Tryd.underlying9 (c :: r) 1 (by simp)
  have HA := Lib.hid (fun w hE => atoi_calls r (by omega) w hE)
  have HA0 := Lib.hid ((At.refl w).alloc zC 32)
  have HE0 := Lib.hid hE
  have e114 : (nB c == 114) = (c == 114) := nB_eq c 114
  have e116 : (nB c == 116) = (c == 116) := nB_eq c 116
  obtain ⟨kk, hkk⟩ : ∃ kk, roleKind c = kk := ⟨_, rfl⟩
  have hcs : ((nB c == 114) = true ∧ kk = 2) ∨ ((nB c == 114) = false ∧ (nB c == 116) = true ∧ kk = 3) ∨ ((nB c == 114) = false ∧ (nB c == 116) = false ∧ kk = 0) := by
    by_cases h1 : c = 114
    · subst h1; exact .inl ⟨rfl, hkk.symm⟩
    · have n1 := e114.trans (beq_eq_false_iff_ne.2 h1)
      by_cases h2 : c = 116
      · subst h2; exact .inr (.inl ⟨rfl, rfl, hkk.symm⟩)
      · refine .inr (.inr ⟨n1, e116.trans (beq_eq_false_iff_ne.2 h2), ?_⟩)
        rw [← hkk]; unfold roleKind; rw [if_neg h1, if_neg h2]
  have HK := Lib.hid hkk
  have HL := Lib.hid hl
  clear e114 e116 hkk hl hE
  have ha1 : ∀ w, (Op.stringOp .add ⟨#[32]⟩ (str (c :: r))).run Tryd.prog w = .ok (.string (str (32 :: c :: r))) w := fun w => run_string_add_lists w [32] (c :: r) (by simp) (by rw [List.length_cons]; omega)
  have ha2 : ∀ w, (Op.stringOp .add (str (32 :: c :: r)) ⟨#[32]⟩).run Tryd.prog w = .ok (.string (str (32 :: (c :: r ++ [32])))) w := fun w => run_string_add_lists w (32 :: c :: r) [32] (by simp; omega) (by simp)
  have HC := Lib.hid (contains_calls wordsText (32 :: (c :: r ++ [32])) (by decide))
  obtain ⟨J, hJ⟩ : ∃ J : World → Prop, ∀ W, J W := ⟨fun _ => True, fun _ => trivial⟩
  have HJ := Lib.hid hJ
  clear hJ
  rcases hcs with ⟨e1, rfl⟩ | ⟨e1, e2, rfl⟩ | ⟨e1, e2, rfl⟩
  · go_enter Tryd.func32, Tryd.ntmps32
    go_wp2_with fail
    refine (HA.out _ (HE0.out.below HA0.out.below)).mono ?_
    rintro e w1 ⟨m, ev, rfl, hb, ⟨rfl, hat⟩ | ⟨⟨p, rfl⟩, hat⟩⟩
    · have HA1 := Lib.hid (HA0.out.call hb)
      have h0 := atoi_pos (fun x hx => HL.out x (List.mem_cons_of_mem _ hx)) hat
      obtain ⟨k, rfl⟩ : ∃ k : Nat, m = k := ⟨m.toNat, by omega⟩
      have hkn := named_role (c := c) (r := r) (n := k) (by rw [HK.out]; decide) (fun x hx => HL.out x (List.mem_cons_of_mem _ hx)) hat
      rw [HK.out, show ((k : Int)).toNat = k from rfl] at hkn
      have HKN := Lib.hid hkn
      clear hat hb hkn h0
      obtain ⟨z, hz, zlt, zle⟩ := HA1.out.rules _ (List.mem_cons_self ..)
      have z0 : w1.cell? ⟨w.heap.size, 0, none⟩ = some (.int .i64 0) := z 0
      have z1 : w1.cell? ⟨w.heap.size, 1, none⟩ = some (.string ⟨#[]⟩) := z 1
      have z2 : w1.cell? ⟨w.heap.size, 2, none⟩ = some (.int .i64 0) := z 2
      have z3 : w1.cell? ⟨w.heap.size, 3, none⟩ = some (.int .i64 0) := z 3
      clear z
      by_cases h16 : k < 16
      · have d16 : decide (k < 16) = true := decide_eq_true h16
        have d17 : ((k : Int) < 16) = True := by simp; omega
        have HI := Lib.hid (itoa_calls k h16)
        go_wp2_with fail
        refine Turn.region_seq [0, 1, 2, 3, 4, 5, 6, 7, 9, 10, 8, 11, 12, 13, 14] (fun i => i == 8 || i == 13) J (by kernel_rfl) (by kernel_rfl) (HJ.out _) ?_
        repeat (first | (apply Turn.seq_yes; (· simp only [List.getElem?_toArray, List.getElem?_cons_succ, List.getElem?_cons_zero]; rfl); (· rfl); (· go_simp); (· intro w1 h1; go_simp; exact ⟨rfl, rfl, h1⟩); (· go_simp; rfl)) | (apply Turn.seq_yes; (· simp only [List.getElem?_toArray, List.getElem?_cons_succ, List.getElem?_cons_zero]; rfl); (· rfl); (· go_simp); (· intro w1 h1; go_simp; exact ⟨rfl, h1⟩); (· go_simp; rfl)) | (apply Turn.seq_no; (· simp only [List.getElem?_toArray, List.getElem?_cons_succ, List.getElem?_cons_zero]; rfl); (· go_simp); (· go_simp; rfl)))
        apply Turn.seq_call
        · simp only [List.getElem?_toArray, List.getElem?_cons_succ, List.getElem?_cons_zero]; rfl
        · rfl
        · go_simp
        · intro v; go_simp; rfl
        go_simp
        refine (HI.out _).mono ?_
        rintro e w2 ⟨rfl, rfl⟩
        refine ⟨_, rfl, HJ.out _, ?_⟩
        repeat (first | (apply Turn.seq_yes; (· simp only [List.getElem?_toArray, List.getElem?_cons_succ, List.getElem?_cons_zero]; rfl); (· rfl); (· go_simp); (· intro w1 h1; go_simp; exact ⟨rfl, rfl, h1⟩); (· go_simp; rfl)) | (apply Turn.seq_yes; (· simp only [List.getElem?_toArray, List.getElem?_cons_succ, List.getElem?_cons_zero]; rfl); (· rfl); (· go_simp); (· intro w1 h1; go_simp; exact ⟨rfl, h1⟩); (· go_simp; rfl)) | (apply Turn.seq_no; (· simp only [List.getElem?_toArray, List.getElem?_cons_succ, List.getElem?_cons_zero]; rfl); (· go_simp); (· go_simp; rfl)))
        apply Turn.seq_call
        · simp only [List.getElem?_toArray, List.getElem?_cons_succ, List.getElem?_cons_zero]; rfl
        · rfl
        · go_simp
        · intro v; go_simp; rfl
        go_simp
        refine ⟨HJ.out _, ?_⟩
        repeat (first | (apply Turn.seq_yes; (· simp only [List.getElem?_toArray, List.getElem?_cons_succ, List.getElem?_cons_zero]; rfl); (· rfl); (· go_simp); (· intro w1 h1; go_simp; exact ⟨rfl, rfl, h1⟩); (· go_simp; rfl)) | (apply Turn.seq_yes; (· simp only [List.getElem?_toArray, List.getElem?_cons_succ, List.getElem?_cons_zero]; rfl); (· rfl); (· go_simp); (· intro w1 h1; go_simp; exact ⟨rfl, h1⟩); (· go_simp; rfl)) | (apply Turn.seq_no; (· simp only [List.getElem?_toArray, List.getElem?_cons_succ, List.getElem?_cons_zero]; rfl); (· go_simp); (· go_simp; rfl)))
        apply Turn.seq_nil
        go_wp2_with fail
        have hA2 := (((HA1.out.set 0 rfl 0 (.int .i64 2)).set 0 rfl 1 (.string (str (c :: r)))).set 0 rfl 2 (.int .i64 k)).set 0 rfl 3 (.int .i64 0)
        have hA3 := hA2.drew
        refine bodyPost_ret (results_cell_tmp rfl _ _ (hA3.row 0 rfl) rfl Tryd.underlying32 rfl infoPc) rfl ?_
        have hk := HKN.out
        have hb : (known (c :: r)).isSome = (Lib.decDigits k == r) := by rw [hk]; by_cases e : Lib.decDigits k = r <;> simp [e] <;> omega
        refine ⟨.agg ⟨pcC 2 (c :: r) k 0⟩, ?_, ⟨2, k, rfl, fun x hx => ?_⟩, hA3.below⟩
        · rw [hb]; rfl
        · rw [hx] at hk; split at hk
          · cases hk; exact ⟨rfl, rfl⟩
          · cases hk
      · have d16 : decide (k < 16) = false := decide_eq_false h16
        have d17 : ((k : Int) < 16) = False := by simp; omega
        go_wp2_with fail
        refine Turn.region_seq [0, 1, 2, 3, 4, 5, 6, 7, 9, 10, 8, 11, 12, 13, 14] (fun i => i == 8 || i == 13) J (by kernel_rfl) (by kernel_rfl) (HJ.out _) ?_
        repeat (first | (apply Turn.seq_yes; (· simp only [List.getElem?_toArray, List.getElem?_cons_succ, List.getElem?_cons_zero]; rfl); (· rfl); (· go_simp); (· intro w1 h1; go_simp; exact ⟨rfl, rfl, h1⟩); (· go_simp; rfl)) | (apply Turn.seq_yes; (· simp only [List.getElem?_toArray, List.getElem?_cons_succ, List.getElem?_cons_zero]; rfl); (· rfl); (· go_simp); (· intro w1 h1; go_simp; exact ⟨rfl, h1⟩); (· go_simp; rfl)) | (apply Turn.seq_no; (· simp only [List.getElem?_toArray, List.getElem?_cons_succ, List.getElem?_cons_zero]; rfl); (· go_simp); (· go_simp; rfl)))
        apply Turn.seq_call
        · simp only [List.getElem?_toArray, List.getElem?_cons_succ, List.getElem?_cons_zero]; rfl
        · rfl
        · go_simp
        · intro v; go_simp; rfl
        go_simp
        refine ⟨HJ.out _, ?_⟩
        repeat (first | (apply Turn.seq_yes; (· simp only [List.getElem?_toArray, List.getElem?_cons_succ, List.getElem?_cons_zero]; rfl); (· rfl); (· go_simp); (· intro w1 h1; go_simp; exact ⟨rfl, rfl, h1⟩); (· go_simp; rfl)) | (apply Turn.seq_yes; (· simp only [List.getElem?_toArray, List.getElem?_cons_succ, List.getElem?_cons_zero]; rfl); (· rfl); (· go_simp); (· intro w1 h1; go_simp; exact ⟨rfl, h1⟩); (· go_simp; rfl)) | (apply Turn.seq_no; (· simp only [List.getElem?_toArray, List.getElem?_cons_succ, List.getElem?_cons_zero]; rfl); (· go_simp); (· go_simp; rfl)))
        apply Turn.seq_nil
        go_wp2_with fail
        have hA2 := (((HA1.out.set 0 rfl 0 (.int .i64 2)).set 0 rfl 1 (.string (str (c :: r)))).set 0 rfl 2 (.int .i64 k)).set 0 rfl 3 (.int .i64 0)
        have hA3 := hA2.drew
        refine bodyPost_ret (results_cell_tmp rfl _ _ (hA3.row 0 rfl) rfl Tryd.underlying32 rfl infoPc) rfl ?_
        have hk := HKN.out
        have hb : (known (c :: r)).isSome = false := by rw [hk, if_neg (fun h => h16 (Int.ofNat_lt.1 h.1))]; rfl
        refine ⟨.agg ⟨pcC 2 (c :: r) k 0⟩, ?_, ⟨2, k, rfl, fun x hx => ?_⟩, hA3.below⟩
        · rw [hb]; rfl
        · rw [hx, if_neg (by omega)] at hk; cases hk
    · have HA1 := Lib.hid (HA0.out.call hb)
      have HE1 := Lib.hid (HE0.out.below HA1.out.below)
      have hkn := named_word HL.out (fun _ n h => hat n h)
      have HKN := Lib.hid hkn
      clear hat hb hkn
      obtain ⟨z, hz, zlt, zle⟩ := HA1.out.rules _ (List.mem_cons_self ..)
      have z0 : w1.cell? ⟨w.heap.size, 0, none⟩ = some (.int .i64 0) := z 0
      have z1 : w1.cell? ⟨w.heap.size, 1, none⟩ = some (.string ⟨#[]⟩) := z 1
      have z2 : w1.cell? ⟨w.heap.size, 2, none⟩ = some (.int .i64 0) := z 2
      have z3 : w1.cell? ⟨w.heap.size, 3, none⟩ = some (.int .i64 0) := z 3
      clear z
      go_wp2_with fail
      refine (HC.out w1 HE1.out).mono ?_
      rintro e w2 ⟨rfl, rfl⟩
      go_wp2_with fail
      have hA2 := (((HA1.out.set 0 rfl 0 (.int .i64 1)).set 0 rfl 1 (.string (str (c :: r)))).set 0 rfl 2 (.int .i64 0)).set 0 rfl 3 (.int .i64 0)
      have hA3 := hA2
      refine bodyPost_ret (results_cell_tmp rfl _ _ (hA3.row 0 rfl) rfl Tryd.underlying32 rfl infoPc) rfl ?_
      have hk := HKN.out
      have hb : (known (c :: r)).isSome = Lib.contains wordsText (32 :: (c :: r ++ [32])) := by rw [hk]; cases Lib.contains wordsText (32 :: (c :: r ++ [32])) <;> rfl
      refine ⟨.agg ⟨pcC 1 (c :: r) 0 0⟩, ?_, ⟨1, 0, rfl, fun x hx => ?_⟩, hA3.below⟩
      · rw [hb]; rfl
      · rw [hx] at hk; split at hk
        · cases hk; exact ⟨rfl, rfl⟩
        · cases hk
  · go_enter Tryd.func32, Tryd.ntmps32
    go_wp2_with fail
    refine (HA.out _ (HE0.out.below HA0.out.below)).mono ?_
    rintro e w1 ⟨m, ev, rfl, hb, ⟨rfl, hat⟩ | ⟨⟨p, rfl⟩, hat⟩⟩
    · have HA1 := Lib.hid (HA0.out.call hb)
      have h0 := atoi_pos (fun x hx => HL.out x (List.mem_cons_of_mem _ hx)) hat
      obtain ⟨k, rfl⟩ : ∃ k : Nat, m = k := ⟨m.toNat, by omega⟩
      have hkn := named_role (c := c) (r := r) (n := k) (by rw [HK.out]; decide) (fun x hx => HL.out x (List.mem_cons_of_mem _ hx)) hat
      rw [HK.out, show ((k : Int)).toNat = k from rfl] at hkn
      have HKN := Lib.hid hkn
      clear hat hb hkn h0
      obtain ⟨z, hz, zlt, zle⟩ := HA1.out.rules _ (List.mem_cons_self ..)
      have z0 : w1.cell? ⟨w.heap.size, 0, none⟩ = some (.int .i64 0) := z 0
      have z1 : w1.cell? ⟨w.heap.size, 1, none⟩ = some (.string ⟨#[]⟩) := z 1
      have z2 : w1.cell? ⟨w.heap.size, 2, none⟩ = some (.int .i64 0) := z 2
      have z3 : w1.cell? ⟨w.heap.size, 3, none⟩ = some (.int .i64 0) := z 3
      clear z
      by_cases h16 : k < 16
      · have d16 : decide (k < 16) = true := decide_eq_true h16
        have d17 : ((k : Int) < 16) = True := by simp; omega
        have HI := Lib.hid (itoa_calls k h16)
        go_wp2_with fail
        refine Turn.region_seq [0, 1, 2, 3, 4, 5, 6, 7, 9, 10, 8, 11, 12, 13, 14] (fun i => i == 8 || i == 13) J (by kernel_rfl) (by kernel_rfl) (HJ.out _) ?_
        repeat (first | (apply Turn.seq_yes; (· simp only [List.getElem?_toArray, List.getElem?_cons_succ, List.getElem?_cons_zero]; rfl); (· rfl); (· go_simp); (· intro w1 h1; go_simp; exact ⟨rfl, rfl, h1⟩); (· go_simp; rfl)) | (apply Turn.seq_yes; (· simp only [List.getElem?_toArray, List.getElem?_cons_succ, List.getElem?_cons_zero]; rfl); (· rfl); (· go_simp); (· intro w1 h1; go_simp; exact ⟨rfl, h1⟩); (· go_simp; rfl)) | (apply Turn.seq_no; (· simp only [List.getElem?_toArray, List.getElem?_cons_succ, List.getElem?_cons_zero]; rfl); (· go_simp); (· go_simp; rfl)))
        apply Turn.seq_call
        · simp only [List.getElem?_toArray, List.getElem?_cons_succ, List.getElem?_cons_zero]; rfl
        · rfl
        · go_simp
        · intro v; go_simp; rfl
        go_simp
        refine (HI.out _).mono ?_
        rintro e w2 ⟨rfl, rfl⟩
        refine ⟨_, rfl, HJ.out _, ?_⟩
        repeat (first | (apply Turn.seq_yes; (· simp only [List.getElem?_toArray, List.getElem?_cons_succ, List.getElem?_cons_zero]; rfl); (· rfl); (· go_simp); (· intro w1 h1; go_simp; exact ⟨rfl, rfl, h1⟩); (· go_simp; rfl)) | (apply Turn.seq_yes; (· simp only [List.getElem?_toArray, List.getElem?_cons_succ, List.getElem?_cons_zero]; rfl); (· rfl); (· go_simp); (· intro w1 h1; go_simp; exact ⟨rfl, h1⟩); (· go_simp; rfl)) | (apply Turn.seq_no; (· simp only [List.getElem?_toArray, List.getElem?_cons_succ, List.getElem?_cons_zero]; rfl); (· go_simp); (· go_simp; rfl)))
        apply Turn.seq_call
        · simp only [List.getElem?_toArray, List.getElem?_cons_succ, List.getElem?_cons_zero]; rfl
        · rfl
        · go_simp
        · intro v; go_simp; rfl
        go_simp
        refine ⟨HJ.out _, ?_⟩
        repeat (first | (apply Turn.seq_yes; (· simp only [List.getElem?_toArray, List.getElem?_cons_succ, List.getElem?_cons_zero]; rfl); (· rfl); (· go_simp); (· intro w1 h1; go_simp; exact ⟨rfl, rfl, h1⟩); (· go_simp; rfl)) | (apply Turn.seq_yes; (· simp only [List.getElem?_toArray, List.getElem?_cons_succ, List.getElem?_cons_zero]; rfl); (· rfl); (· go_simp); (· intro w1 h1; go_simp; exact ⟨rfl, h1⟩); (· go_simp; rfl)) | (apply Turn.seq_no; (· simp only [List.getElem?_toArray, List.getElem?_cons_succ, List.getElem?_cons_zero]; rfl); (· go_simp); (· go_simp; rfl)))
        apply Turn.seq_nil
        go_wp2_with fail
        have hA2 := (((HA1.out.set 0 rfl 0 (.int .i64 3)).set 0 rfl 1 (.string (str (c :: r)))).set 0 rfl 2 (.int .i64 k)).set 0 rfl 3 (.int .i64 0)
        have hA3 := hA2.drew
        refine bodyPost_ret (results_cell_tmp rfl _ _ (hA3.row 0 rfl) rfl Tryd.underlying32 rfl infoPc) rfl ?_
        have hk := HKN.out
        have hb : (known (c :: r)).isSome = (Lib.decDigits k == r) := by rw [hk]; by_cases e : Lib.decDigits k = r <;> simp [e] <;> omega
        refine ⟨.agg ⟨pcC 3 (c :: r) k 0⟩, ?_, ⟨3, k, rfl, fun x hx => ?_⟩, hA3.below⟩
        · rw [hb]; rfl
        · rw [hx] at hk; split at hk
          · cases hk; exact ⟨rfl, rfl⟩
          · cases hk
      · have d16 : decide (k < 16) = false := decide_eq_false h16
        have d17 : ((k : Int) < 16) = False := by simp; omega
        go_wp2_with fail
        refine Turn.region_seq [0, 1, 2, 3, 4, 5, 6, 7, 9, 10, 8, 11, 12, 13, 14] (fun i => i == 8 || i == 13) J (by kernel_rfl) (by kernel_rfl) (HJ.out _) ?_
        repeat (first | (apply Turn.seq_yes; (· simp only [List.getElem?_toArray, List.getElem?_cons_succ, List.getElem?_cons_zero]; rfl); (· rfl); (· go_simp); (· intro w1 h1; go_simp; exact ⟨rfl, rfl, h1⟩); (· go_simp; rfl)) | (apply Turn.seq_yes; (· simp only [List.getElem?_toArray, List.getElem?_cons_succ, List.getElem?_cons_zero]; rfl); (· rfl); (· go_simp); (· intro w1 h1; go_simp; exact ⟨rfl, h1⟩); (· go_simp; rfl)) | (apply Turn.seq_no; (· simp only [List.getElem?_toArray, List.getElem?_cons_succ, List.getElem?_cons_zero]; rfl); (· go_simp); (· go_simp; rfl)))
        apply Turn.seq_call
        · simp only [List.getElem?_toArray, List.getElem?_cons_succ, List.getElem?_cons_zero]; rfl
        · rfl
        · go_simp
        · intro v; go_simp; rfl
        go_simp
        refine ⟨HJ.out _, ?_⟩
        repeat (first | (apply Turn.seq_yes; (· simp only [List.getElem?_toArray, List.getElem?_cons_succ, List.getElem?_cons_zero]; rfl); (· rfl); (· go_simp); (· intro w1 h1; go_simp; exact ⟨rfl, rfl, h1⟩); (· go_simp; rfl)) | (apply Turn.seq_yes; (· simp only [List.getElem?_toArray, List.getElem?_cons_succ, List.getElem?_cons_zero]; rfl); (· rfl); (· go_simp); (· intro w1 h1; go_simp; exact ⟨rfl, h1⟩); (· go_simp; rfl)) | (apply Turn.seq_no; (· simp only [List.getElem?_toArray, List.getElem?_cons_succ, List.getElem?_cons_zero]; rfl); (· go_simp); (· go_simp; rfl)))
        apply Turn.seq_nil
        go_wp2_with fail
        have hA2 := (((HA1.out.set 0 rfl 0 (.int .i64 3)).set 0 rfl 1 (.string (str (c :: r)))).set 0 rfl 2 (.int .i64 k)).set 0 rfl 3 (.int .i64 0)
        have hA3 := hA2.drew
        refine bodyPost_ret (results_cell_tmp rfl _ _ (hA3.row 0 rfl) rfl Tryd.underlying32 rfl infoPc) rfl ?_
        have hk := HKN.out
        have hb : (known (c :: r)).isSome = false := by rw [hk, if_neg (fun h => h16 (Int.ofNat_lt.1 h.1))]; rfl
        refine ⟨.agg ⟨pcC 3 (c :: r) k 0⟩, ?_, ⟨3, k, rfl, fun x hx => ?_⟩, hA3.below⟩
        · rw [hb]; rfl
        · rw [hx, if_neg (by omega)] at hk; cases hk
    · have HA1 := Lib.hid (HA0.out.call hb)
      have HE1 := Lib.hid (HE0.out.below HA1.out.below)
      have hkn := named_word HL.out (fun _ n h => hat n h)
      have HKN := Lib.hid hkn
      clear hat hb hkn
      obtain ⟨z, hz, zlt, zle⟩ := HA1.out.rules _ (List.mem_cons_self ..)
      have z0 : w1.cell? ⟨w.heap.size, 0, none⟩ = some (.int .i64 0) := z 0
      have z1 : w1.cell? ⟨w.heap.size, 1, none⟩ = some (.string ⟨#[]⟩) := z 1
      have z2 : w1.cell? ⟨w.heap.size, 2, none⟩ = some (.int .i64 0) := z 2
      have z3 : w1.cell? ⟨w.heap.size, 3, none⟩ = some (.int .i64 0) := z 3
      clear z
      go_wp2_with fail
      refine (HC.out w1 HE1.out).mono ?_
      rintro e w2 ⟨rfl, rfl⟩
      go_wp2_with fail
      have hA2 := (((HA1.out.set 0 rfl 0 (.int .i64 1)).set 0 rfl 1 (.string (str (c :: r)))).set 0 rfl 2 (.int .i64 0)).set 0 rfl 3 (.int .i64 0)
      have hA3 := hA2
      refine bodyPost_ret (results_cell_tmp rfl _ _ (hA3.row 0 rfl) rfl Tryd.underlying32 rfl infoPc) rfl ?_
      have hk := HKN.out
      have hb : (known (c :: r)).isSome = Lib.contains wordsText (32 :: (c :: r ++ [32])) := by rw [hk]; cases Lib.contains wordsText (32 :: (c :: r ++ [32])) <;> rfl
      refine ⟨.agg ⟨pcC 1 (c :: r) 0 0⟩, ?_, ⟨1, 0, rfl, fun x hx => ?_⟩, hA3.below⟩
      · rw [hb]; rfl
      · rw [hx] at hk; split at hk
        · cases hk; exact ⟨rfl, rfl⟩
        · cases hk
  · go_enter Tryd.func32, Tryd.ntmps32
    go_wp2_with fail
    refine (HA.out _ (HE0.out.below HA0.out.below)).mono ?_
    rintro e w1 ⟨m, ev, rfl, hb, ⟨rfl, hat⟩ | ⟨⟨p, rfl⟩, hat⟩⟩
    · have HA1 := Lib.hid (HA0.out.call hb)
      have HE1 := Lib.hid (HE0.out.below HA1.out.below)
      have hkn := named_word HL.out (fun _ n h => absurd HK.out (by assumption))
      have HKN := Lib.hid hkn
      clear hat hb hkn
      obtain ⟨z, hz, zlt, zle⟩ := HA1.out.rules _ (List.mem_cons_self ..)
      have z0 : w1.cell? ⟨w.heap.size, 0, none⟩ = some (.int .i64 0) := z 0
      have z1 : w1.cell? ⟨w.heap.size, 1, none⟩ = some (.string ⟨#[]⟩) := z 1
      have z2 : w1.cell? ⟨w.heap.size, 2, none⟩ = some (.int .i64 0) := z 2
      have z3 : w1.cell? ⟨w.heap.size, 3, none⟩ = some (.int .i64 0) := z 3
      clear z
      go_wp2_with fail
      refine (HC.out w1 HE1.out).mono ?_
      rintro e w2 ⟨rfl, rfl⟩
      go_wp2_with fail
      have hA2 := (((HA1.out.set 0 rfl 0 (.int .i64 1)).set 0 rfl 1 (.string (str (c :: r)))).set 0 rfl 2 (.int .i64 0)).set 0 rfl 3 (.int .i64 0)
      have hA3 := hA2
      refine bodyPost_ret (results_cell_tmp rfl _ _ (hA3.row 0 rfl) rfl Tryd.underlying32 rfl infoPc) rfl ?_
      have hk := HKN.out
      have hb : (known (c :: r)).isSome = Lib.contains wordsText (32 :: (c :: r ++ [32])) := by rw [hk]; cases Lib.contains wordsText (32 :: (c :: r ++ [32])) <;> rfl
      refine ⟨.agg ⟨pcC 1 (c :: r) 0 0⟩, ?_, ⟨1, 0, rfl, fun x hx => ?_⟩, hA3.below⟩
      · rw [hb]; rfl
      · rw [hx] at hk; split at hk
        · cases hk; exact ⟨rfl, rfl⟩
        · cases hk
    · have HA1 := Lib.hid (HA0.out.call hb)
      have HE1 := Lib.hid (HE0.out.below HA1.out.below)
      have hkn := named_word HL.out (fun _ n h => absurd HK.out (by assumption))
      have HKN := Lib.hid hkn
      clear hat hb hkn
      obtain ⟨z, hz, zlt, zle⟩ := HA1.out.rules _ (List.mem_cons_self ..)
      have z0 : w1.cell? ⟨w.heap.size, 0, none⟩ = some (.int .i64 0) := z 0
      have z1 : w1.cell? ⟨w.heap.size, 1, none⟩ = some (.string ⟨#[]⟩) := z 1
      have z2 : w1.cell? ⟨w.heap.size, 2, none⟩ = some (.int .i64 0) := z 2
      have z3 : w1.cell? ⟨w.heap.size, 3, none⟩ = some (.int .i64 0) := z 3
      clear z
      go_wp2_with fail
      refine (HC.out w1 HE1.out).mono ?_
      rintro e w2 ⟨rfl, rfl⟩
      go_wp2_with fail
      have hA2 := (((HA1.out.set 0 rfl 0 (.int .i64 1)).set 0 rfl 1 (.string (str (c :: r)))).set 0 rfl 2 (.int .i64 0)).set 0 rfl 3 (.int .i64 0)
      have hA3 := hA2
      refine bodyPost_ret (results_cell_tmp rfl _ _ (hA3.row 0 rfl) rfl Tryd.underlying32 rfl infoPc) rfl ?_
      have hk := HKN.out
      have hb : (known (c :: r)).isSome = Lib.contains wordsText (32 :: (c :: r ++ [32])) := by rw [hk]; cases Lib.contains wordsText (32 :: (c :: r ++ [32])) <;> rfl
      refine ⟨.agg ⟨pcC 1 (c :: r) 0 0⟩, ?_, ⟨1, 0, rfl, fun x hx => ?_⟩, hA3.below⟩
      · rw [hb]; rfl
      · rw [hx] at hk; split at hk
        · cases hk; exact ⟨rfl, rfl⟩
        · cases hk
end Go.Proofs.YtdlfdkdcnabpoaaDoor.Lx
