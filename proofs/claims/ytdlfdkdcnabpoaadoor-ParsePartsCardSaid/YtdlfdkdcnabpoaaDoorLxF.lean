/- Layer 16: the document's table. -/
import Derived.Test.YtdlfdkdcnabpoaaDoorLxE
namespace Go.Proofs.YtdlfdkdcnabpoaaDoor.Lx
set_option linter.unusedSimpArgs false
set_option linter.unusedVariables false
open Go.RowKit
open _root_.Go.Proofs.YtdlfdkdcnabpoaaDoor.Own
attribute [local go_sem] str_size str_extract str_append str_toList
def roles (k : Nat) : List Pc := (List.range k).flatMap fun n => [⟨2, 114 :: num n, n, 0⟩, ⟨3, 116 :: num n, n, 0⟩]
theorem roles_succ (k : Nat) : roles (k + 1) = roles k ++ [⟨2, 114 :: num k, k, 0⟩, ⟨3, 116 :: num k, k, 0⟩] := by simp [roles, List.range_succ]
def some_ (kind : Nat) (ts : List (List UInt8)) (k : Nat) : List Pc := (List.range k).map fun i => ⟨kind, ts.getD i [], 0, 0⟩
theorem some_succ (kind : Nat) (ts : List (List UInt8)) (k : Nat) : some_ kind ts (k + 1) = some_ kind ts k ++ [⟨kind, ts.getD k [], 0, 0⟩] := by simp [some_, List.range_succ]
/-- The table as pieces. -/
def tab : List Pc := table.map fun x => ⟨x.1, x.2.1, x.2.2, 0⟩
set_option maxRecDepth 100000 in
theorem tab_eq : (roles 16 ++ some_ 1 words 9) ++ some_ 4 signs 6 = tab := by decide
theorem infoR : (Tryd.prog.info? 31).map (fun i => (i.zero, i.size, i.bytes)) = some (some (.agg #[.int .i64 0, .string ⟨#[]⟩, .int .i64 0, .int .i64 0]), 4, 40) := by kernel_rfl
theorem hasN_row {base : Nat} {e : TypeId} {sz : Nat} {v : Value} {n : Nat} {xs : List Value} {w : World} (h : HasN base e sz v n xs w) {g : Nat} (hg : v.ownBlock = some g) : ∃ cur, w.heap[g]? = some (.cells cur e (0, 0)) := by
  obtain ⟨h1, ⟨rfl, rfl⟩ | ⟨g', cap, cur, rfl, hb, hg', hn, hc, hs, ht⟩⟩ := h
  · cases hg
  · cases hg
    exact ⟨cur, hg'⟩
/-- A block of another type is not the row that grows. -/
theorem keep_row {A B : World} {base : Nat} {e : TypeId} {sz : Nat} {v : Value} {n : Nat} {xs : List Value} (hO : HasN base e sz v n xs A) (hg : A.grownBy B v.ownBlock) {g : Nat} {cs : Array Value} {t : TypeId} {fr : Nat × Nat} (ht : t ≠ e) (h : A.heap[g]? = some (.cells cs t fr)) :
    B.heap[g]? = some (.cells cs t fr) :=
  (hg.block g (blk_lt h) (fun q => by
    obtain ⟨cur, hc⟩ := hasN_row hO q.symm
    rw [h] at hc
    cases hc
    exact ht rfl)).trans h
theorem cells_pair (a b : Pc) : cells [a, b] = pcC a.kind a.text a.n a.pos ++ pcC b.kind b.text b.n b.pos := by simp [cells]
theorem cells_one (a : Pc) : cells [a] = pcC a.kind a.text a.n a.pos := by simp [cells]
def strs (ts : List (List UInt8)) : List Value := ts.map fun t => .string (str t)
theorem strs_at (ts : List (List UInt8)) (k : Nat) (h : k < ts.length) : (strs ts)[k]? = some (.string (str (ts.getD k []))) := by
  simp [strs, h]
theorem add0 (g k : Nat) : (⟨g, 0, none⟩ : Addr).add k = ⟨g, k, none⟩ := by unfold Addr.add; split <;> simp_all
set_option maxRecDepth 10000 in
set_option maxHeartbeats 4000000 in
theorem Table_calls (w : World) : Calls Tryd.prog 13 #[] w fun e w' => ∃ v, e = .returned v ∧ HasN w.heap.size 31 4 v 47 (cells tab) w' ∧ Below w.heap.size w w' := by
  go_enter Tryd.func13, Tryd.ntmps13
  go_wp2_with fail
  go_loopw [1, 2] (fun v1 v2 wr => ∃ k : Nat, k ≤ 16 ∧ v2 = .int .i64 k ∧ Hid (HasN w.heap.size 31 4 v1 (2 * k) (cells (roles k)) wr) ∧ Hid (Below w.heap.size w wr)) (fun _ v2 _ => 16 - (intOf v2).toNat)
  case atStart => exact ⟨0, by omega, rfl, Lib.hid (HasN.nil _ _ _ _), Lib.hid (Below.refl _ _)⟩
  case round =>
    obtain ⟨k, hk, rfl, HO, HB⟩ := hrel
    by_cases hlt : k < 16
    · have d1 : decide (k < 16) = true := decide_eq_true hlt
      have d2 : ((k : Int) < 16) = True := by simp; omega
      have HN := Lib.hid (Num_calls k hlt)
      have hl := num_len k
      have ha1 : ∀ w, (Op.stringOp .add ⟨#[114]⟩ (str (num k))).run Tryd.prog w = .ok (.string (str (114 :: num k))) w := fun w => run_string_add_lists w [114] (num k) (by simp) (by omega)
      have ha2 : ∀ w, (Op.stringOp .add ⟨#[116]⟩ (str (num k))).run Tryd.prog w = .ok (.string (str (116 :: num k))) w := fun w => run_string_add_lists w [116] (num k) (by simp) (by omega)
      have HO1 := Lib.hid (HO.out.alloc (.cells ⟨pcC 2 (114 :: num k) k 0 ++ pcC 3 (116 :: num k) k 0⟩ 31))
      go_wp2_with (first | (go_at_call 26; refine (HN.out _).mono ?_; rintro e w1 ⟨rfl, rfl⟩) | (at_builtin; refine wpList_appN rfl _ _ 27 rfl w.heap.size 31 _ 4 40 Tryd.underlying27 infoR rfl (by decide) _ (2 * k) (cells (roles k)) rfl HO1.out ⟨wr.heap.size, 0, none⟩ 2 2 (pcC 2 (114 :: num k) k 0 ++ pcC 3 (116 :: num k) k 0) rfl rfl ?hRd ?h1 ?hCap ?hCap2 ?hBase ?_))
      case hRd => exact Rd.put _ rfl (pcC 2 (114 :: num k) k 0 ++ pcC 3 (116 :: num k) k 0) _ _
      case h1 =>
        intro u hu
        rcases List.mem_append.1 hu with hu | hu
        · exact pcC_one _ _ _ _ u hu
        · exact pcC_one _ _ _ _ u hu
      case hCap => unfold maxLen; omega
      case hCap2 => omega
      case hBase => have := HB.out.size; rw [World.size_alloc]; omega
      intro v3 w3 ho hg
      have HO3 : Hid (HasN w.heap.size 31 4 v3 (2 * (k + 1)) (cells (roles (k + 1))) w3) := Lib.hid (by rw [roles_succ, cells_append, cells_pair]; exact ho)
      have HB3 := Lib.hid (below_row (HB.out.alloc HB.out.size _) hg (fun k hk => (HO.out.blk k hk).1) (by have := HB.out.size; rw [World.size_alloc]; omega))
      clear ho hg HO1 HO HB
      go_wp2_with fail
      go_roundw
      case rel => exact ⟨k + 1, by omega, by go_num, HO3, HB3⟩
      case measure => simp only [intOf]; omega
    · have e16 : k = 16 := by omega
      have d1 : decide (k < 16) = false := decide_eq_false hlt
      have d2 : ((k : Int) < 16) = False := by simp; omega
      have HO' : Hid (HasN w.heap.size 31 4 u1 32 (cells (roles 16)) wr) := Lib.hid (by have := HO.out; rw [e16] at this; exact this)
      clear hlt hk HO e16
      have HO := HO'
      clear HO'
      obtain ⟨g, hgs⟩ : ∃ g, wr.heap.size = g := ⟨_, rfl⟩
      have hg0 : w.heap.size ≤ g := by have := HB.out.size; omega
      have HG1 : Hid ((wr.alloc (.cells ⟨strs words⟩ 9)).heap[g]? = some (.cells ⟨strs words⟩ 9 (0, 0))) := Lib.hid (by rw [← hgs]; exact heap_alloc_new _ _)
      have HOs1 := Lib.hid (HO.out.alloc (.cells ⟨strs words⟩ 9))
      have HBs1 := Lib.hid (HB.out.alloc HB.out.size (.cells ⟨strs words⟩ 9))
      go_wp2_with fail
      clear hgs
      go_loopw [1, 4] (fun v1 v2 wr => ∃ k : Nat, k ≤ 9 ∧ v2 = .int .i64 k ∧ Hid (HasN w.heap.size 31 4 v1 (32 + k) (cells (roles 16 ++ some_ 1 words k)) wr) ∧ Hid (Below w.heap.size w wr) ∧ Hid (wr.heap[g]? = some (.cells ⟨strs words⟩ 9 (0, 0)))) (fun _ v2 _ => 9 - (intOf v2).toNat)
      case atStart => exact ⟨0, by omega, rfl, Lib.hid (by rw [show some_ 1 words 0 = [] from rfl, List.append_nil]; exact HOs1.out), HBs1, HG1⟩
      case round =>
        clear HO HB HOs1 HBs1 HG1
        obtain ⟨k, hk, rfl, HO, HB, HG⟩ := hrel
        by_cases hlt : k < 9
        · have d1 : decide (k < 9) = true := decide_eq_true hlt
          have d2 : ((k : Int) < 9) = True := by simp; omega
          obtain ⟨t, ht⟩ : ∃ t, words.getD k [] = t := ⟨_, rfl⟩
          have z1 : wr.cell? ⟨g, k, none⟩ = some (.string (str t)) := (cell_of_row wr g k _ _ _ HG.out).trans (by rw [← ht]; simpa using strs_at words k hlt)
          have z2 : wr.cell? ((⟨g, 0, none⟩ : Addr).add k) = some (.string (str t)) := by rw [add0]; exact z1
          have HO1 := Lib.hid (HO.out.alloc (.cells ⟨pcC 1 t 0 0⟩ 31))
          have hgx : g < wr.heap.size := blk_lt HG.out
          go_wp2_with (at_builtin; refine wpList_appN rfl _ _ 27 rfl w.heap.size 31 _ 4 40 Tryd.underlying27 infoR rfl (by decide) _ (32 + k) (cells (roles 16 ++ some_ 1 words k)) rfl HO1.out ⟨wr.heap.size, 0, none⟩ 1 1 (pcC 1 t 0 0) rfl rfl ?hRd ?h1 ?hCap ?hCap2 ?hBase ?_)
          case hRd => exact Rd.put _ rfl (pcC 1 t 0 0) _ _
          case h1 => exact pcC_one _ _ _ _
          case hCap => unfold maxLen; omega
          case hCap2 => omega
          case hBase => have := HB.out.size; rw [World.size_alloc]; omega
          intro v3 w3 ho hg
          have HO3 : Hid (HasN w.heap.size 31 4 v3 (32 + (k + 1)) (cells (roles 16 ++ some_ 1 words (k + 1))) w3) := Lib.hid (by rw [some_succ, ← List.append_assoc, cells_append, cells_one, ht]; exact ho)
          have HB3 := Lib.hid (below_row (HB.out.alloc HB.out.size _) hg (fun k hk => (HO.out.blk k hk).1) (by have := HB.out.size; rw [World.size_alloc]; omega))
          have HG3 : Hid (w3.heap[g]? = some (.cells ⟨strs words⟩ 9 (0, 0))) := Lib.hid (keep_row HO1.out hg (by decide) ((Below.heap_alloc _ _ _ hgx).trans HG.out))
          clear ho hg HO1 HO HB HG z1 z2
          go_wp2_with fail
          go_roundw
          case rel => exact ⟨k + 1, by omega, by go_num, HO3, HB3, HG3⟩
          case measure => simp only [intOf]; omega
        · have e9 : k = 9 := by omega
          have d1 : decide (k < 9) = false := decide_eq_false hlt
          have d2 : ((k : Int) < 9) = False := by simp; omega
          obtain ⟨sf, hsf⟩ : ∃ sf, roles 16 ++ some_ 1 words 9 = sf := ⟨_, rfl⟩
          have HSF := Lib.hid hsf
          have HO' : Hid (HasN w.heap.size 31 4 u1 41 (cells sf) wr) := Lib.hid (by have := HO.out; rw [e9, hsf] at this; exact this)
          clear hlt hk HO e9 hsf
          have HO := HO'
          clear HO'
          obtain ⟨g2, hgs⟩ : ∃ g2, wr.heap.size = g2 := ⟨_, rfl⟩
          have hg0 : w.heap.size ≤ g2 := by have := HB.out.size; omega
          have HG4 : Hid ((wr.alloc (.cells ⟨strs signs⟩ 9)).heap[g2]? = some (.cells ⟨strs signs⟩ 9 (0, 0))) := Lib.hid (by rw [← hgs]; exact heap_alloc_new _ _)
          have HOs4 := Lib.hid (HO.out.alloc (.cells ⟨strs signs⟩ 9))
          have HBs4 := Lib.hid (HB.out.alloc HB.out.size (.cells ⟨strs signs⟩ 9))
          go_wp2_with fail
          clear hgs
          go_loopw [1, 6] (fun v1 v2 wr => ∃ k : Nat, k ≤ 6 ∧ v2 = .int .i64 k ∧ Hid (HasN w.heap.size 31 4 v1 (41 + k) (cells (sf ++ some_ 4 signs k)) wr) ∧ Hid (Below w.heap.size w wr) ∧ Hid (wr.heap[g2]? = some (.cells ⟨strs signs⟩ 9 (0, 0)))) (fun _ v2 _ => 6 - (intOf v2).toNat)
          case atStart => exact ⟨0, by omega, rfl, Lib.hid (by rw [show some_ 4 signs 0 = [] from rfl, List.append_nil]; exact HOs4.out), HBs4, HG4⟩
          case round =>
            clear HO HB HOs4 HBs4 HG4
            obtain ⟨k, hk, rfl, HO, HB, HG⟩ := hrel
            by_cases hlt : k < 6
            · have d1 : decide (k < 6) = true := decide_eq_true hlt
              have d2 : ((k : Int) < 6) = True := by simp; omega
              obtain ⟨t, ht⟩ : ∃ t, signs.getD k [] = t := ⟨_, rfl⟩
              have z1 : wr.cell? ⟨g2, k, none⟩ = some (.string (str t)) := (cell_of_row wr g2 k _ _ _ HG.out).trans (by rw [← ht]; simpa using strs_at signs k hlt)
              have z2 : wr.cell? ((⟨g2, 0, none⟩ : Addr).add k) = some (.string (str t)) := by rw [add0]; exact z1
              have HO1 := Lib.hid (HO.out.alloc (.cells ⟨pcC 4 t 0 0⟩ 31))
              have hgx : g2 < wr.heap.size := blk_lt HG.out
              go_wp2_with (at_builtin; refine wpList_appN rfl _ _ 27 rfl w.heap.size 31 _ 4 40 Tryd.underlying27 infoR rfl (by decide) _ (41 + k) (cells (sf ++ some_ 4 signs k)) rfl HO1.out ⟨wr.heap.size, 0, none⟩ 1 1 (pcC 4 t 0 0) rfl rfl ?hRd ?h1 ?hCap ?hCap2 ?hBase ?_)
              case hRd => exact Rd.put _ rfl (pcC 4 t 0 0) _ _
              case h1 => exact pcC_one _ _ _ _
              case hCap => unfold maxLen; omega
              case hCap2 => omega
              case hBase => have := HB.out.size; rw [World.size_alloc]; omega
              intro v3 w3 ho hg
              have HO3 : Hid (HasN w.heap.size 31 4 v3 (41 + (k + 1)) (cells (sf ++ some_ 4 signs (k + 1))) w3) := Lib.hid (by rw [some_succ, ← List.append_assoc, cells_append, cells_one, ht]; exact ho)
              have HB3 := Lib.hid (below_row (HB.out.alloc HB.out.size _) hg (fun k hk => (HO.out.blk k hk).1) (by have := HB.out.size; rw [World.size_alloc]; omega))
              have HG3 : Hid (w3.heap[g2]? = some (.cells ⟨strs signs⟩ 9 (0, 0))) := Lib.hid (keep_row HO1.out hg (by decide) ((Below.heap_alloc _ _ _ hgx).trans HG.out))
              clear ho hg HO1 HO HB HG z1 z2
              go_wp2_with fail
              go_roundw
              case rel => exact ⟨k + 1, by omega, by go_num, HO3, HB3, HG3⟩
              case measure => simp only [intOf]; omega
            · obtain rfl : k = 6 := by omega
              clear hlt hk
              go_wp2_with fail
              go_ret
              rw [← HSF.out, tab_eq] at HO
              exact ⟨_, rfl, HO.out, HB.out⟩
end Go.Proofs.YtdlfdkdcnabpoaaDoor.Lx
