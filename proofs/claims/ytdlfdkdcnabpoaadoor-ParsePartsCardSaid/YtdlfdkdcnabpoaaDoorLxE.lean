/- Layer 16: Pieces. -/
import Derived.Test.YtdlfdkdcnabpoaaDoorLxD
import Derived.ScopeJumps
import Derived.WalkMore
namespace Go.Proofs.YtdlfdkdcnabpoaaDoor.Lx
set_option linter.unusedSimpArgs false
set_option linter.unusedVariables false
open Go.RowKit
open _root_.Go.Proofs.YtdlfdkdcnabpoaaDoor.Own
attribute [local go_sem] str_size str_extract str_append str_toList
/-- Pieces as cells. -/
def cells (ps : List Pc) : List Value := ps.flatMap fun p => pcC p.kind p.text p.n p.pos
theorem cells_append (a b : List Pc) : cells (a ++ b) = cells a ++ cells b := by simp [cells]
theorem cells_length (ps : List Pc) : (cells ps).length = ps.length * 4 := by
  induction ps with
  | nil => rfl
  | cons p ps ih => rw [show cells (p :: ps) = pcC p.kind p.text p.n p.pos ++ cells ps from rfl, List.length_append, ih, List.length_cons]; simp [pcC]; omega
theorem pcC_one (k : Int) (t : List UInt8) (n a : Int) : ∀ u ∈ pcC k t n a, u.oneCell' = true := by
  intro u hu
  simp only [pcC, List.mem_cons, List.not_mem_nil, or_false] at hu
  rcases hu with rfl | rfl | rfl | rfl <;> rfl
theorem infoP : (Tryd.prog.info? 32).map (fun i => (i.zero, i.size, i.bytes)) = some (some (.agg #[.int .i64 0, .string ⟨#[]⟩, .int .i64 0, .int .i64 0]), 4, 40) := by kernel_rfl
def endPc (k : Nat) : Pc := ⟨5, [], 0, k⟩
/-- What the loop holds. -/
def Loop (s : List UInt8) (base : Nat) (w : World) (a : Act) (w' : World) : Prop :=
  ∃ (at_ : Nat) (out : List Pc) (v : Value) (u7 u8 u9 u10 u11 u12 u13 u14 u15 u16 u17 u18 u19 u20 u21 u22 u23 u24 u25 u26 u27 u28 u29 u30 u31 u32 u33 u34 u35 u36 u37 u38 u39 u40 u41 u42 u43 u44 u45 u46 u47 : Value), a = { tmps := #[.string (str s), undef, .slice none 0 0, .int .i64 0, .int .i64 0, v, .int .i64 at_, u7, u8, u9, u10, u11, u12, u13, u14, u15, u16, u17, u18, u19, u20, u21, u22, u23, u24, u25, u26, u27, u28, u29, u30, u31, u32, u33, u34, u35, u36, u37, u38, u39, u40, u41, u42, u43, u44, u45, u46, u47], defers := [] } ∧ at_ ≤ s.length ∧ out.length ≤ at_ ∧
    Hid (HasN base 32 4 v out.length (cells out) w') ∧ Hid (Below base w w') ∧ Hid (scanF 0 s = (scanF at_ (s.drop at_)).map (out ++ ·))
def atOf (a : Act) : Nat := (intOf (a.tmps.getD 6 undef)).toNat
/-- What Pieces gives back. -/
def Gave (s : List UInt8) (w : World) (e : Ending) (w' : World) : Prop :=
  ∃ v, e = .returned (.tuple #[v, .int .i64 (pieces s).2.1, .int .i64 (pieces s).2.2]) ∧ HasN w.heap.size 32 4 v (pieces s).1.length (cells (pieces s).1) w' ∧ Below w.heap.size w w'
theorem pieces_ok {s : List UInt8} (h48 : ¬ 48 < s.length) {ps : List Pc} (h : scanF 0 s = .ok ps) : pieces s = (ps, 0, 0) := by unfold pieces; rw [if_neg h48, h]
theorem pieces_err {s : List UInt8} (h48 : ¬ 48 < s.length) {a : Nat} (h : scanF 0 s = .error a) : pieces s = ([], a, 3) := by unfold pieces; rw [if_neg h48, h]
theorem gave_ok {s : List UInt8} {w w' : World} (h48 : ¬ 48 < s.length) {ps : List Pc} (h : scanF 0 s = .ok ps) {v : Value} (h1 : HasN w.heap.size 32 4 v ps.length (cells ps) w') (h2 : Below w.heap.size w w') :
    Gave s w (.returned (.tuple #[v, .int .i64 0, .int .i64 0])) w' := by
  unfold Gave
  rw [pieces_ok h48 h]
  exact ⟨v, rfl, h1, h2⟩
theorem gave_err {s : List UInt8} {w w' : World} (h48 : ¬ 48 < s.length) {a : Nat} (h : scanF 0 s = .error a) (h2 : Below w.heap.size w w') :
    Gave s w (.returned (.tuple #[.slice none 0 0, .int .i64 a, .int .i64 3])) w' := by
  unfold Gave
  rw [pieces_err h48 h]
  exact ⟨_, rfl, HasN.nil _ _ _ _, h2⟩
theorem map_next (x : Except Nat (List Pc)) (out : List Pc) (p : Pc) : (x.map (p :: ·)).map (out ++ ·) = x.map ((out ++ [p]) ++ ·) := by cases x <;> simp [Except.map]
/-- A scope whose body jumps back to one label, walked from the label on once. -/
theorem wp_scope_back {P : Program} {a : Act} {w : World} {Q : Exit → Act → World → Prop} {c X : Code} (l : Nat) (J : Act → World → Prop) (μ : Act → World → Nat) (hf : findLabel c l = some (.seq .skip X))
    (pass : ∀ a w, J a w → X.wp P (Exit.jump l (fun a' w' => J a' w' ∧ μ a' w' < μ a w) Q) a w)
    (first : Hid (∀ a w, J a w → X.wp P (Exit.jump l J Q) a w) → c.wp P (Exit.jump l J Q) a w) : (Code.scope c).wp P Q a w :=
  wp_scope_jumps l J μ hf (first (Lib.hid fun a w h => Code.wp_mono (fun e a w => by
    cases e <;> first | exact id | exact fun ⟨h1, h2, _⟩ => ⟨h1, h2⟩) (pass a w h))) (fun a w h => wp_seq (wp_skip (pass a w h)))
set_option maxRecDepth 10000 in
set_option maxHeartbeats 4000000 in
theorem Pieces_calls (s : List UInt8) (w : World) (hE : Env w) : Calls Tryd.prog 11 #[.string (str s)] w (Gave s w) := by
  by_cases h48 : 48 < s.length
  · have hp : pieces s = ([], 0, 5) := by unfold pieces; rw [if_pos h48]
    have hg : ∀ v, v = Value.slice none 0 0 → Gave s w (.returned (.tuple #[v, .int .i64 0, .int .i64 5])) w := fun v hv => by
      unfold Gave
      rw [hp, hv]
      exact ⟨_, rfl, HasN.nil _ _ _ _, Below.refl _ _⟩
    have HG := Lib.hid hg
    clear hp hg
    have d1 : decide (48 < s.length) = true := decide_eq_true h48
    have d2 : ((48 : Int) < (s.length : Int)) = True := by simp; omega
    go_enter Tryd.func11, Tryd.ntmps11
    go_wp2_with fail
    go_step3
    go_wp2_with fail
    rw [Exit.noGoto_ret]
    refine bodyPost_ret (results_tmp3 rfl _ _ _) rfl ?_
    exact HG.out _ rfl
  · have H48 := Lib.hid h48
    have HE := Lib.hid hE
    have d1 : decide (48 < s.length) = false := decide_eq_false h48
    have d2 : ((48 : Int) < (s.length : Int)) = False := by simp; omega
    clear hE h48
    go_enter Tryd.func11, Tryd.ntmps11
    go_wp2_with fail
    refine wp_scope_back 0 (Loop s w.heap.size w) (fun a _ => s.length - atOf a) rfl ?_ ?_
    · rintro a w1 ⟨k, out, v5, u7, u8, u9, u10, u11, u12, u13, u14, u15, u16, u17, u18, u19, u20, u21, u22, u23, u24, u25, u26, u27, u28, u29, u30, u31, u32, u33, u34, u35, u36, u37, u38, u39, u40, u41, u42, u43, u44, u45, u46, u47, rfl, hk, hout, HO, HB, HS⟩
      by_cases hend : k = s.length
      · subst hend
        have h63 : out.length + 1 ≤ maxLen := by have := H48.out; unfold maxLen; omega
        have HS2 : Hid (scanF 0 s = .ok (out ++ [endPc s.length])) := Lib.hid (by rw [HS.out, List.drop_length, scanF_nil]; rfl)
        clear HS
        have HO1 := Lib.hid (HO.out.alloc (.cells ⟨pcC 5 [] 0 s.length⟩ 32))
        go_wp2_with (at_builtin; refine wpList_appN rfl _ _ 23 rfl w.heap.size 32 _ 4 40 Tryd.underlying23 infoP rfl (by decide) _ out.length (cells out) rfl HO1.out ⟨w1.heap.size, 0, none⟩ 1 1 (pcC 5 [] 0 s.length) rfl rfl ?hRd ?h1 ?hCap ?hCap2 ?hBase ?_)
        case hRd => exact Rd.put _ rfl (pcC 5 [] 0 s.length) _ _
        case h1 => exact pcC_one _ _ _ _
        case hCap => exact h63
        case hCap2 => have := H48.out; omega
        case hBase => have := HB.out.size; rw [World.size_alloc]; omega
        intro v1 w2 ho hg
        have HO2 : Hid (HasN w.heap.size 32 4 v1 (out ++ [endPc s.length]).length (cells (out ++ [endPc s.length])) w2) := Lib.hid (by rw [cells_append, List.length_append]; exact ho)
        have HB2 := Lib.hid (below_row (HB.out.alloc HB.out.size _) hg (fun k hk => (HO.out.blk k hk).1) (by have := HB.out.size; rw [World.size_alloc]; omega))
        clear ho hg
        go_wp2_with fail
        simp only [Exit.jump]
        refine bodyPost_ret (results_tmp3 rfl _ _ _) rfl ?_
        exact gave_ok H48.out HS2.out HO2.out HB2.out
      · have hlt : k < s.length := by omega
        have e1 : (k == s.length) = false := beq_eq_false_iff_ne.2 hend
        have e2 : ((k : Int) == (s.length : Int)) = false := by rw [beq_eq_false_iff_ne]; omega
        obtain ⟨c, hc⟩ : ∃ c, s[k]? = some c := ⟨_, List.getElem?_eq_getElem hlt⟩
        have hx := fun w => run_byte (P := Tryd.prog) (w := w) _ Tryd.underlying9 s k c hc
        have hd : s.drop k = c :: s.drop (k + 1) := by
          obtain ⟨h1, h2⟩ := List.getElem?_eq_some_iff.1 hc
          rw [List.drop_eq_getElem_cons h1, h2]
        have e32 : (nB c == 32) = (c == 32) := nB_eq c 32
        by_cases h32 : c = 32
        · have e3 : (nB c == 32) = true := e32.trans (beq_iff_eq.2 h32)
          have HS2 : Hid (scanF 0 s = (scanF (k + 1) (s.drop (k + 1))).map (out ++ ·)) := Lib.hid (by rw [HS.out, hd, h32, scanF_blank])
          clear HS hd e32 hc
          have fw : wrap64 ((k : Int) + 1) = ((k + 1 : Nat) : Int) := by have := H48.out; simp only [wrap64]; omega
          go_wp2_with fail
          go_step3
          rw [fw]
          show (0 : Nat) = 0 ∧ Loop s w.heap.size w _ _ ∧ _
          exact ⟨rfl, ⟨k + 1, out, v5, _, _, _, _, _, _, _, _, _, _, _, _, _, _, _, _, _, _, _, _, _, _, _, _, _, _, _, _, _, _, _, _, _, _, _, _, _, _, _, _, _, rfl, hlt, by omega, HO, HB, HS2⟩, by show s.length - (k + 1) < s.length - k; omega⟩
        · have e3 : (nB c == 32) = false := e32.trans (beq_eq_false_iff_ne.2 h32)
          obtain ⟨r, hr⟩ : ∃ r, s.drop (k + 1) = r := ⟨_, rfl⟩
          rw [hr] at hd
          have hsl : ∀ w, (Instr.slice 9 (.string (str s)) (some (.int .i64 k)) none none).run Tryd.prog w = .ok (.string (str (c :: r))) w := fun w => by rw [← hd]; exact run_from _ Tryd.underlying9 s k hk
          have hrl : k + (c :: r).length = s.length := by rw [← hd, List.length_drop]; omega
          have hhl := head_len (c :: r)
          have hhp := head_pos c r
          have HNX := Lib.hid (next_calls c r (by have := H48.out; omega) w1 (HE.out.below HB.out))
          have HD := Lib.hid hd
          have HHL := Lib.hid (show (head (c :: r)).length ≤ (c :: r).length ∧ 1 ≤ (head (c :: r)).length ∧ k + (c :: r).length = s.length from ⟨hhl, hhp, hrl⟩)
          clear hd hc e32 hhl hhp hrl hr
          cases hkn : known (head (c :: r)) with
          | none =>
            have HS2 : Hid (scanF 0 s = .error k) := Lib.hid (by rw [HS.out, HD.out, scanF_bad k c r h32 hkn]; rfl)
            rw [hkn] at HNX
            clear HS hkn
            go_wp2_with fail
            refine HNX.out.mono ?_
            rintro e w2 ⟨v, rfl, ⟨k', n', rfl, hkm⟩, hb⟩
            have HB2 := Lib.hid (HB.out.trans (hb.mono HB.out.size))
            clear hkm hb
            unfold pcC
            go_wp2_with fail
            simp only [Exit.jump]
            refine bodyPost_ret (results_tmp3 rfl _ _ _) rfl ?_
            exact gave_err H48.out HS2.out (HB2.out.alloc HB2.out.size _)
          | some x =>
            have HS2 : Hid (scanF 0 s = (scanF (k + (head (c :: r)).length) (s.drop (k + (head (c :: r)).length))).map ((out ++ [⟨x.1, head (c :: r), x.2, k⟩]) ++ ·)) :=
              Lib.hid (by rw [HS.out, HD.out, scanF_piece k c r h32 (k := x.1) (n := x.2) hkn, map_next, ← HD.out, List.drop_drop])
            have hnx := HNX.out
            rw [hkn] at hnx
            have HNX2 := Lib.hid hnx
            have HKN := Lib.hid hkn
            clear HS hkn hnx HNX
            have hhl := HHL.out
            go_wp2_with fail
            refine HNX2.out.mono ?_
            rintro e w2 ⟨v, rfl, ⟨k', n', rfl, hkm⟩, hb⟩
            obtain ⟨rfl, rfl⟩ := hkm x HKN.out
            have HB2 := Lib.hid (HB.out.trans (hb.mono HB.out.size))
            have HO2 := Lib.hid (HO.out.below hb)
            clear hkm hb
            generalize hT : head (c :: r) = T at *
            have h63 : out.length + 1 ≤ maxLen := by have := H48.out; unfold maxLen; omega
            have HBc : (out.length + 1) * 40 ≤ 140737488355328 := by have := H48.out; omega
            have HO3 := Lib.hid ((HO2.out.alloc (.cells ⟨pcC x.1 T x.2 k⟩ 32)).alloc (.cells ⟨pcC x.1 T x.2 k⟩ 32))
            have HB3 := Lib.hid ((HB2.out.alloc HB2.out.size (.cells ⟨pcC x.1 T x.2 k⟩ 32)).alloc (by have := HB2.out.size; rw [World.size_alloc]; omega) (.cells ⟨pcC x.1 T x.2 k⟩ 32))
            have HSZ : w.heap.size ≤ w2.heap.size := HB2.out.size
            have HO2b := HO2
            clear HO2 HO HNX2 HKN hT
            have fw : IntKind.i64.wrap ((k : Int) + (T.length : Int)) = ((k + T.length : Nat) : Int) := by have := H48.out; have := HHL.out; rw [IntKind.wrap_i64]; omega
            have fw2 : wrap64 ((k : Int) + (T.length : Int)) = ((k + T.length : Nat) : Int) := by have := H48.out; have := HHL.out; simp only [wrap64]; omega
            unfold pcC
            go_wp2_with (at_builtin; refine wpList_appN rfl _ _ 23 rfl w.heap.size 32 _ 4 40 Tryd.underlying23 infoP rfl (by decide) _ out.length (cells out) rfl HO3.out ⟨w2.heap.size + 1, 0, none⟩ 1 1 (pcC x.1 T x.2 k) rfl rfl ?hRd ?h1 h63 HBc ?hBase ?_)
            case hRd => exact Rd.put _ (by rw [World.size_alloc]) (pcC x.1 T x.2 k) _ _
            case h1 => exact pcC_one _ _ _ _
            case hBase => rw [World.size_alloc, World.size_alloc]; omega
            intro v1 w3 ho hg
            have HO4 : Hid (HasN w.heap.size 32 4 v1 (out ++ [(⟨x.1, T, x.2, k⟩ : Pc)]).length (cells (out ++ [(⟨x.1, T, x.2, k⟩ : Pc)])) w3) := Lib.hid (by rw [cells_append, List.length_append]; exact ho)
            have HB4 : Hid (Below w.heap.size w w3) := Lib.hid (below_row HB3.out hg (fun k hk => (HO3.out.blk k hk).1) (by rw [World.size_alloc, World.size_alloc]; omega))
            have hrow : w3.heap[w2.heap.size]? = some (.cells ⟨pcC x.1 T x.2 k⟩ 32) := by
              refine (hg.block w2.heap.size (by rw [World.size_alloc, World.size_alloc]; omega) (fun q => ?_)).trans ?_
              · have := (HO2b.out.blk w2.heap.size q.symm).2
                omega
              · exact (Below.heap_alloc _ _ _ (by rw [World.size_alloc]; omega)).trans (heap_alloc_new w2 _)
            have z1 : w3.cell? ⟨w2.heap.size, 1, none⟩ = some (.string (str T)) := (cell_of_row w3 w2.heap.size 1 _ _ _ hrow).trans rfl
            clear ho hg hrow HO3 HB3 HO2b
            go_wp2_with fail
            go_step3
            show (0 : Nat) = 0 ∧ Loop s w.heap.size w _ _ ∧ _
            exact ⟨rfl, ⟨k + T.length, out ++ [⟨x.1, T, x.2, k⟩], v1, _, _, _, _, _, _, _, _, _, _, _, _, _, _, _, _, _, _, _, _, _, _, _, _, _, _, _, _, _, _, _, _, _, _, _, _, _, _, _, _, _, rfl, by omega, by rw [List.length_append, List.length_singleton]; omega, HO4, HB4, HS2⟩, by show s.length - (k + T.length) < s.length - k; omega⟩
    · intro HF
      go_wp2_with fail
      go_step3
      rename_i K hK
      exact hK _ _ (HF.out _ _ ⟨0, [], _, _, _, _, _, _, _, _, _, _, _, _, _, _, _, _, _, _, _, _, _, _, _, _, _, _, _, _, _, _, _, _, _, _, _, _, _, _, _, _, _, _, rfl, Nat.zero_le _, Nat.zero_le _, Lib.hid (HasN.nil _ _ _ _), Lib.hid (Below.refl _ _), Lib.hid (by rw [List.drop_zero]; cases scanF 0 s <;> rfl)⟩)
end Go.Proofs.YtdlfdkdcnabpoaaDoor.Lx
