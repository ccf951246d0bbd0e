/- Layer 16: the document's Pieces. -/
import Derived.Test.YtdlfdkdcnabpoaaDoorLxF
import Derived.Handy
namespace Go.Proofs.YtdlfdkdcnabpoaaDoor.Lx
set_option linter.unusedSimpArgs false
set_option linter.unusedVariables false
open Go.RowKit
open _root_.Go.Proofs.YtdlfdkdcnabpoaaDoor.Own
attribute [local go_sem] str_size str_extract str_append str_toList
theorem cells_at : ∀ (ps : List Pc) (j : Nat) (p : Pc), ps[j]? = some p → ∀ f, f < 4 → (cells ps)[j * 4 + f]? = (pcC p.kind p.text p.n p.pos)[f]?
  | [], j, p, h, _, _ => by simp at h
  | q :: ps, 0, p, h, f, hf => by
    simp only [List.getElem?_cons_zero, Option.some.injEq] at h
    subst h
    rw [show cells (q :: ps) = pcC q.kind q.text q.n q.pos ++ cells ps from rfl, Nat.zero_mul, Nat.zero_add, List.getElem?_append_left (by simp [pcC]; omega)]
  | q :: ps, j + 1, p, h, f, hf => by
    rw [show cells (q :: ps) = pcC q.kind q.text q.n q.pos ++ cells ps from rfl, List.getElem?_append_right (by simp [pcC]; omega)]
    rw [show (j + 1) * 4 + f - (pcC q.kind q.text q.n q.pos).length = j * 4 + f by simp [pcC]; omega]
    exact cells_at ps j p (by simpa using h) f hf
theorem HasN.mono {base base' : Nat} {e : TypeId} {sz : Nat} {v : Value} {n : Nat} {xs : List Value} {w : World} (h : HasN base e sz v n xs w) (hb : base' ≤ base) : HasN base' e sz v n xs w := by
  obtain ⟨h1, h2 | ⟨g, cap, cur, e1, hb', h3⟩⟩ := h
  · exact ⟨h1, .inl h2⟩
  · exact ⟨h1, .inr ⟨g, cap, cur, e1, Nat.le_trans hb hb', h3⟩⟩
/-- What the search has found among the first i. -/
def hits (t : List UInt8) (a i : Nat) : List Pc := ((tab.take i).filter fun p => p.text == t).map fun p => ⟨p.kind, p.text, p.n, a⟩
theorem tab_len : tab.length = 47 := by decide
theorem hits_succ (t : List UInt8) (a i : Nat) (p : Pc) (hp : tab[i]? = some p) : hits t a (i + 1) = hits t a i ++ if p.text = t then [⟨p.kind, p.text, p.n, a⟩] else [] := by
  unfold hits
  rw [List.take_add_one, hp]
  by_cases h : p.text = t
  · simp [h]
  · simp [h]
set_option maxRecDepth 100000 in
theorem tab_filter : ∀ x ∈ table, (tab.filter fun p => p.text == x.2.1) = [⟨x.1, x.2.1, x.2.2, 0⟩] := by decide
theorem hits_all (t : List UInt8) (a : Nat) : hits t a 47 = match known t with | some x => [⟨x.1, t, x.2, a⟩] | none => [] := by
  unfold hits
  rw [show tab.take 47 = tab from List.take_of_length_le (by rw [tab_len]; exact Nat.le_refl _)]
  cases h : known t with
  | some x =>
    have hm := known_mem (k := x.1) (n := x.2) h
    rw [tab_filter _ hm]
    rfl
  | none =>
    have : (tab.filter fun p => p.text == t) = [] := by
      rw [List.filter_eq_nil_iff]
      intro p hp he
      obtain ⟨x, hx, rfl⟩ := List.mem_map.1 hp
      have he' : x.2.1 = t := by simpa using he
      have := mem_known_all x hx
      rw [he', h] at this
      cases this
    rw [this]
    rfl
theorem hits_len (t : List UInt8) (a i : Nat) : (hits t a i).length ≤ i := by
  unfold hits
  rw [List.length_map]
  exact Nat.le_trans (List.length_filter_le _ _) (by rw [List.length_take]; omega)
/-- What the document's Pieces gives back. -/
def RGave (s : List UInt8) (w : World) (e : Ending) (w' : World) : Prop :=
  ∃ v, e = .returned (.tuple #[v, .int .i64 (pieces s).2.1, .int .i64 (pieces s).2.2]) ∧ HasN w.heap.size 31 4 v (pieces s).1.length (cells (pieces s).1) w' ∧ Below w.heap.size w w'
theorem rgave_ok {s : List UInt8} {w w' : World} (h48 : ¬ 48 < s.length) {ps : List Pc} (h : scanF 0 s = .ok ps) {v : Value} (h1 : HasN w.heap.size 31 4 v ps.length (cells ps) w') (h2 : Below w.heap.size w w') :
    RGave s w (.returned (.tuple #[v, .int .i64 0, .int .i64 0])) w' := by
  unfold RGave
  rw [pieces_ok h48 h]
  exact ⟨v, rfl, h1, h2⟩
theorem rgave_err {s : List UInt8} {w w' : World} (h48 : ¬ 48 < s.length) {a : Nat} (h : scanF 0 s = .error a) (h2 : Below w.heap.size w w') :
    RGave s w (.returned (.tuple #[.slice none 0 0, .int .i64 a, .int .i64 3])) w' := by
  unfold RGave
  rw [pieces_err h48 h]
  exact ⟨_, rfl, HasN.nil _ _ _ _, h2⟩
set_option maxRecDepth 10000 in
set_option maxHeartbeats 8000000 in
theorem RPieces_calls (s : List UInt8) (w : World) : Calls Tryd.prog 12 #[.string (str s)] w (RGave s w) := by
  by_cases h48 : 48 < s.length
  · have hp : pieces s = ([], 0, 5) := by unfold pieces; rw [if_pos h48]
    have hg : ∀ v, v = Value.slice none 0 0 → RGave s w (.returned (.tuple #[v, .int .i64 0, .int .i64 5])) w := fun v hv => by
      unfold RGave
      rw [hp, hv]
      exact ⟨_, rfl, HasN.nil _ _ _ _, Below.refl _ _⟩
    have HG := Lib.hid hg
    clear hp hg
    have d1 : decide (48 < s.length) = true := decide_eq_true h48
    have d2 : ((48 : Int) < (s.length : Int)) = True := by simp; omega
    go_enter Tryd.func12, Tryd.ntmps12
    go_wp2_with fail
    refine bodyPost_ret (results_tmp3 rfl _ _ _) rfl ?_
    exact HG.out _ rfl
  · have H48 := Lib.hid h48
    have d1 : decide (48 < s.length) = false := decide_eq_false h48
    have d2 : ((48 : Int) < (s.length : Int)) = False := by simp; omega
    have HT := Lib.hid (Table_calls w)
    clear h48
    go_enter Tryd.func12, Tryd.ntmps12
    go_wp2_with fail
    refine HT.out.mono ?_
    rintro e w1 ⟨v5, rfl, hO5, hb1⟩
    clear HT
    obtain ⟨A, cap, rfl, hcap, hA, hR, _, _⟩ := hO5.form
    have HR := Lib.hid hR
    have HB1 := Lib.hid hb1
    obtain ⟨ad, rfl⟩ : ∃ ad, A = some ad := by
      obtain ⟨a, ha, _⟩ := hR 0 (by rw [cells_length, tab_len]; decide)
      exact ⟨a, ha⟩
    clear hO5 hb1 hR hA hcap
    go_wp2_with fail
    go_loopw [6, 7] (fun v6 v7 wr => ∃ (k : Nat) (out : List Pc), v7 = .int .i64 k ∧ k ≤ s.length ∧ out.length ≤ k ∧ Hid (HasN w1.heap.size 31 4 v6 out.length (cells out) wr) ∧ Hid (Below w1.heap.size w1 wr) ∧ Hid (scanF 0 s = (scanF k (s.drop k)).map (out ++ ·))) (fun _ v7 _ => s.length - (intOf v7).toNat)
    case atStart => exact ⟨0, [], rfl, Nat.zero_le _, Nat.zero_le _, Lib.hid (HasN.nil _ _ _ _), Lib.hid (Below.refl _ _), Lib.hid (by rw [List.drop_zero]; cases scanF 0 s <;> rfl)⟩
    case round =>
      obtain ⟨k, out, rfl, hk, hout, HO, HB, HS⟩ := hrel
      by_cases hlt : k < s.length
      · have d3 : decide (k < s.length) = true := decide_eq_true hlt
        have d4 : ((k : Int) < (s.length : Int)) = True := by simp; omega
        obtain ⟨c, hc⟩ : ∃ c, s[k]? = some c := ⟨_, List.getElem?_eq_getElem hlt⟩
        have hx := fun w => run_byte (P := Tryd.prog) (w := w) _ Tryd.underlying9 s k c hc
        obtain ⟨r, hr⟩ : ∃ r, s.drop (k + 1) = r := ⟨_, rfl⟩
        have hd : s.drop k = c :: r := by
          obtain ⟨h1, h2⟩ := List.getElem?_eq_some_iff.1 hc
          rw [List.drop_eq_getElem_cons h1, h2, hr]
        have e32 : (nB c == 32) = (c == 32) := nB_eq c 32
        have h48' : s.length ≤ 48 := by have := H48.out; omega
        by_cases h32 : c = 32
        · have e3 : (nB c == 32) = true := e32.trans (beq_iff_eq.2 h32)
          have HS2 : Hid (scanF 0 s = (scanF (k + 1) (s.drop (k + 1))).map (out ++ ·)) := Lib.hid (by rw [HS.out, hd, h32, scanF_blank, hr])
          clear HS hd e32 hc hr
          go_wp2_with fail
          go_roundw
          case rel => exact ⟨k + 1, out, by go_num, hlt, by omega, HO, HB, HS2⟩
          case measure => simp only [intOf]; omega
        · have e3 : (nB c == 32) = false := e32.trans (beq_eq_false_iff_ne.2 h32)
          have hcut := cut_calls s k hlt (by have := H48.out; omega)
          rw [hd] at hcut
          have hrl : k + (c :: r).length = s.length := by rw [← hd, List.length_drop]; omega
          have hhl := head_len (c :: r)
          have hhp := head_pos c r
          obtain ⟨T, hT⟩ : ∃ T, head (c :: r) = T := ⟨_, rfl⟩
          have htk : (s.drop k).take (k + T.length - k) = T := by rw [hd, Nat.add_sub_cancel_left, ← hT, head_take]
          rw [hT] at hcut hhl hhp
          obtain ⟨q, hq⟩ : ∃ q, k + T.length = q := ⟨_, rfl⟩
          have hmid : ∀ w, (Instr.slice 9 (.string (str s)) (some (.int .i64 k)) (some (.int .i64 q)) none).run Tryd.prog w = .ok (.string (str T)) w := fun w => by
            rw [run_mid _ Tryd.underlying9 s k q (by omega) (by omega), ← hq, htk]
          rw [hq] at hcut
          have HC := Lib.hid hcut
          have HD := Lib.hid (show s.drop k = c :: r ∧ head (c :: r) = T ∧ k + T.length = q ∧ 1 ≤ T.length ∧ q ≤ s.length from ⟨hd, hT, hq, hhp, by omega⟩)
          clear hcut hd hT hq hhl hhp hrl hr htk hc e32
          go_wp2_with fail
          refine (HC.out _).mono ?_
          rintro e w2 ⟨rfl, rfl⟩
          go_wp2_with fail
          go_loopw [6, 9, 10, 11] (fun v6 v9 v10 v11 wr => ∃ i : Nat, v10 = .int .i64 i ∧ i ≤ 47 ∧ v9 = .bool (hits T k i != []) ∧ Hid (HasN w1.heap.size 31 4 v6 (out ++ hits T k i).length (cells (out ++ hits T k i)) wr) ∧ Hid (Below w1.heap.size w1 wr)) (fun _ _ v10 _ _ => 47 - (intOf v10).toNat)
          case atStart => exact ⟨0, rfl, Nat.zero_le _, rfl, Lib.hid (by rw [show hits T k 0 = [] from rfl, List.append_nil]; exact HO.out), HB⟩
          case round =>
            clear HO HB
            obtain ⟨i, rfl, hi, rfl, HO, HB⟩ := hrel
            by_cases hlt7 : i < 47
            · have d5 : decide (i < 47) = true := decide_eq_true hlt7
              have d6 : ((i : Int) < 47) = True := by simp; omega
              obtain ⟨p, hp⟩ : ∃ p, tab[i]? = some p := ⟨_, List.getElem?_eq_getElem (by rw [tab_len]; exact hlt7)⟩
              have HH := Lib.hid (hits_succ T k i p hp)
              have hRr := HR.out.below HB.out
              have z0 : wr.cell? (ad.add (i * 4)) = some (.int .i64 p.kind) := hRr.cell ((cells_at tab i p hp 0 (by decide)).trans rfl)
              have z1 : wr.cell? ⟨(ad.add (i * 4)).block, (ad.add (i * 4)).off + 1, none⟩ = some (.string (str p.text)) := hRr.part (by decide) (cells_at tab i p hp 1 (by decide))
              have z2 : wr.cell? ⟨(ad.add (i * 4)).block, (ad.add (i * 4)).off + 2, none⟩ = some (.int .i64 p.n) := hRr.part (by decide) (cells_at tab i p hp 2 (by decide))
              have z3 : wr.cell? ⟨(ad.add (i * 4)).block, (ad.add (i * 4)).off + 3, none⟩ = some (.int .i64 p.pos) := hRr.part (by decide) (cells_at tab i p hp 3 (by decide))
              clear hRr hp
              obtain ⟨J, hJ⟩ : ∃ J : World → Prop, ∀ W, J W ↔ W.cell? ⟨(ad.add (i * 4)).block, (ad.add (i * 4)).off + 1, none⟩ = some (.string (str p.text)) := ⟨_, fun _ => Iff.rfl⟩
              have hj := (hJ wr.drew).2 z1
              have K := fun w1 h1 => (hJ w1).1 h1
              clear hJ
              go_wp2_with fail
              refine Turn.region_seq [0, 1, 2, 3, 4, 5, 6, 7, 8, 9] (fun _ => false) J (by kernel_rfl) (by kernel_rfl) hj ?_
              repeat (first | (apply Turn.seq_yes; (· simp only [List.getElem?_toArray, List.getElem?_cons_succ, List.getElem?_cons_zero]; rfl); (· rfl); (· go_simp); (· intro w1 h1; have zz := K w1 h1; go_simp; exact ⟨rfl, rfl, h1⟩); (· go_simp; rfl)) | (apply Turn.seq_yes; (· simp only [List.getElem?_toArray, List.getElem?_cons_succ, List.getElem?_cons_zero]; rfl); (· rfl); (· go_simp); (· intro w1 h1; have zz := K w1 h1; go_simp; exact ⟨rfl, h1⟩); (· go_simp; rfl)) | (apply Turn.seq_no; (· simp only [List.getElem?_toArray, List.getElem?_cons_succ, List.getElem?_cons_zero]; rfl); (· go_simp); (· go_simp; rfl)))
              apply Turn.seq_nil
              clear K hj
              cases hb : p.text == T with
              | true =>
                have hpT : p.text = T := beq_iff_eq.1 hb
                have hh := HH.out
                rw [if_pos hpT] at hh
                have HH2 := Lib.hid hh
                have hlen := hits_len T k i
                have HL := Lib.hid hlen
                have h63 : (out ++ hits T k i).length + 1 ≤ maxLen := by rw [List.length_append]; unfold maxLen; omega
                have HBc : ((out ++ hits T k i).length + 1) * 40 ≤ 140737488355328 := by rw [List.length_append]; omega
                have HSZ : w1.heap.size ≤ wr.heap.size := HB.out.size
                obtain ⟨pk, hpk⟩ : ∃ pk, p.kind = pk := ⟨_, rfl⟩
                obtain ⟨pn, hpn⟩ : ∃ pn, p.n = pn := ⟨_, rfl⟩
                rw [hpk, hpn, hpT] at HH2
                rw [hpk] at z0
                rw [hpT] at z1
                rw [hpn] at z2
                rw [hpT]
                rw [hpT] at hb
                clear hpT hh hlen HH hpk hpn
                obtain ⟨nn, hnn⟩ : ∃ nn, (out ++ hits T k i).length = nn := ⟨_, rfl⟩
                rw [hnn] at HO h63 HBc
                go_wp2_with (at_builtin; refine wpList_appN rfl _ _ 27 rfl w1.heap.size 31 _ 4 40 Tryd.underlying27 infoR rfl (by decide) _ nn (cells (out ++ hits T k i)) rfl (HO.out.below ?hbel) ⟨wr.heap.size + 1, 0, none⟩ 1 1 (pcC pk T pn k) rfl rfl ?hRd ?h1 h63 HBc ?hBase ?_)
                case hbel => exact (((Below.refl _ _).alloc (Nat.le_refl _) _).alloc (by rw [World.size_alloc]; omega) _).drew
                case hRd => exact (Rd.put _ (by rw [World.size_alloc]) (pcC pk T pn k) _ _).below ((Below.refl _ _).drew)
                case h1 => exact pcC_one _ _ _ _
                case hBase => show w1.heap.size ≤ ((wr.alloc _).alloc _).heap.size; rw [World.size_alloc, World.size_alloc]; omega
                intro v3 w3 ho hg
                have HO3 : Hid (HasN w1.heap.size 31 4 v3 (out ++ hits T k (i + 1)).length (cells (out ++ hits T k (i + 1))) w3) := Lib.hid (by rw [HH2.out, ← List.append_assoc, cells_append, cells_one, List.length_append, hnn]; exact ho)
                have HB3 := Lib.hid (below_row (HB.out.trans ((((Below.refl wr.heap.size wr).alloc (Nat.le_refl _) _).alloc (by rw [World.size_alloc]; omega) _).drew.mono HSZ)) hg (fun k hk => (HO.out.blk k hk).1) (by show w1.heap.size ≤ ((wr.alloc _).alloc _).heap.size; rw [World.size_alloc, World.size_alloc]; omega))
                clear ho hg HO HB hnn
                go_wp2_with fail
                go_roundw
                case rel => exact ⟨i + 1, by go_num, by omega, by rw [HH2.out]; simp, HO3, HB3⟩
                case measure => simp only [intOf]; omega
              | false =>
                have hpT : ¬ p.text = T := beq_eq_false_iff_ne.1 hb
                have hh := HH.out
                rw [if_neg hpT, List.append_nil] at hh
                have HH2 := Lib.hid hh
                clear hpT hh HH
                go_wp2_with fail
                go_roundw
                case rel => exact ⟨i + 1, by go_num, by omega, by rw [HH2.out], by rw [HH2.out]; exact Lib.hid (HO.out.below ((Below.refl _ _).drew)), Lib.hid HB.out.drew⟩
                case measure => simp only [intOf]; omega
            · have e47 : i = 47 := by omega
              have d5 : decide (i < 47) = false := decide_eq_false hlt7
              have d6 : ((i : Int) < 47) = False := by simp; omega
              have hh := hits_all T k
              rw [← e47] at hh
              obtain ⟨hd, hT, hq, hT1, hqs⟩ := HD.out
              cases hkn : known T with
              | none =>
                rw [hkn] at hh
                simp only at hh
                have hf : (hits T k i != []) = false := by rw [hh]; rfl
                have HS2 : Hid (scanF 0 s = .error k) := Lib.hid (by rw [HS.out, hd, scanF_bad k c r h32 (by rw [hT]; exact hkn)]; rfl)
                clear hh hkn HS hd hT hq e47
                go_wp2_with fail
                refine bodyPost_ret (results_tmp3 rfl _ _ _) rfl ?_
                exact rgave_err H48.out HS2.out (HB1.out.trans (HB.out.mono HB1.out.size))
              | some x =>
                rw [hkn] at hh
                simp only at hh
                have hf : (hits T k i != []) = true := by rw [hh]; rfl
                have HS2 : Hid (scanF 0 s = (scanF q (s.drop q)).map ((out ++ [⟨x.1, T, x.2, k⟩]) ++ ·)) := Lib.hid (by
                  have hp := scanF_piece k c r h32 (k := x.1) (n := x.2) (by rw [hT]; exact hkn)
                  rw [hT] at hp
                  rw [HS.out, hd, hp, map_next, ← hd, List.drop_drop, hq])
                have HO3 : Hid (HasN w1.heap.size 31 4 u6 (out ++ [(⟨x.1, T, x.2, k⟩ : Pc)]).length (cells (out ++ [(⟨x.1, T, x.2, k⟩ : Pc)])) wr) := Lib.hid (by have := HO.out; rw [hh] at this; exact this)
                clear hh hkn HS hd hT e47 HO
                go_wp2_with fail
                go_roundw
                case rel => exact ⟨q, _, rfl, hqs, by rw [List.length_append, List.length_singleton]; omega, HO3, HB, HS2⟩
                case measure => simp only [intOf]; omega
      · have d3 : decide (k < s.length) = false := decide_eq_false hlt
        have d4 : ((k : Int) < (s.length : Int)) = False := by simp; omega
        have ek : k = s.length := by omega
        have HS2 : Hid (scanF 0 s = .ok (out ++ [endPc k])) := Lib.hid (by rw [HS.out, ek, List.drop_length, scanF_nil]; rfl)
        have h63 : out.length + 1 ≤ maxLen := by have := H48.out; unfold maxLen; omega
        have HBc : (out.length + 1) * 40 ≤ 140737488355328 := by have := H48.out; omega
        have HSZ : w1.heap.size ≤ wr.heap.size := HB.out.size
        clear HS ek
        obtain ⟨nn, hnn⟩ : ∃ nn, out.length = nn := ⟨_, rfl⟩
        rw [hnn] at HO h63 HBc
        go_wp2_with (at_builtin; refine wpList_appN rfl _ _ 27 rfl w1.heap.size 31 _ 4 40 Tryd.underlying27 infoR rfl (by decide) _ nn (cells out) rfl (HO.out.alloc _) ⟨wr.heap.size, 0, none⟩ 1 1 (pcC 5 [] 0 k) rfl rfl ?hRd ?h1 h63 HBc ?hBase ?_)
        case hRd => exact Rd.put _ rfl (pcC 5 [] 0 k) _ _
        case h1 => exact pcC_one _ _ _ _
        case hBase => rw [World.size_alloc]; omega
        intro v3 w3 ho hg
        have HO3 : Hid (HasN w1.heap.size 31 4 v3 (out ++ [endPc k]).length (cells (out ++ [endPc k])) w3) := Lib.hid (by rw [cells_append, List.length_append, hnn]; exact ho)
        have HB3 := Lib.hid (below_row (HB.out.alloc HB.out.size _) hg (fun k hk => (HO.out.blk k hk).1) (by rw [World.size_alloc]; omega))
        clear ho hg HO HB hnn
        go_wp2_with fail
        refine bodyPost_ret (results_tmp3 rfl _ _ _) rfl ?_
        exact rgave_ok H48.out HS2.out (HasN.mono HO3.out HB1.out.size) (HB1.out.trans (HB3.out.mono HB1.out.size))
end Go.Proofs.YtdlfdkdcnabpoaaDoor.Lx
