/- The walk of the law LexTells. -/
import Derived.Test.YtdlfdkdcnabpoaaDoorLxH
namespace Go.Proofs.YtdlfdkdcnabpoaaDoor.Lx
set_option linter.unusedSimpArgs false
set_option linter.unusedVariables false
open Go.RowKit
open _root_.Go.Proofs.YtdlfdkdcnabpoaaDoor.Own
attribute [local go_sem] str_size str_extract str_append str_toList
theorem scan_len : ∀ (f a : Nat) (s : List UInt8) (ps : List Pc), scan f a s = .ok ps → ps.length ≤ s.length + 1
  | f, a, [], ps, h => by
    have : scan f a [] = .ok [⟨5, [], 0, a⟩] := by cases f <;> rfl
    rw [this] at h
    cases h
    exact Nat.le_refl _
  | 0, a, c :: l, ps, h => by cases h
  | f + 1, a, c :: l, ps, h => by
    unfold scan at h
    by_cases hc : c = 32
    · rw [if_pos hc] at h
      have := scan_len f (a + 1) l ps h
      rw [List.length_cons]; omega
    · rw [if_neg hc] at h
      cases hk : known (head (c :: l)) with
      | none => rw [hk] at h; cases h
      | some x =>
        rw [hk] at h
        simp only at h
        cases hs : scan f (a + (head (c :: l)).length) ((c :: l).drop (head (c :: l)).length) with
        | error e => rw [hs] at h; cases h
        | ok qs =>
          rw [hs] at h
          cases h
          have := scan_len f _ _ qs hs
          have hp := head_pos c l
          have e : (c :: l).length = l.length + 1 := rfl
          rw [List.length_drop] at this
          rw [List.length_cons]; omega
theorem pieces_len (s : List UInt8) : (pieces s).1.length ≤ 49 := by
  unfold pieces
  split
  · decide
  · rename_i h
    cases hs : scanF 0 s with
    | error e => exact Nat.zero_le _
    | ok ps =>
      have := scan_len _ _ _ _ hs
      show ps.length ≤ 49
      omega
/-- A piece of a slice that reads as pieces, as a walk asks for it. -/
theorem pc_at {w : World} {A : Option Addr} {ps : List Pc} (h : Rd w A (cells ps)) {i : Nat} (hi : i < ps.length) : ∃ ad k t n a, A = some ad ∧ ps[i]? = some ⟨k, t, n, a⟩ ∧ ∀ W, Below w.heap.size w W →
    W.cell? (ad.add (i * 4)) = some (.int .i64 k) ∧ W.cell? ⟨(ad.add (i * 4)).block, (ad.add (i * 4)).off + 1, none⟩ = some (.string (str t)) ∧ W.cell? ⟨(ad.add (i * 4)).block, (ad.add (i * 4)).off + 2, none⟩ = some (.int .i64 n) ∧
    W.cell? ⟨(ad.add (i * 4)).block, (ad.add (i * 4)).off + 3, none⟩ = some (.int .i64 a) := by
  obtain ⟨ad, rfl, _⟩ := h (i * 4) (by rw [cells_length]; omega)
  have hp : ps[i]? = some ps[i] := List.getElem?_eq_getElem hi
  refine ⟨ad, ps[i].kind, ps[i].text, ps[i].n, ps[i].pos, rfl, hp, fun W hb => ?_⟩
  have h' := h.below hb
  have c := cells_at ps i ps[i] hp
  exact ⟨h'.cell ((c 0 (by decide)).trans rfl), h'.part (by decide) (c 1 (by decide)), h'.part (by decide) (c 2 (by decide)), h'.part (by decide) (c 3 (by decide))⟩
set_option maxRecDepth 10000 in
set_option maxHeartbeats 4000000 in
theorem tells_walk (s : List UInt8) (w : World) (hE : Env w) : Calls Tryd.prog 3 #[.string (str s)] w fun e w' => e = .returned (.bool true) ∧ Below w.heap.size w w' := by
  by_cases h100 : 100 < s.length
  · have d1 : decide (100 < s.length) = true := decide_eq_true h100
    have d2 : ((100 : Int) < (s.length : Int)) = True := by simp; omega
    have HA := Lib.hid (alive16 w hE)
    clear hE
    go_enter Tryd.func3, Tryd.ntmps3
    go_wp2_with fail
    refine HA.out.mono ?_
    rintro e w1 ⟨rfl, hb⟩
    go_wp2_with fail
    go_ret
    exact ⟨rfl, hb⟩
  · have d1 : decide (100 < s.length) = false := decide_eq_false h100
    have d2 : ((100 : Int) < (s.length : Int)) = False := by simp; omega
    have HA := Lib.hid (fun w hE => alive16 w hE)
    have HP := Lib.hid (Pieces_calls s w hE)
    have HR := Lib.hid (fun w => RPieces_calls s w)
    have HE := Lib.hid hE
    clear hE h100
    go_enter Tryd.func3, Tryd.ntmps3
    go_wp2_with fail
    refine HP.out.mono ?_
    unfold Gave
    rintro e w1 ⟨v1, rfl, h1, hb1⟩
    obtain ⟨A, c1, rfl, hc1, _, hR1, _, _⟩ := h1.form
    have HR1 := Lib.hid hR1
    have HB1 := Lib.hid hb1
    clear h1 hR1 hb1 HP
    obtain ⟨ps, hps⟩ : ∃ ps, (pieces s).1 = ps := ⟨_, rfl⟩
    obtain ⟨at_, hat⟩ : ∃ a, (pieces s).2.1 = a := ⟨_, rfl⟩
    obtain ⟨er, her⟩ : ∃ a, (pieces s).2.2 = a := ⟨_, rfl⟩
    obtain ⟨n, hn⟩ : ∃ n, ps.length = n := ⟨_, rfl⟩
    rw [hps] at HR1 hc1
    rw [hps, hat, her]
    rw [hn] at hc1 ⊢
    have hn49 : n ≤ 49 := by rw [← hn, ← hps]; exact pieces_len s
    have HQ := Lib.hid (And.intro hps (And.intro hat her))
    have HN := Lib.hid hn
    clear hps hat her hn
    go_wp2_with fail
    refine (HR.out w1).mono ?_
    unfold RGave
    rintro e w2 ⟨v2, rfl, h2, hb2⟩
    rw [HQ.out.2.1, HQ.out.2.2]
    rw [HQ.out.1, HN.out] at h2
    obtain ⟨B, c2, rfl, hc2, _, hR2, _, _⟩ := h2.form
    have HR2 := Lib.hid hR2
    have HR1' := Lib.hid (HR1.out.below hb2)
    have HB2 := Lib.hid (HB1.out.trans (hb2.mono HB1.out.size))
    clear h2 hR2 hb2 HR HR1 HB1 hc1 hc2 HQ
    go_wp2_with fail
    go_loopw [9] (fun v9 wr => ∃ i : Nat, v9 = .int .i64 i ∧ i ≤ n ∧ Hid (Below w2.heap.size w2 wr)) (fun v9 _ => n - (intOf v9).toNat)
    case atStart => exact ⟨0, rfl, Nat.zero_le _, Lib.hid (Below.refl _ _)⟩
    case round =>
      obtain ⟨i, rfl, hi, HB⟩ := hrel
      by_cases hlt : i < n
      · have d3 : decide (i < n) = true := decide_eq_true hlt
        have d4 : ((i : Int) < (n : Int)) = True := by simp; omega
        obtain ⟨a1, k, t, m, a, rfl, hp, X⟩ := pc_at HR1'.out (by rw [HN.out]; exact hlt)
        obtain ⟨a2, k', t', m', a', rfl, hp', Y⟩ := pc_at HR2.out (by rw [HN.out]; exact hlt)
        rw [hp] at hp'
        cases hp'
        obtain ⟨J, hJ⟩ : ∃ J : World → Prop, ∀ W, J W ↔ Below w2.heap.size w2 W := ⟨_, fun _ => Iff.rfl⟩
        have hj := (hJ wr.drew).2 HB.out.drew
        have K := fun w1 h1 => And.intro (X w1 ((hJ w1).1 h1)) (Y w1 ((hJ w1).1 h1))
        simp only [and_assoc] at K
        have HJ := Lib.hid hJ
        clear hJ X Y hp
        go_wp2_with fail
        refine Turn.region_seq [0, 1, 2, 3, 4, 5, 6, 7, 8] (fun _ => false) J (by kernel_rfl) (by kernel_rfl) hj ?_
        repeat (first | (apply Turn.seq_yes; (· simp only [List.getElem?_toArray, List.getElem?_cons_succ, List.getElem?_cons_zero]; rfl); (· rfl); (· go_simp); (· intro w1 h1; obtain ⟨zz0, zz1, zz2, zz3, yy0, yy1, yy2, yy3⟩ := K w1 h1; go_simp; exact ⟨rfl, rfl, h1⟩); (· go_simp; rfl)) | (apply Turn.seq_yes; (· simp only [List.getElem?_toArray, List.getElem?_cons_succ, List.getElem?_cons_zero]; rfl); (· rfl); (· go_simp); (· intro w1 h1; obtain ⟨zz0, zz1, zz2, zz3, yy0, yy1, yy2, yy3⟩ := K w1 h1; go_simp; exact ⟨rfl, h1⟩); (· go_simp; rfl)) | (apply Turn.seq_no; (· simp only [List.getElem?_toArray, List.getElem?_cons_succ, List.getElem?_cons_zero]; rfl); (· go_simp); (· go_simp; rfl)))
        apply Turn.seq_nil
        clear K hj
        go_wp2_with fail
        go_roundw
        case rel => exact ⟨i + 1, by go_num, by omega, Lib.hid HB.out.drew⟩
        case measure => simp only [intOf]; omega
      · have d3 : decide (i < n) = false := decide_eq_false hlt
        have d4 : ((i : Int) < (n : Int)) = False := by simp; omega
        have HB3 := Lib.hid (HB2.out.trans (HB.out.mono HB2.out.size))
        go_wp2_with fail
        refine (HA.out _ (HE.out.below HB3.out)).mono ?_
        rintro e w4 ⟨rfl, hb4⟩
        have HB4 := Lib.hid (HB3.out.trans (hb4.mono HB3.out.size))
        clear hb4
        go_wp2_with fail
        go_ret
        exact ⟨rfl, HB4.out⟩
end Go.Proofs.YtdlfdkdcnabpoaaDoor.Lx
