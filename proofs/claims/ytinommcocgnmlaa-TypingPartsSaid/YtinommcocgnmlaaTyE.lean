/- The walks of parse.Begin and of the law TypingParts. -/
import Derived.Test.YtinommcocgnmlaaTyD
import Derived.Test.YtinommcocgnmlaaTyQ
namespace Go.Proofs.Ytinommcocgnmlaa.PTypingTypes
open Go.RowKit Go.Proofs.YtinommcocgnmlaaW.PrintWords Go.Proofs.YtinommcocgnmlaaW.PrintLast Go.Proofs.YtinommcocgnmlaaW.PrintMore
open _root_.Go.Proofs.Ytinommcocgnmlaa.Own
set_option linter.unusedVariables false
set_option linter.unusedSimpArgs false
theorem nds_take (l : List S73) (k : Nat) : nds (l.take k) = (nds l).take k := by unfold nds; rw [List.map_take]
theorem nds_drop (l : List S73) (k : Nat) : nds (l.drop k) = (nds l).drop k := by unfold nds; rw [List.map_drop]
theorem rev_take (l : List S73) (j : Nat) (hj : j < l.length) : (nds (l.take (j + 1))).reverse = nd l[j] :: (nds (l.take j)).reverse := by
  unfold nds
  rw [List.take_succ_eq_append_getElem hj, List.map_append, List.reverse_append]
  rfl
set_option maxHeartbeats 2000000 in
theorem Begin_calls (A : Option Addr) (c : Nat) (l : List S73) (i : Nat) (hi : i < l.length) (h60 : l.length ≤ 60) (ha : ∀ x ∈ l, 0 ≤ ar x.f0) (pre : List Nd) (t : Tr) (ht : t.ok) (he : nds (l.take (i + 1)) = pre ++ t.post) (w : World) (hr : Kd.C k73 w A l.length l) (hc : l.length ≤ c) :
    Calls Try.prog 41 #[.slice A l.length c, .int .i64 i] w fun e w' => e = .returned (.int .i64 pre.length) ∧ Below w.heap.size w w' := by
  have HR := Lib.hid hr
  have hb := bs_begin t ht pre
  rw [← he] at hb
  have HB0 := Lib.hid hb
  have HA := Lib.hid ha
  clear hr hb he ha ht
  go_enter Try.func41, Try.ntmps41
  go_wp2
  go_loopw [1, 5] (fun v1 v5 wr => ∃ (j : Nat) (n : Int), j < l.length ∧ v1 = .int .i64 j ∧ v5 = .int .i64 n ∧ 1 ≤ n ∧ n + j ≤ 1 + i ∧ Hid (bs n (nds (l.take (j + 1))).reverse = some pre.reverse) ∧ Below w.heap.size w wr) (fun v1 _ _ => (intOf v1).toNat)
  case atStart => exact ⟨i, 1, hi, rfl, rfl, by omega, by omega, HB0, Below.refl _ _⟩
  case round =>
    clear HB0
    obtain ⟨j, n, hj, rfl, rfl, hn1, hn2, HB, hbw⟩ := hrel
    obtain ⟨ad, hA, hx0, hx1⟩ := at_T73 HR.out (j : Int) (by omega) (by omega)
    subst hA
    rw [rd_at l j hj, Int.toNat_natCast] at hx0 hx1
    replace hx0 := (hbw.cell (World.block_lt_of_cell? w _ hx0)).trans hx0
    clear hx1
    have h0 := HA.out l[j] (List.getElem_mem _)
    have h2 := (ar_bd l[j].f0).2
    have hb := HB.out
    rw [rev_take l j hj, bs_cons, show (nd l[j]).k = l[j].f0 from rfl] at hb
    have hC := Lib.hid (Args_calls l[j].f0)
    generalize ar l[j].f0 = q at *
    have HBW := Lib.hid hbw
    clear HB hbw
    by_cases m0 : n + (q - 1) = 0
    · rw [if_pos m0] at hb
      have hjl : j = pre.length := by
        have := congrArg List.length (Option.some.inj hb)
        simp [nds_length] at this
        omega
      have hm : (n + (q - 1) == 0) = true := by rw [beq_iff_eq]; exact m0
      subst hjl
      clear hb m0
      go_wp2_with (go_at_call 42; refine (hC.out _).mono ?_; rintro e w1 ⟨rfl, hb1⟩; have HB1 := Lib.hid (HBW.out.trans (hb1.mono HBW.out.size)); clear hb1)
      go_ret
      exact ⟨rfl, HB1.out⟩
    · rw [if_neg m0] at hb
      have hj1 : 0 < j := by
        apply Classical.byContradiction
        intro hn
        obtain rfl : j = 0 := by omega
        simp [nds, bs] at hb
      have HB2 := Lib.hid hb
      have hm : (n + (q - 1) == 0) = false := by rw [beq_eq_false_iff_ne]; exact m0
      clear hb
      go_wp2_with (go_at_call 42; refine (hC.out _).mono ?_; rintro e w1 ⟨rfl, hb1⟩; have HB1 := Lib.hid (HBW.out.trans (hb1.mono HBW.out.size)); clear hb1)
      go_roundw
      case rel => exact ⟨j - 1, n + (q - 1), by omega, by rw [show ((j - 1 : Nat) : Int) = (j : Int) - 1 by omega], rfl, by omega, by omega, Lib.hid (by rw [show j - 1 + 1 = j by omega]; exact HB2.out), HB1.out⟩
      case measure => simp [intOf]; omega
theorem c73_part {w : World} {ad : Addr} {l : List S73} (hr : Kd.C k73 w (some ad) l.length l) (b e : Nat) (hbe : b ≤ e) (he : e ≤ l.length) : Kd.C k73 w (some (ad.add (b * 2))) ((l.drop b).take (e - b)).length ((l.drop b).take (e - b)) := by
  obtain ⟨h1, h2, h3⟩ := hr
  have hlen : ((l.drop b).take (e - b)).length = e - b := by rw [List.length_take, List.length_drop]; omega
  rw [hlen]
  refine ⟨hlen, by omega, fun h0 => ?_⟩
  obtain ⟨ad', hA, hx⟩ := h3 (by omega)
  cases hA
  refine ⟨ad.add (b * 2), rfl, fun j p hj => ?_⟩
  obtain ⟨hj1, rfl⟩ := List.getElem?_eq_some_iff.1 hj
  rw [hlen] at hj1
  obtain ⟨cs, g1, g2, g3⟩ := hx (b + j) l[b + j] (List.getElem?_eq_getElem (by omega))
  refine ⟨cs, g1, ?_, fun i u hu => ?_⟩
  · rw [List.getElem_take, List.getElem_drop]; exact g2
  · have := g3 i u hu
    rw [show k73.sz = 2 from rfl] at this ⊢
    rw [add_add', show b * 2 + (j * 2 + i) = (b + j) * 2 + i by omega]
    exact this
theorem part_nds (l : List S73) (b e : Nat) (hbe : b ≤ e) (pre s : List Nd) (hb : pre.length = b) (h : nds (l.take e) = pre ++ s) : nds ((l.drop b).take (e - b)) = s := by
  have e1 : (l.drop b).take (e - b) = (l.take e).drop b := by rw [List.drop_take]
  rw [e1, nds_drop, h, ← hb, List.drop_left]
theorem part_v (t : Tr) (ht : t.ok) (ho : ∀ x ∈ t.post, okN x = true) (hl : t.post.length ≤ 24) : ∃ a b d : Int, typeL t.post = (a, b, d) ∧ ((d = 0 ∧ 1 ≤ a ∧ a ≤ 4 ∧ typed t) ∨ (d = 16 ∧ a = 0 ∧ ¬ typed t)) :=
  ⟨_, _, _, rfl, typeL_part t ht ho hl⟩
set_option maxRecDepth 100000 in
set_option maxHeartbeats 4000000 in
theorem parts_walk (A : Option Addr) (c : Nat) (l : List S73) (hc : l.length ≤ c) (w : World) (hr : Kd.C k73 w A l.length l) : Calls Try.prog 9 #[.slice A l.length c] w fun e w' => e = .returned (.bool true) ∧ Below w.heap.size w w' := by
  have HR := Lib.hid hr
  clear hr
  by_cases h60 : l.length ≤ 60
  · have hd : decide ((l.length : Int) > 60) = false := by simp; omega
    have HC := Lib.hid (Right_calls A c l w HR.out hc (by omega))
    cases hb : rightB (nds l) with
    | false =>
      rw [hb] at HC
      clear hb
      go_enter Try.func9, Try.ntmps9
      have H0 := At.refl w
      go_wp2_with fail
      refine callAt HC.out H0 ?_
      rintro e w1 rfl H1
      go_wp2_with fail
      refine callAt (alive18 _) H1 ?_
      rintro e w2 rfl H2
      go_wp2_with fail
      go_ret
      exact ⟨rfl, H2.below⟩
    | true =>
      rw [hb] at HC
      obtain ⟨T, hT, hp, ho, hlen⟩ := (right_tree _).1 hb
      have hall := hb
      rw [right_tk] at hall
      simp only [Bool.and_eq_true, List.all_eq_true, decide_eq_true_eq] at hall
      have ha : ∀ x ∈ l, 0 ≤ ar x.f0 := fun x hx => (hall.1.1.1 (nd x) (List.mem_map.2 ⟨x, hx, rfl⟩)).1
      have h24 : l.length ≤ 24 := by rw [← nds_length]; exact hlen
      have hpos : 0 < l.length := by rw [← nds_length, ← hp]; exact T.post_pos
      obtain ⟨ad, hA, _⟩ := HR.out.2.2 hpos
      subst hA
      obtain ⟨ta, tb, E, hTv, hTd⟩ := part_v T hT (by rw [hp]; exact ho) (by rw [hp]; exact hlen)
      rw [hp] at hTv
      have hE : E = 0 ∨ E = 16 := by rcases hTd with h | h; exact .inl h.1; exact .inr h.1
      have hTy : E = 0 → typed T := by rcases hTd with h | h; exact fun _ => h.2.2.2; exact fun e => by omega
      have HTC := Lib.hid (fun (w' : World) (hb : Below w.heap.size w w') => Type_is (c := c) hTv rfl (Kd.C_below HR.out hb) hc (by omega))
      have HT := Lib.hid hT
      have HP := Lib.hid hp
      have HO := Lib.hid ho
      have HAR := Lib.hid ha
      clear hTd hTv hall hb hT hp ho ha hlen
      rcases hE with rfl | rfl
      all_goals
        have HTY := Lib.hid hTy
        clear hTy
        go_enter Try.func9, Try.ntmps9
        have H0 := At.refl w
        go_wp2_with fail
        refine callAt HC.out H0 ?_
        rintro e w1 rfl H1
        clear H0
        go_wp2_with fail
        refine callAt (HTC.out _ H1.below) H1 ?_
        rintro e w2 rfl H2
        have hb2 := H2.below
        clear H1 H2
        go_wp2_with fail
        go_loopw [6] (fun v6 wr => ∃ i : Nat, i ≤ l.length ∧ v6 = .int .i64 i ∧ Below w.heap.size w wr) (fun v6 _ => l.length - (intOf v6).toNat)
        case atStart => exact ⟨0, Nat.zero_le _, rfl, hb2⟩
        case round =>
          clear hb2
          obtain ⟨i, hi, rfl, hbw⟩ := hrel
          by_cases hlt : i < l.length
          · obtain ⟨pre, t, h1, h2, h3⟩ := ends T HT.out i (by rw [HP.out, nds_length]; exact hlt)
            rw [HP.out, ← nds_take] at h1
            have htp := t.post_pos
            have hpl : pre.length + t.post.length = i + 1 := by
              have := congrArg List.length h1
              rw [nds_length, List.length_take, List.length_append] at this
              omega
            have hsub : ∀ x ∈ nds (l.take (i + 1)), okN x = true := fun x hx => HO.out x (by rw [nds_take] at hx; exact List.mem_of_mem_take hx)
            obtain ⟨bb, xx, hlast, hkid⟩ := last_child t h2
            have hrev := rev_take l i hlt
            rw [h1, hlast, ← List.append_assoc, List.reverse_append] at hrev
            simp only [List.reverse_cons, List.reverse_nil, List.nil_append, List.cons_append, List.cons.injEq] at hrev
            obtain ⟨hx, hti⟩ := hrev
            have hti := List.reverse_inj.1 hti
            obtain ⟨a1, b1, f, hv, hf⟩ := part_v t h2 (fun x hx => hsub x (by rw [h1]; exact List.mem_append_right _ hx)) (by omega)
            have HT1 := Lib.hid (fun (w' : World) (hb : Below w.heap.size w w') => Type_is (a := a1) (b := b1) (d := f) (n := i + 1 - pre.length) (c := c - pre.length) (by rw [part_nds l pre.length (i + 1) (by omega) pre t.post rfl h1]; exact hv) (by rw [List.length_take, List.length_drop]; omega) (c73_part (Kd.C_below HR.out hb) pre.length (i + 1) (by omega) (by omega)) (by omega) (by omega))
            have HB1 := Lib.hid (fun (w' : World) (hb : Below w.heap.size w w') => Begin_calls (some ad) c l i hlt h60 HAR.out pre t h2 h1 w' (Kd.C_below HR.out hb) hc)
            obtain ⟨ad', hA', hx0, _⟩ := at_T73 HR.out (i : Int) (by omega) (by omega)
            cases hA'
            rw [rd_at l i hlt, Int.toNat_natCast] at hx0
            have hxw := hx0
            replace hx0 := (hbw.cell (World.block_lt_of_cell? w _ hx0)).trans hx0
            have hcp : ¬ c = pre.length := by omega
            have hfc : (f = 0 ∧ 1 ≤ a1 ∧ a1 ≤ 4 ∧ typed t) ∨ (f = 16 ∧ ¬ typed t) := by rcases hf with h | h; exact .inl h; exact .inr ⟨h.1, h.2.2⟩
            have HK : Hid (ar l[i].f0 = 0 ∨ (0 < ar l[i].f0 ∧ ∃ (p : List Nd) (cc : Tr), nds (l.take i) = (pre ++ p) ++ cc.post ∧ cc.ok ∧ (typed t → typed cc))) := by
              rw [hx] at hkid
              rcases hkid with h | ⟨h, p, cc, hb, hk, ht⟩
              · exact Lib.hid (.inl h)
              · exact Lib.hid (.inr ⟨h, p, cc, by rw [← hti, hb, List.append_assoc], hk, ht⟩)
            have H3 : At w [] wr := ⟨hbw, by simp, by simp⟩
            have HH3 := Lib.hid h3
            have HSUB := Lib.hid hsub
            have HPL := Lib.hid hpl
            have ht1 : ((i : Int) + 1) - pre.length = ((i + 1 - pre.length : Nat) : Int) := by omega
            clear hf hkid hti hx hlast hv h1 h3 hsub htp hbw h2
            rcases hfc with ⟨rfl, k1, k2, kt⟩ | ⟨rfl, kt⟩
            all_goals
              have HKT := Lib.hid kt
              clear kt
              first | exact absurd (HH3.out (HTY.out trivial)) HKT.out | skip
              all_goals
                try have m1 : decide (a1 < 1) = false := by rw [decide_eq_false_iff_not]; omega
                try have m2 : decide (a1 > 4) = false := by rw [decide_eq_false_iff_not]; omega
                go_wp2_with fail
                refine callAt (HB1.out _ H3.below) H3 ?_
                rintro e w3 rfl H4
                clear H3
                go_wp2_with fail
                refine callAt (HT1.out _ H4.below) H4 ?_
                rintro e w4 rfl H5
                clear H4
                have HC4 := Lib.hid (Args_calls l[i].f0 w4)
                have hx4 := (H5.below.cell (World.block_lt_of_cell? w _ hxw)).trans hxw
                have HX := Lib.hid hxw
                clear hxw hx0
                go_wp2_with fail
                refine callAt HC4.out H5 ?_
                rintro e w5 rfl H6
                clear H5 hx4
                rcases HK.out with h | ⟨h, p, cc, hb, hk, ht⟩
                · have hz : decide (ar l[i].f0 > 0) = false := by rw [decide_eq_false_iff_not]; omega
                  have hb6 := H6.below
                  clear H6 h
                  go_wp2_with fail
                  go_roundw
                  case rel => exact ⟨i + 1, by omega, by simp, hb6⟩
                  case measure => simp [intOf]; omega
                · have hz : decide (ar l[i].f0 > 0) = true := by rw [decide_eq_true_eq]; omega
                  have hcl : (pre ++ p).length + cc.post.length = i := by
                    have := congrArg List.length hb
                    rw [nds_length, List.length_take, List.length_append] at this
                    omega
                  have hcp2 := cc.post_pos
                  have HTC2 := Lib.hid ht
                  obtain ⟨a2, b2, g, hv2, hg⟩ := part_v cc hk (fun x hx => HO.out x (by
                    have h9 : x ∈ nds (l.take i) := by rw [hb]; exact List.mem_append_right _ hx
                    rw [nds_take] at h9; exact List.mem_of_mem_take h9)) (by omega)
                  generalize hq : (pre ++ p).length = q at *
                  have HT2 := Lib.hid (fun (w' : World) (hb2 : Below w.heap.size w w') => Type_is (a := a2) (b := b2) (d := g) (n := i - q) (c := c - q) (by rw [part_nds l q i (by omega) (pre ++ p) cc.post hq hb]; exact hv2) (by rw [List.length_take, List.length_drop]; omega) (c73_part (Kd.C_below HR.out hb2) q i (by omega) (by omega)) (by omega) (by omega))
                  have HB2 := Lib.hid (fun (w' : World) (hb2 : Below w.heap.size w w') => Begin_calls (some ad) c l (i - 1) (by omega) h60 HAR.out (pre ++ p) cc hk (by rw [Nat.sub_add_cancel (by omega)]; exact hb) w' (Kd.C_below HR.out hb2) hc)
                  rw [hq, show ((i - 1 : Nat) : Int) = (i : Int) - 1 by omega] at HB2
                  have hcq : ¬ c = q := by omega
                  have ht2 : (i : Int) - q = ((i - q : Nat) : Int) := by omega
                  have hgc : (g = 0) ∨ (g = 16 ∧ ¬ typed cc) := by rcases hg with h | h; exact .inl h.1; exact .inr ⟨h.1, h.2.2⟩
                  clear hg hv2 hb h ht hk
                  rcases hgc with rfl | ⟨rfl, kt2⟩
                  all_goals
                    first | exact absurd (HTC2.out HKT.out) kt2 | skip
                    all_goals
                      go_wp2_with fail
                      refine callAt (HB2.out _ H6.below) H6 ?_
                      rintro e w6 rfl H7
                      clear H6
                      go_wp2_with fail
                      refine callAt (HT2.out _ H7.below) H7 ?_
                      rintro e w7 rfl H8
                      clear H7
                      have hb8 := H8.below
                      clear H8
                      go_wp2_with fail
                      go_roundw
                      case rel => exact ⟨i + 1, by omega, by simp, hb8⟩
                      case measure => simp [intOf]; omega
          · obtain rfl : i = l.length := by omega
            have H3 : At w [] wr := ⟨hbw, by simp, by simp⟩
            go_wp2_with fail
            refine callAt (alive18 _) H3 ?_
            rintro e w4 rfl H4
            go_wp2_with fail
            go_ret
            exact ⟨rfl, H4.below⟩
  · have hd : decide ((l.length : Int) > 60) = true := by simp; omega
    go_enter Try.func9, Try.ntmps9
    have H0 := At.refl w
    go_wp2_with fail
    refine callAt (alive18 _) H0 ?_
    rintro e w3 rfl H3
    go_wp2_with fail
    go_ret
    exact ⟨rfl, H3.below⟩
end Go.Proofs.Ytinommcocgnmlaa.PTypingTypes
