/- Chapter 10: Load. -/
import Derived.Test.YtmlgkahadgpaiaaVaE
namespace Go.Proofs.Ytmlgkahadgpaiaa.Va
open Go.RowKit _root_.Go.Proofs.Ytmlgkahadgpaiaa.Own
open Go.Proofs.Ytmlgkahadgpaiaa.Fr
open Go.Proofs.Ytmlgkahadgpaiaa.Dk (D Is D0 torn putRow rowB wst DOk made_all wpList_make_at rowB_length)
set_option linter.unusedVariables false
set_option linter.unusedSimpArgs false
/-- What the variables say. -/
structure Cur (base : Nat) (o : Option (Nat × List UInt8)) (fv ov bv : Value) (bad : List Nat) (w : World) : Prop where
  no : o = none → fv = .bool false ∧ ov = .slice none 0 0 ∧ bv = .int .i64 0
  yes : ∀ G b, o = some (G, b) → fv = .bool true ∧ bv = .int .i64 (G : Nat) ∧ ∃ A c, ov = .slice A b.length c ∧ b.length ≤ c ∧ (A = none → c = 0) ∧ Rd w A (bys b) ∧ ∀ a, A = some a → a.block ∉ bad ∧ base ≤ a.block
def vars (fb ob bb vb v : Nat) (fv ov bv : Value) : List (Nat × List Value × TypeId) := [(fb, [fv], 4), (ob, [ov], 23), (bb, [bv], 3), (vb, [.pointer (some ⟨v, 0, none⟩)], 29)]
theorem vars_rules {W w : World} {fb ob bb vb v : Nat} {fv ov bv : Value} (h : At W (vars fb ob bb vb v fv ov bv) w) :
    (w.cell? ⟨fb, 0, none⟩ = some fv ∧ w.frozen? ⟨fb, 0, none⟩ = false) ∧ (w.cell? ⟨ob, 0, none⟩ = some ov ∧ w.frozen? ⟨ob, 0, none⟩ = false) ∧ (w.cell? ⟨bb, 0, none⟩ = some bv ∧ w.frozen? ⟨bb, 0, none⟩ = false) ∧ w.cell? ⟨vb, 0, none⟩ = some (.pointer (some ⟨v, 0, none⟩)) := by
  have q := fun i x (hx : (vars fb ob bb vb v fv ov bv)[i]? = some x) => h.rules x (List.mem_of_getElem? hx)
  have q0 := q 0 _ rfl
  have q1 := q 1 _ rfl
  have q2 := q 2 _ rfl
  have q3 := q 3 _ rfl
  exact ⟨⟨q0.1 0, q0.2.1 0⟩, ⟨q1.1 0, q1.2.1 0⟩, ⟨q2.1 0, q2.2.1 0⟩, q3.1 0⟩
theorem rd_setO {w : World} {A : Option Addr} {xs : List Value} (h : Rd w A xs) (g i : Nat) (v : Value) (hne : ∀ a, A = some a → a.block ≠ g) : Rd (w.setCell ⟨g, i, none⟩ v) A xs := by
  cases A with
  | none => intro i hi; obtain ⟨_, h0, _⟩ := h i hi; cases h0
  | some a => exact rd_setOther h g i v (hne a rfl)
theorem Cur.below {base : Nat} {o : Option (Nat × List UInt8)} {fv ov bv : Value} {bad : List Nat} {w w' : World} (h : Cur base o fv ov bv bad w) (hb : Below w.heap.size w w') : Cur base o fv ov bv bad w' :=
  ⟨h.no, fun G b e => by
    obtain ⟨h1, h2, A, c, h3, h4, h5, h6, h7⟩ := h.yes G b e
    exact ⟨h1, h2, A, c, h3, h4, h5, h6.below hb, h7⟩⟩
set_option maxRecDepth 10000 in
set_option maxHeartbeats 4000000 in
theorem take_calls {w0 W : World} {v g r n f : Nat} {d : D} {w : World} (p : VS w0 v g r n f d W) (ho : d.off = false) (hf : f + 512 ≤ n) (hn : n ≤ 1024) (odd : Nat) (h2 : odd < 2) {fb ob bb vb : Nat} {fv ov bv : Value} (hA : At W (vars fb ob bb vb v fv ov bv) w) (o : Option (Nat × List UInt8)) (hC : Cur W.heap.size o fv ov bv [fb, ob, bb, vb] w) :
    Calls Try.prog 43 #[.int .i64 odd, .pointer (some ⟨vb, 0, none⟩), .pointer (some ⟨fb, 0, none⟩), .pointer (some ⟨bb, 0, none⟩), .pointer (some ⟨ob, 0, none⟩)] w fun e w' => e = .returned (.tuple #[]) ∧ ∃ fv' ov' bv', At W (vars fb ob bb vb v fv' ov' bv') w' ∧ Cur W.heap.size (better o (hasD d.all (areaN f odd) odd)) fv' ov' bv' [fb, ob, bb, vb] w' := by
  have HH := Lib.hid (has_calls (p.call hA.below) ho hf hn odd h2)
  have HA := Lib.hid hA
  have HC := Lib.hid hC
  obtain ⟨R, hR⟩ : ∃ R, hasD d.all (areaN f odd) odd = R := ⟨_, rfl⟩
  rw [hR] at HH ⊢
  obtain ⟨-, -, -, c4⟩ := vars_rules hA
  have hsz := fun x hx => (hA.rules x hx).2.2.1
  have HSZ := Lib.hid hsz
  clear hR hA hC p hsz
  go_enter Try.func43, Try.ntmps43
  go_wp2_with fail
  refine HH.out.mono ?_
  rintro e w1 ⟨hres, hb⟩
  have HA1 := Lib.hid (HA.out.call hb)
  have HB := Lib.hid hb
  obtain ⟨⟨c1, k1⟩, ⟨c2, k2⟩, ⟨c3, k3⟩, c4⟩ := vars_rules HA1.out
  clear hb HH
  have hne : ∀ k, k ∈ [fb, ob, bb, vb] → k < w.heap.size := by
    intro k hk
    simp only [List.mem_cons, List.not_mem_nil, or_false] at hk
    rcases hk with rfl | rfl | rfl | rfl
    · exact HSZ.out _ (.head _)
    · exact HSZ.out _ (.tail _ (.head _))
    · exact HSZ.out _ (.tail _ (.tail _ (.head _)))
    · exact HSZ.out _ (.tail _ (.tail _ (.tail _ (.head _))))
  have HNE := Lib.hid hne
  clear hne HSZ
  cases R with
  | none =>
    obtain ⟨g', A', n', c', rfl⟩ := hres.2 rfl
    have HC1 := Lib.hid (HC.out.below HB.out)
    clear hres
    go_wp2_with fail
    go_end0
    exact ⟨rfl, _, _, _, HA1.out, HC1.out⟩
  | some gb =>
    obtain ⟨h, b⟩ := gb
    obtain ⟨A', c', rfl, hle, hnil, hrd, hfr⟩ := hres.1 h b rfl
    have HRD := Lib.hid hrd
    have HFR := Lib.hid hfr
    clear hres hrd hfr
    have hset : ∀ (ww : World), ww = ((w1.setCell ⟨bb, 0, none⟩ (.int .i64 (h : Nat))).setCell ⟨ob, 0, none⟩ (.slice A' b.length c')).setCell ⟨fb, 0, none⟩ (.bool true) → At W (vars fb ob bb vb v (.bool true) (.slice A' b.length c') (.int .i64 (h : Nat))) ww ∧ Cur W.heap.size (some (h, b)) (.bool true) (.slice A' b.length c') (.int .i64 (h : Nat)) [fb, ob, bb, vb] ww := by
      rintro ww rfl
      refine ⟨((HA1.out.set 2 rfl 0 _).set 1 rfl 0 _).set 0 rfl 0 _, (fun h => nomatch h), ?_⟩
      rintro G b' hb'
      cases hb'
      have hb1 : ∀ k, k ∈ [fb, ob, bb, vb] → ∀ a, A' = some a → a.block ≠ k := by
        intro k hk a ha e
        have h1 := HFR.out a ha
        have h2 := HNE.out k hk
        omega
      refine ⟨rfl, rfl, A', c', rfl, hle, hnil, ?_, fun a ha => ⟨fun hk => hb1 _ hk a ha rfl, Nat.le_trans HA.out.below.size (HFR.out a ha)⟩⟩
      exact rd_setO (rd_setO (rd_setO HRD.out _ _ _ (hb1 bb (by simp))) _ _ _ (hb1 ob (by simp))) _ _ _ (hb1 fb (by simp))
    have HSET := Lib.hid hset
    have n1 : bb ≠ ob ∧ bb ≠ fb ∧ ob ≠ fb ∧ ob ≠ bb ∧ fb ≠ bb ∧ fb ≠ ob := by
      have h1 := HA1.out.nodup
      simp [vars] at h1
      obtain ⟨⟨q1, q2, q3⟩, ⟨q4, q5⟩, q6⟩ := h1
      exact ⟨fun e => q4 e.symm, fun e => q2 e.symm, fun e => q1 e.symm, q4, q2, q1⟩
    obtain ⟨n1, n2, n3, n4, n5, n6⟩ := n1
    clear hset
    cases o with
    | none =>
      obtain ⟨rfl, rfl, rfl⟩ := HC.out.no rfl
      go_wp2_with fail
      go_end0
      exact ⟨rfl, .bool true, .slice A' b.length c', .int .i64 (h : Nat), HSET.out _ rfl⟩
    | some gb =>
      obtain ⟨g', b'⟩ := gb
      have hyes := HC.out.yes g' b' rfl
      obtain ⟨rfl, rfl, -⟩ := hyes
      by_cases hlt : g' < h
      · have d1 : decide ((h : Int) > (g' : Int)) = true := by rw [decide_eq_true_eq]; omega
        have d2 : decide (g' < h) = true := decide_eq_true hlt
        go_wp2_with fail
        go_end0
        refine ⟨rfl, .bool true, .slice A' b.length c', .int .i64 (h : Nat), ?_⟩
        rw [show better (some (g', b')) (some (h, b)) = some (h, b) from if_pos hlt]
        exact HSET.out _ rfl
      · have d1 : decide ((h : Int) > (g' : Int)) = false := by rw [decide_eq_false_iff_not]; omega
        have d2 : decide (g' < h) = false := decide_eq_false hlt
        have HC1 := Lib.hid (HC.out.below HB.out)
        go_wp2_with fail
        go_end0
        refine ⟨rfl, _, _, _, HA1.out, ?_⟩
        rw [show better (some (g', b')) (some (h, b)) = some (g', b') from if_neg hlt]
        exact HC1.out
def LoadRes (base : Nat) (o : Option (Nat × List UInt8)) (e : Ending) (w' : World) : Prop :=
  (∀ G b, o = some (G, b) → ∃ A c, e = .returned (.tuple #[.int .i64 (G : Nat), .slice A b.length c, .int .i64 0]) ∧ b.length ≤ c ∧ (A = none → c = 0) ∧ Rd w' A (bys b) ∧ ∀ a, A = some a → base ≤ a.block)
  ∧ (o = none → e = .returned (.tuple #[.int .i64 0, .slice none 0 0, .int .i64 6]))
set_option maxRecDepth 10000 in
set_option maxHeartbeats 4000000 in
theorem LoadOn_calls {w0 : World} {v g r n f : Nat} {d : D} {w : World} (p : VS w0 v g r n f d w) (ho : d.off = false) (hf : f + 512 ≤ n) (hn : n ≤ 1024) :
    Calls Try.prog 17 #[.pointer (some ⟨v, 0, none⟩)] w fun e w' => LoadRes w.heap.size (loadD d.all f) e w' ∧ Below w.heap.size w w' := by
  have hmf : ∀ (fn : Fn) (first cap : Array Value) (w : World), (Instr.makeFunc fn first cap).run Try.prog w = .ok (.func fn first cap) w := fun _ _ _ _ => rfl
  have HP := Lib.hid p
  have h0 := (At.refl w).alloc [.pointer (some ⟨v, 0, none⟩)] 29
  have HP0 := Lib.hid (p.call h0.below)
  have H0 := Lib.hid h0
  have HON := fun W (p : VS w0 v g r n f d W) => Dk.On_calls p.is
  rw [ho] at HON
  have HON := Lib.hid HON
  obtain ⟨y0, y1⟩ := HP0.out.vis.cells
  clear p h0
  go_enter Try.func17, Try.ntmps17
  go_wp2_with fail
  refine (ok_calls HP0.out.vis).mono ?_
  rintro e w1 ⟨rfl, rfl⟩
  go_wp2_with fail
  refine (HON.out _ HP0.out).mono ?_
  rintro e w1 ⟨rfl, hb1⟩
  have hA3 : At w (vars (w1.heap.size + 1 + 1) (w1.heap.size + 1) w1.heap.size w.heap.size v (.bool false) (.slice none 0 0) (.int .i64 0)) (((w1.alloc (.cells #[.int .i64 0] 3)).alloc (.cells #[.slice none 0 0] 23)).alloc (.cells #[.bool false] 4)) := by
    have h1 := (((H0.out.call hb1).alloc [.int .i64 0] 3).alloc [.slice none 0 0] 23).alloc [.bool false] 4
    simp only [World.size_alloc] at h1
    exact h1
  have hC3 : ∀ W, Cur w.heap.size none (.bool false) (.slice none 0 0) (.int .i64 0) [w1.heap.size + 1 + 1, w1.heap.size + 1, w1.heap.size, w.heap.size] W := fun W => ⟨fun _ => ⟨rfl, rfl, rfl⟩, (fun _ _ h => nomatch h)⟩
  have HA3 := Lib.hid hA3
  have HC3 := Lib.hid hC3
  clear hb1 hA3 hC3 y0 y1
  go_wp2_with fail
  refine (take_calls HP.out ho hf hn 0 (by decide) HA3.out none (HC3.out _)).mono ?_
  rintro e w2 ⟨rfl, fv, ov, bv, hA4, hC4⟩
  have HA4 := Lib.hid hA4
  have HC4 := Lib.hid hC4
  clear hA4 hC4
  go_wp2_with fail
  refine (take_calls HP.out ho hf hn 1 (by decide) HA4.out _ HC4.out).mono ?_
  rintro e w3 ⟨rfl, fv, ov, bv, hA5, hC5⟩
  rw [show better (better none (hasD d.all (areaN f 0) 0)) (hasD d.all (areaN f 1) 1) = loadD d.all f from by
    unfold loadD
    congr 1
    cases hasD d.all (areaN f 0) 0 <;> rfl] at hC5
  have HA5 := Lib.hid hA5
  have HC5 := Lib.hid hC5
  obtain ⟨⟨c1, k1⟩, ⟨c2, k2⟩, ⟨c3, k3⟩, c4⟩ := vars_rules hA5
  clear hA5 hC5 HA4 HC4 HA3 HC3 HP HP0 H0
  obtain ⟨o, hO⟩ : ∃ o, loadD d.all f = o := ⟨_, rfl⟩
  rw [hO] at HC5
  have HO := Lib.hid hO
  clear hO
  cases o with
  | none =>
    obtain ⟨rfl, rfl, rfl⟩ := HC5.out.no rfl
    go_wp2_with fail
    go_ret3
    rw [HO.out]
    exact ⟨⟨(fun _ _ h => nomatch h), fun _ => rfl⟩, HA5.out.below⟩
  | some gb =>
    obtain ⟨G, b⟩ := gb
    obtain ⟨rfl, rfl, A, c, rfl, hle, hnil, hrd, hfr⟩ := HC5.out.yes G b rfl
    have HRD := Lib.hid hrd
    have HFR := Lib.hid hfr
    clear hrd hfr
    have K := fun (W : World) (h : Below w3.heap.size w3 W) => (vars_rules (HA5.out.call h)).2
    have K := fun (W : World) (h : Below w3.heap.size w3 W) => And.intro (K W h).1.1 (K W h).2.1.1
    obtain ⟨J, hJ⟩ : ∃ J : World → Prop, ∀ W, J W ↔ Below w3.heap.size w3 W := ⟨_, fun _ => Iff.rfl⟩
    have K := fun W h => K W ((hJ W).1 h)
    have HJ := Lib.hid hJ
    have hj := (HJ.out w3.drew).2 ((Below.refl _ _).drew)
    clear hJ c2 k2 c3 k3 c4
    go_wp2
    refine region_inv J (by kernel_rfl) (by kernel_rfl) hj ?_
    repeat (first | (apply inv_yes; (· go_simp); (· intro w1 h1; obtain ⟨z0, z1⟩ := K w1 h1; go_simp; exact ⟨rfl, h1⟩); (· go_simp; rfl)) | (apply inv_no; (· go_simp); (· go_simp; rfl)))
    refine wpInv_nil (fun w5 h5 => ?_)
    have H5 := Lib.hid ((HJ.out _).1 h5)
    clear K h5 hj HJ
    go_wp2_with fail
    go_ret3
    rw [HO.out]
    refine ⟨⟨?_, (fun h => nomatch h)⟩, HA5.out.below.trans (H5.out.mono HA5.out.below.size)⟩
    rintro G' b' hb'
    cases hb'
    exact ⟨A, c, rfl, hle, hnil, HRD.out.below H5.out, fun a ha => (HFR.out a ha).2⟩
end Go.Proofs.Ytmlgkahadgpaiaa.Va
namespace Go.Proofs.Ytmlgkahadgpaiaa.Va
open Go.RowKit _root_.Go.Proofs.Ytmlgkahadgpaiaa.Own
open Go.Proofs.Ytmlgkahadgpaiaa.Fr
open Go.Proofs.Ytmlgkahadgpaiaa.Dk (D Is D0 torn putRow rowB wst DOk made_all wpList_make_at rowB_length)
set_option linter.unusedVariables false
set_option linter.unusedSimpArgs false
set_option maxRecDepth 10000 in
theorem New_calls {g r n : Nat} {d : D} {w : World} (h : Is g r n n [] d w) (f : Nat) (hf : f + 512 ≤ n) (hn : n ≤ 1024) :
    Calls Try.prog 12 #[.pointer (some ⟨g, 0, none⟩), .int .i64 f] w fun e w' => ∃ x, e = .returned (.tuple #[.pointer (some ⟨x, 0, none⟩), .int .i64 0]) ∧ VIs x g f w' ∧ w.heap.size ≤ x ∧ Below w.heap.size w w' := by
  have HL := Lib.hid (Dk.Len_calls h)
  have m1 : decide ((f : Int) < 0) = false := by rw [decide_eq_false_iff_not]; omega
  have f1 : IntKind.i64.wrap ((n : Int) - 512) = (n : Int) - 512 := by rw [IntKind.wrap_i64]; omega
  have m2 : decide ((f : Int) > (n : Int) - 512) = false := by rw [decide_eq_false_iff_not]; omega
  have m3 : decide ((n : Int) - 512 < (f : Int)) = false := by rw [decide_eq_false_iff_not]; omega
  clear h
  go_enter Try.func12, Try.ntmps12
  go_wp2_with fail
  refine HL.out.mono ?_
  rintro e w1 ⟨rfl, hb1⟩
  have hb2 := hb1.alloc hb1.size (.cells #[.pointer (some ⟨g, 0, none⟩), .int .i64 f] 39)
  have hv := heap_alloc_new w1 (.cells #[.pointer (some ⟨g, 0, none⟩), .int .i64 f] 39)
  have HB2 := Lib.hid hb2
  have HV := Lib.hid hv
  have HS := Lib.hid hb1.size
  clear hb1 hb2 hv
  go_wp2_with fail
  go_ret2
  exact ⟨_, rfl, HV.out, HS.out, HB2.out⟩
set_option maxRecDepth 10000 in
theorem NewRange_calls {g r n : Nat} {d : D} {w : World} (h : Is g r n n [] d w) (f : Int) (hn : n ≤ 1024) (hf : f < 0 ∨ (n : Int) - 512 < f) :
    Calls Try.prog 12 #[.pointer (some ⟨g, 0, none⟩), .int .i64 f] w fun e w' => e = .returned (.tuple #[.pointer none, .int .i64 8]) ∧ Below w.heap.size w w' := by
  have HL := Lib.hid (Dk.Len_calls h)
  have f1 : IntKind.i64.wrap ((n : Int) - 512) = (n : Int) - 512 := by rw [IntKind.wrap_i64]; omega
  clear h
  by_cases c1 : f < 0
  · have m1 := decide_eq_true c1
    go_enter Try.func12, Try.ntmps12
    go_wp2_with fail
    try (refine HL.out.mono ?_; rintro e w1 ⟨rfl, hb1⟩; go_wp2_with fail)
    go_ret2
    first | exact ⟨rfl, Below.refl _ _⟩ | exact ⟨rfl, hb1⟩
  · have m1 := decide_eq_false c1
    have c2 : (n : Int) - 512 < f := by rcases hf with h | h <;> first | exact absurd h c1 | exact h
    have m2 : decide (f > (n : Int) - 512) = true := by rw [decide_eq_true_eq]; omega
    have m3 := decide_eq_true c2
    go_enter Try.func12, Try.ntmps12
    go_wp2_with fail
    refine HL.out.mono ?_
    rintro e w1 ⟨rfl, hb1⟩
    have HB1 := Lib.hid hb1
    clear hb1
    go_wp2_with fail
    go_ret2
    exact ⟨rfl, HB1.out⟩
theorem NewNil_calls (f : Int) (w : World) : Calls Try.prog 12 #[.pointer none, .int .i64 f] w fun e w' => e = .returned (.tuple #[.pointer none, .int .i64 2]) ∧ w = w' := by
  go_enter Try.func12, Try.ntmps12
  go_wp2_with fail
  go_ret2
  exact ⟨rfl, rfl⟩
theorem nilok_calls (w : World) : Calls Try.prog 40 #[.pointer none] w fun e w' => e = .returned (.bool false) ∧ w = w' := by
  go_enter Try.func40, Try.ntmps40
  go_wp2_with fail
  go_ret
  exact ⟨rfl, rfl⟩
theorem emptyok_calls (v : Nat) (w : World) (h : w.cell? ⟨v, 0, none⟩ = some (.pointer none)) : Calls Try.prog 40 #[.pointer (some ⟨v, 0, none⟩)] w fun e w' => e = .returned (.bool false) ∧ w = w' := by
  go_enter Try.func40, Try.ntmps40
  go_wp2_with fail
  go_ret
  exact ⟨rfl, rfl⟩
/-- A vault that nobody made: nil, or without a disk. -/
def Nobody (x : Value) (w : World) : Prop := x = .pointer none ∨ ∃ v, x = .pointer (some ⟨v, 0, none⟩) ∧ w.cell? ⟨v, 0, none⟩ = some (.pointer none)
theorem Nobody.below {x : Value} {w w' : World} (h : Nobody x w) (hb : Below w.heap.size w w') : Nobody x w' := by
  rcases h with rfl | ⟨v, rfl, h⟩
  · exact .inl rfl
  · exact .inr ⟨v, rfl, (hb.cell (World.block_lt_of_cell? w _ h)).trans h⟩
theorem Nobody.ok {x : Value} {w : World} (h : Nobody x w) : Calls Try.prog 40 #[x] w fun e w' => e = .returned (.bool false) ∧ w = w' := by
  rcases h with rfl | ⟨v, rfl, h⟩
  · exact nilok_calls w
  · exact emptyok_calls v w h
theorem NobodySave_calls {x : Value} {w : World} (h : Nobody x w) (gen : Int) (b : Value) : Calls Try.prog 13 #[x, .int .i64 gen, b] w fun e w' => e = .returned (.int .i64 2) ∧ w = w' := by
  have H := Lib.hid h.ok
  clear h
  go_enter Try.func13, Try.ntmps13
  go_wp2_with fail
  refine H.out.mono ?_
  rintro e w1 ⟨rfl, rfl⟩
  go_wp2_with fail
  go_ret
  exact ⟨rfl, rfl⟩
theorem NobodyLoad_calls (x : Option Addr) {w : World} (h : Nobody (.pointer x) w) : Calls Try.prog 17 #[.pointer x] w fun e w' => e = .returned (.tuple #[.int .i64 0, .slice none 0 0, .int .i64 2]) ∧ Below w.heap.size w w' := by
  have hb := (Below.refl w.heap.size w).alloc (Nat.le_refl _) (.cells #[.pointer x] 29)
  have H := Lib.hid (h.below hb).ok
  have HB := Lib.hid hb
  clear hb h
  go_enter Try.func17, Try.ntmps17
  go_wp2_with fail
  refine H.out.mono ?_
  rintro e w1 ⟨rfl, rfl⟩
  go_wp2_with fail
  go_ret3
  exact ⟨rfl, HB.out⟩
set_option maxRecDepth 10000 in
theorem LoadOff_calls {w0 : World} {v g r n f : Nat} {d : D} {w : World} (p : VS w0 v g r n f d w) (ho : d.off = true) :
    Calls Try.prog 17 #[.pointer (some ⟨v, 0, none⟩)] w fun e w' => e = .returned (.tuple #[.int .i64 0, .slice none 0 0, .int .i64 19]) ∧ Below w.heap.size w w' := by
  have hb := (Below.refl w.heap.size w).alloc (Nat.le_refl _) (.cells #[.pointer (some ⟨v, 0, none⟩)] 29)
  have HP0 := Lib.hid (p.call hb)
  have HON := fun W (p : VS w0 v g r n f d W) => Dk.On_calls p.is
  rw [ho] at HON
  have HON := Lib.hid HON
  obtain ⟨y0, y1⟩ := HP0.out.vis.cells
  have HB := Lib.hid hb
  clear p hb
  go_enter Try.func17, Try.ntmps17
  go_wp2_with fail
  refine (ok_calls HP0.out.vis).mono ?_
  rintro e w1 ⟨rfl, rfl⟩
  go_wp2_with fail
  refine (HON.out _ HP0.out).mono ?_
  rintro e w1 ⟨rfl, hb1⟩
  have HB1 := Lib.hid (HB.out.trans (hb1.mono HB.out.size))
  clear hb1 y0 y1
  go_wp2_with fail
  go_ret3
  exact ⟨rfl, HB1.out⟩
theorem SaveRange_calls {v g f : Nat} {w : World} (h : VIs v g f w) (gen : Int) (hg : gen < 0 ∨ 2147483647 < gen) (b : Value) :
    Calls Try.prog 13 #[.pointer (some ⟨v, 0, none⟩), .int .i64 gen, b] w fun e w' => e = .returned (.int .i64 8) ∧ w = w' := by
  have H := Lib.hid (ok_calls h)
  clear h
  by_cases c1 : gen < 0
  · have m1 := decide_eq_true c1
    go_enter Try.func13, Try.ntmps13
    go_wp2_with fail
    refine H.out.mono ?_
    rintro e w1 ⟨rfl, rfl⟩
    go_wp2_with fail
    go_ret
    exact ⟨rfl, rfl⟩
  · have m1 := decide_eq_false c1
    have c2 : 2147483647 < gen := by rcases hg with h | h <;> first | exact absurd h c1 | exact h
    have m2 := decide_eq_true c2
    have m3 : decide (gen > 2147483647) = true := decide_eq_true c2
    go_enter Try.func13, Try.ntmps13
    go_wp2_with fail
    refine H.out.mono ?_
    rintro e w1 ⟨rfl, rfl⟩
    go_wp2_with fail
    go_ret
    exact ⟨rfl, rfl⟩
theorem SaveFull_calls {v g f : Nat} {w : World} (h : VIs v g f w) (gen : Nat) (hg : gen ≤ 2147483647) (A : Option Addr) (l c : Nat) (hl : 32640 < l) (hm : l ≤ 1000000) :
    Calls Try.prog 13 #[.pointer (some ⟨v, 0, none⟩), .int .i64 gen, .slice A l c] w fun e w' => e = .returned (.int .i64 12) ∧ w = w' := by
  have H := Lib.hid (ok_calls h)
  have m1 : decide ((gen : Int) < 0) = false := by rw [decide_eq_false_iff_not]; omega
  have m2 : decide ((gen : Int) > 2147483647) = false := by rw [decide_eq_false_iff_not]; omega
  have hbk : 255 < blkN l := by unfold blkN; omega
  have m3 : decide (((blkN l : Nat) : Int) > 255) = true := by rw [decide_eq_true_eq]; omega
  have m4 : decide (255 < blkN l) = true := decide_eq_true hbk
  have HBK := Lib.hid (Blocks_calls l (by omega) w)
  clear h hg hm hl hbk
  go_enter Try.func13, Try.ntmps13
  go_wp2_with fail
  refine H.out.mono ?_
  rintro e w1 ⟨rfl, rfl⟩
  go_wp2_with fail
  refine HBK.out.mono ?_
  rintro e w1 ⟨rfl, rfl⟩
  go_wp2_with fail
  go_ret
  exact ⟨rfl, rfl⟩
end Go.Proofs.Ytmlgkahadgpaiaa.Va
