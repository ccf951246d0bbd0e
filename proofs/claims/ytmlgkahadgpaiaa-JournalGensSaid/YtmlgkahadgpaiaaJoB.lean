/- Chapter 09: Open. -/
import Derived.Test.YtmlgkahadgpaiaaJoA
namespace Go.Proofs.Ytmlgkahadgpaiaa.Jo
open Go.RowKit _root_.Go.Proofs.Ytmlgkahadgpaiaa.Own
open Go.Proofs.Ytmlgkahadgpaiaa.Fr
open Go.Proofs.Ytmlgkahadgpaiaa.Dk (D Is D0 torn putRow rowB wst DOk rowB_length)
open Go.Proofs.Ytmlgkahadgpaiaa.Va (rd_row rd_keep)
set_option linter.unusedVariables false
set_option linter.unusedSimpArgs false
/-- A place that is committed: what it has. -/
noncomputable def placeD (all : List UInt8) (f G i : Nat) : Option (List UInt8) :=
  match stF 82 (rowB all (f + 2 * i)) G i with
  | none => none
  | some p => match stF 67 (rowB all (f + 2 * i + 1)) G i with
    | none => none
    | some c => if c.length = 0 then some p else none
theorem infoS : (Try.prog.info? 23).map (fun i => (i.zero, i.size, i.bytes)) = some (some (.slice none 0 0), 1, 24) := by kernel_rfl
/-- What Open tells. -/
structure Opened (base : Nat) (all : List UInt8) (f m G : Nat) (v : Value) (ps : List (Option Addr × Nat × List UInt8)) (w : World) : Prop where
  few : ps.length ≤ m
  each : ∀ q (h : q < ps.length), placeD all f G q = some ps[q].2.2
  has : Has base 23 v (sls ps) w
  rows : ∀ p ∈ ps, (p.1 = none → p.2.1 = 0) ∧ p.2.2.length ≤ p.2.1 ∧ Rd w p.1 (bys p.2.2) ∧ (0 < p.2.2.length → ∀ a, p.1 = some a → base ≤ a.block ∧ v.ownBlock ≠ some a.block)
theorem sls_one (ps : List (Option Addr × Nat × List UInt8)) (A : Option Addr) (c : Nat) (b : List UInt8) : sls (ps ++ [(A, c, b)]) = sls ps ++ [.slice A b.length c] := by simp [sls]
theorem hasLow {base : Nat} {e : TypeId} {v : Value} {xs : List Value} {w : World} (h : Has base e v xs w) (g i : Nat) (hg : g < base) (u : Value) : Has base e v xs (w.setCell ⟨g, i, none⟩ u) := by
  refine World.ownsRow.kept h (row := some g) ⟨rfl, rfl, rfl, by simp, fun k hk hne => Below.heap_setCell w _ _ _ (by simpa using hne)⟩ ?_
  cases hv : v.ownBlock with
  | none => exact .inl rfl
  | some k => exact .inr (by have := h.blk k hv; simp; omega)
theorem rd_nil' {w : World} {A : Option Addr} {xs : List Value} (h : xs.length = 0) : Rd w A xs := fun i hi => absurd hi (by omega)
theorem rd_setO {w : World} {A : Option Addr} {xs : List Value} (h : Rd w A xs) (g i : Nat) (v : Value) (hne : 0 < xs.length → ∀ a, A = some a → a.block ≠ g) : Rd (w.setCell ⟨g, i, none⟩ v) A xs := by
  by_cases h0 : xs.length = 0
  · exact rd_nil' h0
  · cases A with
    | none => intro i hi; obtain ⟨_, h0, _⟩ := h i hi; cases h0
    | some a => exact rd_setOther h g i v (hne (by omega) a rfl)
theorem rd_grown {w w' : World} {A : Option Addr} {xs : List Value} {row : Option Nat} (h : Rd w A xs) (hg : w.grownBy w' row) (hne : 0 < xs.length → ∀ a, A = some a → row ≠ some a.block) : Rd w' A xs := by
  intro i hi
  obtain ⟨a, ha, hc⟩ := h i hi
  have hb := World.block_lt_of_cell? w _ hc
  refine ⟨a, ha, (World.cell?_of_block (w := w) (hg.block _ hb ?_)).trans hc⟩
  rw [block_add]
  exact fun e => hne (by omega) a ha e.symm
/-- 'append' onto a row of the call's own, and where the new row lies. -/
theorem wpList_app_at {P : Program} {w : World} {ops : Array Oper} {rest : List Oper} {o : Oper} {a : Act} {Q : Exit → Act → World → Prop} (hgd : o.guard = none) (s x : Operand) (t : TypeId)
    (ho : o.op = .call { callee := .builtin .append, args := #[s, x], argTypes := #[t, t] }) (base : Nat) (e : TypeId) (z : Value) (by' : Nat) (ht : P.underlying t = some (.slice e))
    (hinfo : (P.info? e).map (fun i => (i.zero, i.size, i.bytes)) = some (some z, 1, by')) (hz : z.cells.size = 1)
    (v : Value) (xs : List Value) (hs : a.eval s = v) (hown : Has base e v xs w) (ad : Addr) (m c : Nat) (ys : List Value) (hx : a.eval x = .slice (some ad) m c) (hm : m = ys.length) (hR : Rd w (some ad) ys)
    (h1 : ∀ u ∈ ys, u.oneCell' = true) (h63 : xs.length + ys.length ≤ maxLen) (hbytes : (xs.length + ys.length) * by' ≤ 140737488355328) (hbase : base ≤ w.heap.size)
    (h : ∀ v' w', Has base e v' (xs ++ ys) w' → w.grownBy w' v.ownBlock → (v'.ownBlock = v.ownBlock ∨ v'.ownBlock = some w.heap.size) → wpList P ops Q rest (a.put o.dst v') w') : wpList P ops Q (o :: rest) a w := by
  obtain ⟨i0, hi, hz0, hz1, hz2⟩ := info_parts hinfo
  subst hm
  refine wpList_append_own_at _ hgd s x t ho base e i0 z 1 by' ht hi hz0 hz1 hz2 hz (by decide) v xs.length xs hs hown ad ys.length c ys hx (by simp) ?_ h1 h63 hbytes hbase fun v' w' h2 h3 _ h5 => h v' w' ?_ h3 h5
  · intro j u hu
    obtain ⟨hj, rfl⟩ := List.getElem?_eq_some_iff.1 hu
    obtain ⟨a', ha', hc'⟩ := hR j hj
    cases ha'
    exact hc'
  · show w'.ownsRow base e 1 v' (xs ++ ys).length (xs ++ ys)
    rw [List.length_append]; exact h2
theorem Opened.low {base : Nat} {all : List UInt8} {f m G : Nat} {v : Value} {ps : List (Option Addr × Nat × List UInt8)} {w : World} (h : Opened base all f m G v ps w) (g i : Nat) (hg : g < base) (u : Value) : Opened base all f m G v ps (w.setCell ⟨g, i, none⟩ u) :=
  ⟨h.few, h.each, hasLow h.has g i hg u, fun p hp => ⟨(h.rows p hp).1, (h.rows p hp).2.1, rd_setO (h.rows p hp).2.2.1 g i u (fun h0 a ha => by have := ((h.rows p hp).2.2.2 (by rw [bys_length] at h0; exact h0) a ha).1; omega), (h.rows p hp).2.2.2⟩⟩
theorem Opened.below {base : Nat} {all : List UInt8} {f m G : Nat} {v : Value} {ps : List (Option Addr × Nat × List UInt8)} {w w' : World} (h : Opened base all f m G v ps w) (hb : Below w.heap.size w w') : Opened base all f m G v ps w' :=
  ⟨h.few, h.each, h.has.below hb, fun p hp => ⟨(h.rows p hp).1, (h.rows p hp).2.1, (h.rows p hp).2.2.1.below hb, (h.rows p hp).2.2.2⟩⟩
theorem hasBase {b b' : Nat} {e : TypeId} {v : Value} {xs : List Value} {w : World} (h : Has b e v xs w) (hb : b' ≤ b) : Has b' e v xs w := by
  obtain ⟨h1, h2⟩ := h
  refine ⟨h1, ?_⟩
  rcases h2 with h2 | ⟨g, cap, cur, q1, q2, q3⟩
  · exact .inl h2
  · exact .inr ⟨g, cap, cur, q1, Nat.le_trans hb q2, q3⟩
theorem Opened.lower {base base' : Nat} {all : List UInt8} {f m G : Nat} {v : Value} {ps : List (Option Addr × Nat × List UInt8)} {w : World} (h : Opened base all f m G v ps w) (hb : base' ≤ base) : Opened base' all f m G v ps w :=
  ⟨h.few, h.each, hasBase h.has hb, fun p hp => ⟨(h.rows p hp).1, (h.rows p hp).2.1, (h.rows p hp).2.2.1, fun h0 a ha => ⟨Nat.le_trans hb ((h.rows p hp).2.2.2 h0 a ha).1, ((h.rows p hp).2.2.2 h0 a ha).2⟩⟩⟩
theorem Opened.add {base : Nat} {all : List UInt8} {f m G : Nat} {v v' : Value} {ps : List (Option Addr × Nat × List UInt8)} {w w1 w' : World} {A : Option Addr} {c : Nat} {b : List UInt8} (h : Opened base all f m G v ps w) (hk : ps.length < m) (hpl : placeD all f G ps.length = some b)
    (hb1 : Below w.heap.size w w1) (hh : Has base 23 v' (sls ps ++ [.slice A b.length c]) w') (hg : w1.grownBy w' v.ownBlock) (hat : v'.ownBlock = v.ownBlock ∨ v'.ownBlock = some w1.heap.size)
    (hA : A = none → c = 0) (hc : b.length ≤ c) (hR : Rd w A (bys b)) (hf : 0 < b.length → ∀ a, A = some a → base ≤ a.block ∧ v.ownBlock ≠ some a.block) : Opened base all f m G v' (ps ++ [(A, c, b)]) w' := by
  have new : ∀ (A : Option Addr) (b : List UInt8), Rd w A (bys b) → (0 < b.length → ∀ a, A = some a → base ≤ a.block ∧ v.ownBlock ≠ some a.block) → Rd w' A (bys b) ∧ (0 < b.length → ∀ a, A = some a → base ≤ a.block ∧ v'.ownBlock ≠ some a.block) := by
    intro A b hR hf
    refine ⟨rd_grown (hR.below hb1) hg (fun h0 a ha => (hf (by rw [bys_length] at h0; exact h0) a ha).2), fun h0 a ha => ⟨(hf h0 a ha).1, ?_⟩⟩
    rcases hat with e | e
    · rw [e]; exact (hf h0 a ha).2
    · rw [e]
      intro e2
      obtain ⟨a', ha', hc'⟩ := hR 0 (by rw [bys_length]; exact h0)
      rw [ha] at ha'
      cases ha'
      have h1 := World.block_lt_of_cell? w _ hc'
      rw [block_add] at h1
      have h2 := hb1.size
      have h3 : w1.heap.size = a.block := Option.some.inj e2
      omega
  refine ⟨by rw [List.length_append]; simp only [List.length_cons, List.length_nil]; omega, ?_, by rw [sls_one]; exact hh, ?_⟩
  · intro q hq
    rw [List.length_append] at hq
    simp only [List.length_cons, List.length_nil] at hq
    by_cases e : q < ps.length
    · rw [List.getElem_append_left e]; exact h.each q e
    · obtain rfl : q = ps.length := by omega
      rw [List.getElem_append_right (Nat.le_refl _)]
      simp only [Nat.sub_self, List.getElem_cons_zero]
      exact hpl
  · intro p hp
    rcases List.mem_append.1 hp with hp | hp
    · obtain ⟨h1, h2, h3, h4⟩ := h.rows p hp
      exact ⟨h1, h2, new _ _ h3 h4⟩
    · obtain rfl := List.mem_singleton.1 hp
      exact ⟨hA, hc, new _ _ hR hf⟩
set_option maxRecDepth 10000 in
set_option maxHeartbeats 8000000 in
theorem Open_calls {w0 : World} {j g r n f m : Nat} {d : D} {G N : Nat} {w : World} (p : JS w0 j g r n f m d G N w) (ho : d.off = false) (hn : n ≤ 1024) (hf : f + 2 * m ≤ n) (hm : m ≤ 64) (gen : Nat) (hg : gen ≤ 2147483647) :
    Calls Try.prog 22 #[.pointer (some ⟨j, 0, none⟩), .int .i64 gen] w fun e w' => ∃ v ps, e = .returned (.tuple #[v, .int .i64 0]) ∧ Opened w.heap.size d.all f m gen v ps w' ∧ (ps.length = m ∨ placeD d.all f gen ps.length = none) ∧ JS w0 j g r n f m d gen ps.length w' := by
  have m1 : decide ((gen : Int) < 0) = false := by rw [decide_eq_false_iff_not]; omega
  have m2 : decide ((gen : Int) > 2147483647) = false := by rw [decide_eq_false_iff_not]; omega
  have HP := Lib.hid p
  have HOK := Lib.hid (ok_calls p.jis)
  have HON := Lib.hid (Dk.On_calls p.is)
  rw [ho] at HON
  have HF := Lib.hid (And.intro hn (And.intro hf hm))
  obtain ⟨y0, y1, y2, y3, y4⟩ := p.jis.cells
  have z3 := p.jis.free 3
  have z4 := p.jis.free 4
  clear p hg
  go_enter Try.func22, Try.ntmps22
  go_wp2_with fail
  go_step3
  go_wp2_with fail
  refine HOK.out.mono ?_
  rintro e w1 ⟨rfl, rfl⟩
  go_wp2_with fail
  refine HON.out.mono ?_
  rintro e w1 ⟨rfl, hb1⟩
  have HP1 := Lib.hid (HP.out.call hb1)
  have HS1 := Lib.hid hb1.size
  clear hb1 y0 y1 y2 y3 y4 z3 z4 HOK HON
  obtain ⟨y0, y1, y2, y3, y4⟩ := HP1.out.jis.cells
  have z3 := HP1.out.jis.free 3
  have z4 := HP1.out.jis.free 4
  have hp2 := (HP1.out.setG gen).setN 0
  have HP2 := Lib.hid hp2
  have HS2 := Lib.hid (show w1.heap.size ≤ ((w1.setCell ⟨j, 3, none⟩ (.int .i64 gen)).setCell ⟨j, 4, none⟩ (.int .i64 (0 : Nat))).heap.size from by simp)
  clear hp2
  go_wp2_with fail
  go_step3
  go_wp2_with fail
  obtain ⟨w2, hw2⟩ : ∃ w2, (w1.setCell ⟨j, 3, none⟩ (.int .i64 gen)).setCell ⟨j, 4, none⟩ (.int .i64 (0 : Nat)) = w2 := ⟨_, rfl⟩
  rw [hw2] at HP2 HS2
  have HS0 := Lib.hid (Nat.le_trans HS1.out HS2.out)
  first | rw [hw2] | (rw [show (Value.int .i64 (0 : Nat)) = .int .i64 0 from rfl] at hw2; rw [hw2])
  have hop : Opened w2.heap.size d.all f m gen (.slice none 0 0) [] w2 := ⟨Nat.zero_le _, fun q h => absurd h (by simp), Has.nil _ _ _, fun p hp => absurd hp (by simp)⟩
  have HOP := Lib.hid hop
  have HW2 := Lib.hid hw2
  clear hop hw2 y0 y1 y2 y3 y4 z3 z4 HP1 HS1 HS2
  go_loopw [6, 40] (fun v6 v40 wr => ∃ ps : List (Option Addr × Nat × List UInt8), v40 = .int .i64 (ps.length : Nat) ∧ Hid (Opened w2.heap.size d.all f m gen v6 ps wr) ∧ Hid (Below w2.heap.size w2 wr)) (fun _ v40 _ => m - (intOf v40).toNat)
  case atStart => exact ⟨[], rfl, HOP, Lib.hid (Below.refl _ _)⟩
  case round =>
    clear HOP
    obtain ⟨ps, rfl, HO, HB⟩ := hrel
    have hfew := HO.out.few
    have HSr := Lib.hid HB.out.size
    obtain ⟨A6, c6, rfl, hc6, hA6, hR6⟩ := HO.out.has.form
    rw [sls_length] at hc6 HO ⊢
    clear hc6 hA6 hR6
    obtain ⟨k, hk⟩ : ∃ k, ps.length = k := ⟨_, rfl⟩
    rw [hk] at hfew HO ⊢
    have HK := Lib.hid hk
    clear hk
    by_cases hlt : k < m
    · have d1 : decide ((k : Int) < (m : Int)) = true := by rw [decide_eq_true_eq]; omega
      have d2 : decide (k < m) = true := decide_eq_true hlt
      have HPr := Lib.hid (HP2.out.call HB.out)
      have hfm := HF.out
      have HRec := Lib.hid (record_calls HPr.out.jis k (by omega))
      have hst := stands_calls HPr.out ho HF.out.1 82 (f + 2 * k) k (by omega)
      rw [show nB 82 = 82 from rfl] at hst
      have HST := Lib.hid hst
      obtain ⟨o1, ho1⟩ : ∃ o1, stF 82 (rowB d.all (f + 2 * k)) gen k = o1 := ⟨_, rfl⟩
      rw [ho1] at HST
      have HO1 := Lib.hid ho1
      clear hst ho1 hfm
      go_wp2_with fail
      refine HRec.out.mono ?_
      rintro e w3 ⟨rfl, rfl⟩
      go_wp2_with fail
      refine HST.out.mono ?_
      rintro e w3 ⟨hres, hb3⟩
      have HB3 := Lib.hid (HB.out.trans (hb3.mono HB.out.size))
      have HO3 := Lib.hid (HO.out.below hb3)
      clear hb3 HST HRec
      cases o1 with
      | none =>
        obtain rfl := hres.2 rfl
        clear hres
        rw [← HK.out] at HO3 ⊢
        have HPx := Lib.hid (HP2.out.call HB3.out)
        have HOx := Lib.hid HO3.out
        obtain ⟨y0, y1, y2, y3, y4⟩ := HPx.out.jis.cells
        have z4 := HPx.out.jis.free 4
        have HDN := Lib.hid (show ps.length = m ∨ placeD d.all f gen ps.length = none from .inr (by rw [HK.out]; unfold placeD; rw [HO1.out]))
        go_wp2_with fail
        rw [Exit.noGoto_ret]
        go_ret2
        refine ⟨_, ps, rfl, (HOx.out.low j 4 ?_ _).lower HS0.out, HDN.out, HPx.out.setN ps.length⟩
        have h1 := HP.out.old.2.2
        have h2 := HP.out.only.size
        have h3 := HS0.out
        omega
      | some b1 =>
        obtain ⟨A1, c1, rfl, hc1, hA1, hr1, hf1⟩ := hres.1 b1 rfl
        have H1 := Lib.hid (And.intro hc1 (And.intro hA1 (And.intro hr1 hf1)))
        clear hres hc1 hA1 hr1 hf1
        have HPr3 := Lib.hid (HP2.out.call HB3.out)
        have hfm := HF.out
        have HCom := Lib.hid (commit_calls HPr3.out.jis k (by omega))
        have hst := stands_calls HPr3.out ho HF.out.1 67 (f + 2 * k + 1) k (by omega)
        rw [show nB 67 = 67 from rfl] at hst
        have HST := Lib.hid hst
        obtain ⟨o2, ho2⟩ : ∃ o2, stF 67 (rowB d.all (f + 2 * k + 1)) gen k = o2 := ⟨_, rfl⟩
        rw [ho2] at HST
        have HO2 := Lib.hid ho2
        clear hst ho2 hfm
        go_wp2_with fail
        refine HCom.out.mono ?_
        rintro e w4 ⟨rfl, rfl⟩
        go_wp2_with fail
        refine HST.out.mono ?_
        rintro e w4 ⟨hres, hb4⟩
        have HB4 := Lib.hid (HB3.out.trans (hb4.mono HB3.out.size))
        have HO4 := Lib.hid (HO3.out.below hb4)
        have HR4 := Lib.hid (H1.out.2.2.1.below hb4)
        have HS34 := Lib.hid hb4.size
        clear hb4 HST HCom
        cases o2 with
        | none =>
          obtain rfl := hres.2 rfl
          clear hres
          rw [← HK.out] at HO4 ⊢
          have HPx := Lib.hid (HP2.out.call HB4.out)
          have HOx := Lib.hid HO4.out
          obtain ⟨y0, y1, y2, y3, y4⟩ := HPx.out.jis.cells
          have z4 := HPx.out.jis.free 4
          have HDN := Lib.hid (show ps.length = m ∨ placeD d.all f gen ps.length = none from .inr (by rw [HK.out]; unfold placeD; rw [HO1.out]; simp only; rw [HO2.out]))
          go_wp2_with fail
          rw [Exit.noGoto_ret]
          go_ret2
          refine ⟨_, ps, rfl, (HOx.out.low j 4 ?_ _).lower HS0.out, HDN.out, HPx.out.setN ps.length⟩
          have h1 := HP.out.old.2.2
          have h2 := HP.out.only.size
          have h3 := HS0.out
          omega
        | some b2 =>
          obtain ⟨A2, c2, rfl, hc2, hA2, hr2, hf2⟩ := hres.1 b2 rfl
          clear hres hc2 hA2 hr2 hf2
          by_cases hz : b2.length = 0
          · have hpl : placeD d.all f gen k = some b1 := by unfold placeD; rw [HO1.out]; simp only; rw [HO2.out]; simp only; rw [if_pos hz]
            have HPL := Lib.hid hpl
            rw [hz]
            clear hz hpl
            have f9 : IntKind.i64.wrap ((k : Int) + 1) = ((k + 1 : Nat) : Int) := by have := HF.out; rw [IntKind.wrap_i64]; omega
            go_wp2_with (at_builtin; refine wpList_app_at rfl _ _ 22 rfl w2.heap.size 23 (.slice none 0 0) 24 Try.underlying22 infoS rfl _ (sls ps) rfl ?hOwn _ _ _ [.slice A1 b1.length c1] rfl rfl ?hRd ?h1 ?hCap ?hCap2 ?hBase ?_)
            case hOwn => exact HO4.out.has.below ((Below.refl _ _).alloc (Nat.le_refl _) _)
            case hRd => exact Rd.mark _ _ _
            case h1 => simp [Value.oneCell']
            case hCap => rw [sls_length, HK.out]; have := HF.out; simp [maxLen]; omega
            case hCap2 => rw [sls_length, HK.out]; have := HF.out; simp; omega
            case hBase => have h2 := HB4.out.size; simp; omega
            intro v8 w8 hv8 hg8 hat8
            have hop := Opened.add HO4.out (by rw [HK.out]; exact hlt) (by rw [HK.out]; exact HPL.out) ((Below.refl w4.heap.size w4).alloc (Nat.le_refl _) (.cells #[.slice A1 b1.length c1] 23)) hv8 hg8 (by rw [World.size_alloc]; exact hat8) H1.out.2.1 H1.out.1 HR4.out (fun h0 a ha => ⟨Nat.le_trans HSr.out (H1.out.2.2.2 a ha), fun e => by
              have h1 := (HO.out.has.blk a.block e).2
              have h2 := H1.out.2.2.2 a ha
              omega⟩)
            have HOP := Lib.hid hop
            have HB8 := Lib.hid ((HB4.out.alloc HB4.out.size (.cells #[.slice A1 b1.length c1] 23)).grown hg8 (by have := HB4.out.size; simp; omega) (fun q e => (HO4.out.has.blk q e).1))
            clear hv8 hg8 hat8 hop
            go_wp2_with fail
            go_roundw
            case rel => exact ⟨ps ++ [(A1, c1, b1)], by rw [List.length_append, HK.out]; simp, HOP, HB8⟩
            case measure => simp [intOf]; omega
          · have d5 : decide ((b2.length : Int) > 0) = true := by rw [decide_eq_true_eq]; omega
            have d6 : decide (0 < b2.length) = true := by rw [decide_eq_true_eq]; omega
            have HZ := Lib.hid hz
            clear hz
            rw [← HK.out] at HO4 ⊢
            have HPx := Lib.hid (HP2.out.call HB4.out)
            have HOx := Lib.hid HO4.out
            obtain ⟨y0, y1, y2, y3, y4⟩ := HPx.out.jis.cells
            have z4 := HPx.out.jis.free 4
            have HDN := Lib.hid (show ps.length = m ∨ placeD d.all f gen ps.length = none from .inr (by rw [HK.out]; unfold placeD; rw [HO1.out]; simp only; rw [HO2.out]; simp only; rw [if_neg HZ.out]))
            go_wp2_with fail
            rw [Exit.noGoto_ret]
            go_ret2
            refine ⟨_, ps, rfl, (HOx.out.low j 4 ?_ _).lower HS0.out, HDN.out, HPx.out.setN ps.length⟩
            have h1 := HP.out.old.2.2
            have h2 := HP.out.only.size
            have h3 := HS0.out
            omega
    · have d1 : decide ((k : Int) < (m : Int)) = false := by rw [decide_eq_false_iff_not]; omega
      have d2 : decide (k < m) = false := decide_eq_false hlt
      have HKM := Lib.hid (show k = m by omega)
      clear hlt hfew
      rw [← HK.out] at HO d1 d2 ⊢
      have HPx := Lib.hid (HP2.out.call HB.out)
      have HOx := Lib.hid HO.out
      obtain ⟨y0, y1, y2, y3, y4⟩ := HPx.out.jis.cells
      have z4 := HPx.out.jis.free 4
      have HDN := Lib.hid (show ps.length = m ∨ placeD d.all f gen ps.length = none from .inl (HK.out.trans HKM.out))
      go_wp2_with fail
      rw [Exit.noGoto_ret]
      go_ret2
      refine ⟨_, ps, rfl, (HOx.out.low j 4 ?_ _).lower HS0.out, HDN.out, HPx.out.setN ps.length⟩
      have h1 := HP.out.old.2.2
      have h2 := HP.out.only.size
      have h3 := HS0.out
      omega
end Go.Proofs.Ytmlgkahadgpaiaa.Jo
