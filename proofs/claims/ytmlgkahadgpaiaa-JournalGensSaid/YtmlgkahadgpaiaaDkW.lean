/- Chapter 07: Write. -/
import Derived.Test.YtmlgkahadgpaiaaDkD
import Derived.Laws.CopyOwn
import Derived.StillTailTactics
namespace Go.Proofs.Ytmlgkahadgpaiaa.Dk
open Go.RowKit _root_.Go.Proofs.Ytmlgkahadgpaiaa.Own
set_option linter.unusedVariables false
set_option linter.unusedSimpArgs false
/-- What a block has behind a write: all of it, or torn. -/
def torn (k : Nat) (b : List UInt8) : List UInt8 := b.take k ++ List.replicate (128 - k) 255
def putRow (all : List UInt8) (i : Nat) (x : List UInt8) : List UInt8 := all.take (i * 128) ++ x ++ all.drop (i * 128 + 128)
/-- Write of what fits to a block that is there, of a disk that is on: whole. -/
def wrD (d : D) (i : Nat) (b : List UInt8) : D :=
  if d.armed = true ∧ d.left = 0 then { all := putRow d.all i (torn d.keep.toNat b), off := true, armed := false, left := d.left, keep := d.keep, writes := d.writes + 1 }
  else { d with all := putRow d.all i b, left := d.left - 1, writes := d.writes + 1 }
theorem splc_row (all x : List UInt8) (R : List Value) (n i : Nat) (hl : all.length = n * 128) (hi : i < n) (hx : x.length = 128) : splc (bys all ++ R) (bys x) (i * 128) = bys (putRow all i x) ++ R := by
  unfold splc putRow
  rw [bys_append, bys_append, List.take_append_of_le_length (by rw [bys_length]; omega), List.drop_append_of_le_length (by rw [bys_length, bys_length]; omega), bys_length, hx]
  simp [bys, List.append_assoc]
theorem putRow_length (all x : List UInt8) (n i : Nat) (hl : all.length = n * 128) (hi : i < n) (hx : x.length = 128) : (putRow all i x).length = n * 128 := by
  unfold putRow
  simp [hx]
  omega
/-- Write that does nothing. -/
theorem WriteBad_calls {g r n c : Nat} {R : List Value} {d : D} {w : World} (h : Is g r n c R d w) (i : Int) (A : Option Addr) (m cb : Nat) (E : Int)
    (hE : (¬ (0 ≤ i ∧ i < n) ∧ E = 8) ∨ ((0 ≤ i ∧ i < n) ∧ m ≠ 128 ∧ E = 1) ∨ ((0 ≤ i ∧ i < n) ∧ m = 128 ∧ d.off = true ∧ E = 19)) :
    Calls Try.prog 34 #[.pointer (some ⟨g, 0, none⟩), .int .i64 i, .slice A m cb] w fun e w' => e = .returned (.int .i64 E) ∧ Below w.heap.size w w' := by
  have HB := Lib.hid (block_calls h i)
  have HI := Lib.hid h
  clear h
  have H0 := At.refl w
  rcases hE with ⟨h1, rfl⟩ | ⟨h1, h2, rfl⟩ | ⟨h1, h2, h3, rfl⟩
  · rw [show blockV n i = 8 from if_neg h1] at HB
    go_enter Try.func34, Try.ntmps34
    go_wp2_with fail
    refine callAt HB.out H0 ?_
    rintro e w1 rfl H1
    go_wp2_with fail
    go_ret
    exact ⟨rfl, H1.below⟩
  · rw [show blockV n i = 0 from if_pos h1] at HB
    have m1 : ((m : Int) == 128) = false := by rw [beq_eq_false_iff_ne]; omega
    go_enter Try.func34, Try.ntmps34
    go_wp2_with fail
    refine callAt HB.out H0 ?_
    rintro e w1 rfl H1
    go_wp2_with fail
    go_ret
    exact ⟨rfl, H1.below⟩
  · rw [show blockV n i = 0 from if_pos h1] at HB
    subst h2
    go_enter Try.func34, Try.ntmps34
    go_wp2_with fail
    refine callAt HB.out H0 ?_
    rintro e w1 rfl H1
    have HI1 := Lib.hid (HI.out.below H1.below)
    obtain ⟨h0, h4, -, -, -, -⟩ := HI1.out.cells
    rw [h3] at h4
    clear H0
    go_wp2_with fail
    go_ret
    exact ⟨rfl, H1.below⟩
theorem Only.cell {bs : List Nat} {w w' : World} (h : Only bs w w') {a : Addr} {v : Value} (hb : a.block ∉ bs) (hc : w.cell? a = some v) : w'.cell? a = some v := by
  have := World.block_lt_of_cell? w a hc
  unfold World.cell? at hc ⊢
  rw [h.keep a.block this hb]
  exact hc
theorem Rd.only {bs : List Nat} {w w' : World} {A : Option Addr} {xs : List Value} (h : Rd w A xs) (ho : Only bs w w') (hb : ∀ a, A = some a → a.block ∉ bs) : Rd w' A xs := by
  intro i hi
  obtain ⟨a, ha, hc⟩ := h i hi
  exact ⟨a, ha, Only.cell ho (by rw [block_add]; exact hb a ha) hc⟩
theorem wpList_copy_all {P : Program} {w : World} {ops : Array Oper} {rest : List Oper} {o : Oper} {a : Act} {Q : Exit → Act → World → Prop} (hgd : o.guard = none) (d s : Operand) (dT sT : TypeId)
    (ho : o.op = .call { callee := .builtin .copy, args := #[d, s], argTypes := #[dT, sT] }) (elem : TypeId) (hu : P.underlying dT = some (.slice elem)) (hsz : (P.info? elem).map (·.size) = some 1)
    (g m dCap : Nat) (ad : Addr) (sCap : Nat) (hd : a.eval d = .slice (some ⟨g, 0, none⟩) m dCap) (hs : a.eval s = .slice (some ad) m sCap)
    (zs : List Value) (t : TypeId) (hg : w.heap[g]? = some (.cells ⟨zs⟩ t (0, 0))) (cs : List Value) (hn : cs.length = m) (hz : zs.length = m)
    (hsrc : ∀ j v, cs[j]? = some v → w.cell? (ad.add j) = some v) (h1 : ∀ v ∈ cs, v.oneCell' = true)
    (h : ∀ w', w'.heap[g]? = some (.cells ⟨cs⟩ t (0, 0)) → Only [g] w w' → wpList P ops Q rest (a.put o.dst (goInt m)) w') : wpList P ops Q (o :: rest) a w := by
  refine wpList_copy_own hgd d s dT sT ho elem hu hsz g 0 m dCap ad m sCap hd hs ⟨zs⟩ t hg cs (by rw [hn]; simp [Nat.min_def]) hsrc (by simp [hn, hz]) h1 ?_
  have e : ((⟨zs⟩ : Array Value).toList.take 0 ++ (cs ++ (⟨zs⟩ : Array Value).toList.drop (0 + cs.length))).toArray = ⟨cs⟩ := by
    rw [List.take_zero, List.nil_append, List.drop_of_length_le (by simp [hz, hn]), List.append_nil]
  rw [e, hn]
  exact h _ (setRow_heap w g _ _ t (0, 0) hg) (only_setRow w g _)
theorem still_load_row {P : Program} {ops : Array Oper} {Q : Act → Prop} {a : Act} {w : World} {rest : List Oper} {o : Oper} (hgd : o.guard = none) (ty : TypeId) (x : Operand) (ho : o.op = .load ty x)
    (g : Nat) (hx : a.eval x = .pointer (some ⟨g, 0, none⟩)) (t : TypeId) (cs : Array Value) (fr : Nat × Nat) (d : TypeDesc) (hg : w.heap[g]? = some (.cells cs t fr))
    (hu : P.underlying ty = some d) (hd : (match d with | .struct _ | .array _ _ => true | _ => false) = true) (hi : (P.info? ty).map (·.size) = some cs.size)
    (a' : Act) (ha : a.put o.dst (.agg cs) = a') (h : wpStill P ops w Q rest a') : wpStill P ops w Q (o :: rest) a := by
  refine wpStill_step fun K hK => ?_
  rw [if_pos (by simp [Region.wanted, hgd])]
  unfold Oper.still
  rw [run_load_row ty x ho g hx t cs fr d hg hu hd hi, Oper.stillUpon_value, ha]
  exact hK _ h
set_option maxHeartbeats 2000000 in
set_option maxRecDepth 10000 in
/-- Write of what fits to a block that is there, of a disk that is on, whole. -/
theorem WriteAll_calls {g r n c : Nat} {R : List Value} {d : D} {w : World} (h : Is g r n c R d w) (i : Nat) (hi : i < n) (hc : n ≤ c) (ho : d.off = false) (ad : Addr) (cb : Nat) (b : List UInt8) (hb : b.length = 128) (hcb : 128 ≤ cb) (hR : Rd w (some ad) (bys b)) (hng : ad.block ≠ g)
    (hw : 0 ≤ d.writes ∧ d.writes < 1099511627776) (hl : -1099511627776 < d.left ∧ d.left ≤ 9223372036854775807) (ht : d.armed = false ∨ (d.armed = true ∧ (d.left == 0) = false)) :
    Calls Try.prog 34 #[.pointer (some ⟨g, 0, none⟩), .int .i64 i, .slice (some ad) 128 cb] w fun e w' => e = .returned (.int .i64 0) ∧ Only [g, r] w w' ∧ Is g r n c R { d with all := putRow d.all i b, left := d.left - 1, writes := d.writes + 1 } w' := by
  have HB := Lib.hid (block_calls h i)
  rw [show blockV n i = 0 from if_pos (by omega)] at HB
  have HI := Lib.hid h
  have hne := h.ne
  obtain ⟨hf, hg⟩ := h.sets
  clear h
  have HRD := Lib.hid hR
  clear hR
  have H0 := At.refl w
  obtain ⟨zs, z1, z2, z3⟩ := zero128
  clear z3
  have hw1 := hw.1
  have hw2 := hw.2
  have hl1 := hl.1
  have hl2 := hl.2
  go_enter Try.func34, Try.ntmps34
  go_wp2_with fail
  refine callAt HB.out H0 ?_
  rintro e w1 rfl H1
  have HI1 := Lib.hid (HI.out.below H1.below)
  have HR1 := Lib.hid (HRD.out.below H1.below)
  obtain ⟨h0, h1, h2, h3, h4, h5⟩ := HI1.out.cells
  rw [ho] at h1
  obtain ⟨hf1, hg1⟩ := HI1.out.sets
  clear H0 HI hf hg HRD
  -- the blocks as they are known
  have K1 := Lib.hid (On.start (w := w1) (L := [(g, dcells r n c d, 79), (r, bys d.all ++ R, 91)]) (by intro x hx; simp at hx; rcases hx with rfl | rfl; exact HI1.out.own; exact HI1.out.row) (by simp [hne]))
  have K2 := Lib.hid ((K1.out.set 0 rfl 5 (.int .i64 (d.writes + 1))).alloc zs 91)
  have HR2 := Lib.hid (Rd.only HR1.out (only_setCell w1 g 5 (.int .i64 (d.writes + 1))) (by intro a ha; cases ha; simpa using hng))
  rw [show (w1.setCell ⟨g, 5, none⟩ (.int .i64 (d.writes + 1))).heap.size = w1.heap.size by simp] at K2
  have hX1 : (bys b).length = 128 := by rw [bys_length]; exact hb
  have hX2 := Lib.hid (bys_one b)
  have hsp := Lib.hid (splc_row d.all b R n i HI1.out.len hi hb)
  generalize bys b = X at *
  rcases ht with ht | ⟨ht, hq⟩
  all_goals
    rw [ht] at h2
    go_wp2_with (first | (refine wpList_alloc_arr rfl 91 rfl zs z2 ?_) | (refine wpList_copy_all rfl _ _ _ _ rfl 5 Try.underlying23 (by kernel_rfl) w1.heap.size 128 128 ad cb rfl rfl zs 91 ?hg X hX1 z1 ?hsrc ?hone ?_))
    case hg => exact K2.out.row 0 rfl
    case hsrc =>
      intro j v hv
      obtain ⟨hj, rfl⟩ := List.getElem?_eq_some_iff.1 hv
      obtain ⟨a, ha, hcc⟩ := Rd.alloc HR2.out (.cells ⟨zs⟩ 91 (0, 0)) j hj
      cases ha
      exact hcc
    case hone => exact hX2.out
    intro W3 hW3 hO3
    have K3 := Lib.hid (K2.out.turn 0 rfl X hO3 hW3)
    obtain ⟨k1, k2, k3, -⟩ := K3.out.rules _ (List.mem_cons_of_mem _ (List.mem_cons_self ..))
    have c0 := k1 0
    have c1 := k1 1
    have c2 := k1 2
    have c3 := k1 3
    have c4 := k1 4
    have c5 := k1 5
    simp [dcells_is, ht] at c0 c1 c2 c3 c4 c5 k2 k3
    clear hW3 hO3 HR1 HR2 h0 h1 h2 h3 h4 h5 hf1 hg1 k1
    go_wp2_with fail
    have K4 := Lib.hid K3.out.drew
    refine still_tail 7 (by kernel_rfl) (by kernel_rfl) ?_
    simp only [List.take_succ_cons, List.take_zero, List.drop_succ_cons, List.drop_zero]
    still_step
    still_step
    still_step
    still_step
    still_step
    apply still_load_row rfl 91 _ rfl w1.heap.size rfl 91 ⟨X⟩ (0, 0) _ (K4.out.row 0 rfl) Try.underlying91 rfl (by rw [size128]; exact congrArg some hX1.symm)
    · go_simp; rfl
    still_step
    refine wpStill_nil ?_
    refine wpList_store_part rfl 91 _ _ rfl r (i * 128) rfl X rfl 91 (bys d.all ++ R) 128 (K4.out.row 2 rfl) size128 hX1 ?hfit hX2.out ?_
    case hfit => rw [List.length_append, bys_length, HI1.out.len]; omega
    rw [hsp.out]
    obtain ⟨W5, hW5⟩ : ∃ W5, (W3.drew).setRow r ⟨bys (putRow d.all i b) ++ R⟩ = W5 := ⟨_, rfl⟩
    have K5 := Lib.hid (K4.out.setRow 2 rfl ⟨bys (putRow d.all i b) ++ R⟩)
    rw [hW5] at K5 ⊢
    clear hW5 c0 c1 c2 c3 c4 c5 k2 k3
    obtain ⟨k1, k2, k3, -⟩ := K5.out.rules _ (List.mem_cons_of_mem _ (List.mem_cons_self ..))
    have c0 := k1 0
    have c3 := k1 3
    simp [dcells_is, ht] at c0 c3 k2 k3
    clear k1
    go_wp2_with fail
    go_ret
    have K6 := K5.out.set 1 rfl 3 (.int .i64 (d.left - 1))
    exact ⟨rfl, (Only.of_below H1.below).trans K6.only, (K6.row 1 rfl).trans (by simp [dcells_is, ho, ht]), K6.row 2 rfl, putRow_length _ _ _ _ HI1.out.len hi hb⟩
theorem set_torn (b : List UInt8) (k0 k : Nat) (hb : b.length = 128) (h0 : k0 ≤ k) (hk : k < 128) :
    (bys (b.take k0 ++ List.replicate (k - k0) 255 ++ b.drop k)).set k (.int .u8 255) = bys (b.take k0 ++ List.replicate (k + 1 - k0) 255 ++ b.drop (k + 1)) := by
  have e1 : (b.take k0 ++ List.replicate (k - k0) 255).length = k := by simp [hb]; omega
  have e2 : b.drop k = b[k] :: b.drop (k + 1) := List.drop_eq_getElem_cons (by omega)
  have e3 : bys (b[k] :: b.drop (k + 1)) = .int .u8 (nB b[k]) :: bys (b.drop (k + 1)) := rfl
  have e4 : b.take k0 ++ List.replicate (k + 1 - k0) 255 ++ b.drop (k + 1) = (b.take k0 ++ List.replicate (k - k0) 255) ++ (255 :: b.drop (k + 1)) := by
    rw [show k + 1 - k0 = (k - k0) + 1 by omega, List.replicate_succ']
    simp
  have e5 : bys ((255 : UInt8) :: b.drop (k + 1)) = .int .u8 255 :: bys (b.drop (k + 1)) := rfl
  rw [e2, bys_append, List.set_append_right _ _ (by rw [bys_length, e1]; omega), bys_length, e1, Nat.sub_self, e3, List.set_cons_zero, e4, bys_append (b.take k0 ++ List.replicate (k - k0) 255) (255 :: b.drop (k + 1)), e5]
set_option maxHeartbeats 2000000 in
set_option maxRecDepth 10000 in
/-- Write of what fits to a block that is there, of a disk that is on, torn. -/
theorem WriteTorn_calls {g r n c : Nat} {R : List Value} {d : D} {w : World} (h : Is g r n c R d w) (i : Nat) (hi : i < n) (hc : n ≤ c) (ho : d.off = false) (ad : Addr) (cb : Nat) (b : List UInt8) (hb : b.length = 128) (hcb : 128 ≤ cb) (hR : Rd w (some ad) (bys b)) (hng : ad.block ≠ g)
    (hw : 0 ≤ d.writes ∧ d.writes < 1099511627776) (hk : 0 ≤ d.keep ∧ d.keep ≤ 128) (ht : d.armed = true) (hz : d.left = 0) :
    Calls Try.prog 34 #[.pointer (some ⟨g, 0, none⟩), .int .i64 i, .slice (some ad) 128 cb] w fun e w' => e = .returned (.int .i64 19) ∧ Only [g, r] w w' ∧ Is g r n c R { d with all := putRow d.all i (torn d.keep.toNat b), off := true, armed := false, writes := d.writes + 1 } w' := by
  have HB := Lib.hid (block_calls h i)
  rw [show blockV n i = 0 from if_pos (by omega)] at HB
  have HI := Lib.hid h
  have hne := h.ne
  obtain ⟨hf, hg⟩ := h.sets
  clear h
  have HRD := Lib.hid hR
  clear hR
  have H0 := At.refl w
  obtain ⟨zs, z1, z2, z3⟩ := zero128
  clear z3
  have hw1 := hw.1
  have hw2 := hw.2
  obtain ⟨k0, hk0⟩ : ∃ k0 : Nat, d.keep = k0 := ⟨d.keep.toNat, by omega⟩
  have hk1 : k0 ≤ 128 := by omega
  have htl : (torn d.keep.toNat b).length = 128 := by unfold torn; rw [List.length_append, List.length_take, List.length_replicate]; omega
  rw [hk0, Int.toNat_natCast] at htl
  go_enter Try.func34, Try.ntmps34
  go_wp2_with fail
  refine callAt HB.out H0 ?_
  rintro e w1 rfl H1
  have HI1 := Lib.hid (HI.out.below H1.below)
  have HR1 := Lib.hid (HRD.out.below H1.below)
  obtain ⟨h0, h1, h2, h3, h4, h5⟩ := HI1.out.cells
  rw [ho] at h1
  obtain ⟨hf1, hg1⟩ := HI1.out.sets
  clear H0 HI hf hg HRD
  -- the blocks as they are known
  have K1 := Lib.hid (On.start (w := w1) (L := [(g, dcells r n c d, 79), (r, bys d.all ++ R, 91)]) (by intro x hx; simp at hx; rcases hx with rfl | rfl; exact HI1.out.own; exact HI1.out.row) (by simp [hne]))
  have K2 := Lib.hid ((K1.out.set 0 rfl 5 (.int .i64 (d.writes + 1))).alloc zs 91)
  have HR2 := Lib.hid (Rd.only HR1.out (only_setCell w1 g 5 (.int .i64 (d.writes + 1))) (by intro a ha; cases ha; simpa using hng))
  rw [show (w1.setCell ⟨g, 5, none⟩ (.int .i64 (d.writes + 1))).heap.size = w1.heap.size by simp] at K2
  have hX1 : (bys b).length = 128 := by rw [bys_length]; exact hb
  have hX2 := Lib.hid (bys_one b)
  have hsp := Lib.hid (splc_row d.all (torn k0 b) R n i HI1.out.len hi htl)
  obtain ⟨X, hXe⟩ : ∃ X, bys b = X := ⟨_, rfl⟩
  rw [hXe] at HR1 HR2 hX1 hX2
  have HX := Lib.hid hXe
  clear hXe
  rw [ht] at h2
  rw [hz] at h3
  have hk0' := Lib.hid hk0
  rw [hk0] at h4
  clear hk0
  go_wp2_with (first | (refine wpList_alloc_arr rfl 91 rfl zs z2 ?_) | (refine wpList_copy_all rfl _ _ _ _ rfl 5 Try.underlying23 (by kernel_rfl) w1.heap.size 128 128 ad cb rfl rfl zs 91 ?hg X hX1 z1 ?hsrc ?hone ?_))
  case hg => exact K2.out.row 0 rfl
  case hsrc =>
    intro j v hv
    obtain ⟨hj, rfl⟩ := List.getElem?_eq_some_iff.1 hv
    obtain ⟨a, ha, hcc⟩ := Rd.alloc HR2.out (.cells ⟨zs⟩ 91 (0, 0)) j hj
    cases ha
    exact hcc
  case hone => exact hX2.out
  intro W3 hW3 hO3
  have K3 := Lib.hid (K2.out.turn 0 rfl X hO3 hW3)
  obtain ⟨k1, k2, k3, -⟩ := K3.out.rules _ (List.mem_cons_of_mem _ (List.mem_cons_self ..))
  have c0 := k1 0
  have c1 := k1 1
  have c2 := k1 2
  have c3 := k1 3
  have c4 := k1 4
  have c5 := k1 5
  simp [dcells_is, ht, hz, hk0'.out] at c0 c1 c2 c3 c4 c5 k2 k3
  clear hW3 hO3 HR1 HR2 h0 h1 h2 h3 h4 h5 hf1 hg1 k1
  go_wp2_with fail
  go_loopw [10] (fun v10 wr => ∃ k : Nat, k0 ≤ k ∧ k ≤ 128 ∧ v10 = .int .i64 k ∧ Hid (On w1 [g, r] [(w1.heap.size, bys (b.take k0 ++ List.replicate (k - k0) 255 ++ b.drop k), 91), (g, (dcells r n c d).set 5 (.int .i64 (d.writes + 1)), 79), (r, bys d.all ++ R, 91)] wr)) (fun v10 _ => 128 - (intOf v10).toNat)
  case atStart => exact ⟨k0, Nat.le_refl _, hk1, rfl, Lib.hid (by rw [Nat.sub_self, List.replicate_zero, List.append_nil, List.take_append_drop, HX.out]; exact K3.out)⟩
  case round =>
    clear c0 c1 c2 c3 c4 c5 k2 k3 K1 K2 K3
    obtain ⟨k, hka, hkb, rfl, KL⟩ := hrel
    by_cases hlt : k < 128
    · obtain ⟨q1, q2, q3, -⟩ := KL.out.rules _ (List.mem_cons_self ..)
      simp only at q1 q2 q3
      have q4 := q1 k
      have hlen : k < (bys (b.take k0 ++ List.replicate (k - k0) 255 ++ b.drop k)).length := by simp [bys_length, hb]; omega
      rw [List.getElem?_eq_getElem hlen] at q4
      generalize (bys (b.take k0 ++ List.replicate (k - k0) 255 ++ b.drop k))[k] = old at q4
      clear q1
      go_wp2_with fail
      go_roundw
      case rel => exact ⟨k + 1, by omega, by omega, by simp, Lib.hid (by
        have K9 := KL.out.set 0 rfl k (.int .u8 255)
        rw [show (bys (b.take k0 ++ List.replicate (k - k0) 255 ++ b.drop k)).set k (.int .u8 255) = bys (b.take k0 ++ List.replicate (k + 1 - k0) 255 ++ b.drop (k + 1)) from set_torn b k0 k hb hka hlt] at K9
        exact K9)⟩
      case measure => simp [intOf]; omega
    · obtain rfl : k = 128 := by omega
      go_wp2_with fail
      have hend : b.take k0 ++ List.replicate (128 - k0) 255 ++ b.drop 128 = torn k0 b := by rw [List.drop_of_length_le (by omega), List.append_nil]; rfl
      rw [hend] at KL
      have K4 := Lib.hid KL.out.drew
      have hY1 : (bys (torn k0 b)).length = 128 := by rw [bys_length]; exact htl
      have hY2 := Lib.hid (bys_one (torn k0 b))
      obtain ⟨q1, q2, q3, -⟩ := KL.out.rules _ (List.mem_cons_of_mem _ (List.mem_cons_self ..))
      have c0 := q1 0
      simp [dcells_is] at c0 q2 q3
      clear q1 hend
      obtain ⟨Y, hYe⟩ : ∃ Y, bys (torn k0 b) = Y := ⟨_, rfl⟩
      rw [hYe] at K4 hY1 hY2 hsp
      clear hYe
      refine still_tail 7 (by kernel_rfl) (by kernel_rfl) ?_
      simp only [List.take_succ_cons, List.take_zero, List.drop_succ_cons, List.drop_zero]
      still_step
      still_step
      still_step
      still_step
      still_step
      apply still_load_row rfl 91 _ rfl w1.heap.size rfl 91 ⟨Y⟩ (0, 0) _ (K4.out.row 0 rfl) Try.underlying91 rfl (by rw [size128]; exact congrArg some hY1.symm)
      · go_simp; rfl
      still_step
      refine wpStill_nil ?_
      refine wpList_store_part rfl 91 _ _ rfl r (i * 128) rfl Y rfl 91 (bys d.all ++ R) 128 (K4.out.row 2 rfl) size128 hY1 ?hfit hY2.out ?_
      case hfit => rw [List.length_append, bys_length, HI1.out.len]; omega
      rw [hsp.out]
      obtain ⟨W5, hW5⟩ : ∃ W5, (wr.drew).setRow r ⟨bys (putRow d.all i (torn k0 b)) ++ R⟩ = W5 := ⟨_, rfl⟩
      have K5 := Lib.hid (K4.out.setRow 2 rfl ⟨bys (putRow d.all i (torn k0 b)) ++ R⟩)
      rw [hW5] at K5 ⊢
      clear hW5 c0 q2 q3
      obtain ⟨q1, q2, q3, -⟩ := K5.out.rules _ (List.mem_cons_of_mem _ (List.mem_cons_self ..))
      have c1 := q1 1
      have c2 := q1 2
      simp [dcells_is] at c1 c2 q2 q3
      clear q1
      go_wp2_with fail
      go_ret
      have K6 := (K5.out.set 1 rfl 1 (.bool true)).set 1 rfl 2 (.bool false)
      refine ⟨rfl, (Only.of_below H1.below).trans K6.only, (K6.row 1 rfl).trans (by simp [dcells_is, hz, hk0'.out]), (K6.row 2 rfl).trans ?_, ?_⟩
      · simp [hk0'.out]
      · simp only [hk0'.out, Int.toNat_natCast]; exact putRow_length _ _ _ _ HI1.out.len hi htl
end Go.Proofs.Ytmlgkahadgpaiaa.Dk
