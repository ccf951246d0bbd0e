/- Chapter 30: move.Event. -/
import Derived.Test.YtohdldlagkmcnaaDoorMvD
import Derived.Test.YtohdldlagkmcnaaDoorTurn
namespace Go.Proofs.YtohdldlagkmcnaaDoor.Mv
set_option linter.unusedSimpArgs false
set_option linter.unusedVariables false
open Go.RowKit
open _root_.Go.Proofs.YtohdldlagkmcnaaDoor.Own
open Go.Proofs.YtohdldlagkmcnaaDoor.Pl
attribute [local go_sem] b16_and b16_or b16_andNot
/-- An event, as cells. -/
def evC (t r : Int) (bS bI : BitVec 16) (f : Fl) : List Value := [.int .i64 f.k, .int .u16 (nH f.a), .int .u16 (nH f.b), .int .u16 (nH f.c), .int .u16 (nH f.d), .int .i64 t, .int .i64 r, .int .u16 (nH bS), .int .u16 (nH bI), .int .u16 (nH (uB f.a f.b f.c f.d))]
theorem evC_one (t r : Int) (bS bI : BitVec 16) (f : Fl) : ∀ u ∈ evC t r bS bI f, u.oneCell' = true := by
  intro u hu
  simp only [evC, List.mem_cons, List.not_mem_nil, or_false] at hu
  rcases hu with rfl | rfl | rfl | rfl | rfl | rfl | rfl | rfl | rfl | rfl <;> rfl
def evs (t r : Int) (bS bI : BitVec 16) (ls : List Fl) : List Value := ls.flatMap (evC t r bS bI)
theorem evs_snoc (t r : Int) (bS bI : BitVec 16) (ls : List Fl) (f : Fl) : evs t r bS bI (ls ++ [f]) = evs t r bS bI ls ++ evC t r bS bI f := by simp [evs]
theorem infoEv : (Tryd.prog.info? 50).map (fun i => (i.zero, i.size, i.bytes)) = some (some (.agg #[.int .i64 0, .int .u16 0, .int .u16 0, .int .u16 0, .int .u16 0, .int .i64 0, .int .i64 0, .int .u16 0, .int .u16 0, .int .u16 0]), 10, 40) := by kernel_rfl
theorem hasN_row {base : Nat} {e : TypeId} {sz : Nat} {v : Value} {n : Nat} {xs : List Value} {w : World} (h : HasN base e sz v n xs w) {g : Nat} (hg : v.ownBlock = some g) : ∃ cur, w.heap[g]? = some (.cells cur e (0, 0)) := by
  obtain ⟨h1, ⟨rfl, rfl⟩ | ⟨g', cap, cur, rfl, hb, hg', hn, hc, hs, ht⟩⟩ := h
  · cases hg
  · obtain rfl : g' = g := by simpa [Value.ownBlock] using hg
    exact ⟨cur, hg'⟩
/-- A row that grows leaves blocks of other types alone. -/
theorem At.grownT {w0 A B : World} {L : List (Nat × List Value × TypeId)} {base : Nat} {e : TypeId} {sz : Nat} {v : Value} {n : Nat} {xs : List Value} (h : At w0 L A) (hO : HasN base e sz v n xs A) (hb : w0.heap.size ≤ base) (hg : A.grownBy B v.ownBlock) (ht : ∀ x ∈ L, x.2.2 ≠ e) : At w0 L B := by
  refine ⟨h.below.trans ⟨hg.os, hg.tape, hg.output, hg.size, fun k hk => hg.block k (Nat.lt_of_lt_of_le hk h.below.size) (fun q => by have := (World.ownsRow.lt hO k q.symm).1; omega)⟩, ?_, h.nodup⟩
  intro x hx
  obtain ⟨h1, h2⟩ := h.blk x hx
  refine ⟨h1, (hg.block x.1 (blk_lt h2) (fun q => ?_)).trans h2⟩
  obtain ⟨cur, hc⟩ := hasN_row hO q.symm
  rw [h2] at hc
  cases hc
  exact ht x hx rfl
/-- Flows that lie in a row. -/
def FlIs (w : World) (g : Nat) (ls : List Fl) : Prop := (∃ cur, w.heap[g]? = some (.cells cur 60 (0, 0))) ∧ FlAt w g ls
theorem FlIs.below {w w' : World} {g : Nat} {ls : List Fl} (h : FlIs w g ls) (hb : Below w.heap.size w w') : FlIs w' g ls := by
  obtain ⟨⟨cur, hc⟩, h2⟩ := h
  exact ⟨⟨cur, (hb.block g (blk_lt hc)).trans hc⟩, h2.below hb⟩
theorem FlIs.grown {A B : World} {g : Nat} {ls : List Fl} {base : Nat} {e : TypeId} {sz : Nat} {v : Value} {n : Nat} {xs : List Value} (h : FlIs A g ls) (hO : HasN base e sz v n xs A) (hg : A.grownBy B v.ownBlock) (ht : 60 ≠ e) : FlIs B g ls := by
  obtain ⟨⟨cur, hc⟩, h2⟩ := h
  have hne : some g ≠ v.ownBlock := fun q => by
    obtain ⟨cur', hc'⟩ := hasN_row hO q.symm
    rw [hc] at hc'
    cases hc'
    exact ht rfl
  have hk := hg.block g (blk_lt hc) hne
  refine ⟨⟨cur, hk.trans hc⟩, fun i hi => ?_⟩
  obtain ⟨h0, h1, h2, h3, h4⟩ := h2 i hi
  have f := fun {o : Nat} {u : Value} (q : A.cell? ⟨g, o, none⟩ = some u) => (World.cell?_of_block (a := ⟨g, o, none⟩) hk).trans q
  exact ⟨f h0, f h1, f h2, f h3, f h4⟩
theorem flows_is {base : Nat} {way : Int} (hw : way = 1 ∨ way = 2 ∨ way = 3) {oS oI xS xI : BitVec 16} {v : Value} {w : World} (h : HasN base 60 5 v (flowsN way) (flowsC way oS oI xS xI) w) : ∃ g c, v = .slice (some ⟨g, 0, none⟩) (flowsN way) c ∧ FlIs w g (flowsL way oS oI xS xI) := by
  obtain ⟨g, c, rfl, h2, -⟩ := flows_at hw h
  exact ⟨g, c, rfl, hasN_row h rfl, h2⟩
theorem ml_cells {w V : World} {P : Pol} {oS oI : BitVec 16} {oT : Int} {oF : Bool} {xS xI : BitVec 16} {xT : Int} {xF : Bool} (h : At w (ML P w oS oI oT oF xS xI xT xF) V) : V.cell? ⟨w.heap.size + 1, 0, none⟩ = some (.int .u16 (nH oS)) ∧ V.cell? ⟨w.heap.size + 1, 1, none⟩ = some (.int .u16 (nH oI)) ∧ V.cell? ⟨w.heap.size + 1, 2, none⟩ = some (.int .i64 oT) ∧ V.cell? ⟨w.heap.size + 1, 3, none⟩ = some (.bool oF) ∧ V.cell? ⟨w.heap.size + 1 + 1, 0, none⟩ = some (.int .u16 (nH xS)) ∧ V.cell? ⟨w.heap.size + 1 + 1, 1, none⟩ = some (.int .u16 (nH xI)) ∧ V.cell? ⟨w.heap.size + 1 + 1, 2, none⟩ = some (.int .i64 xT) ∧ V.cell? ⟨w.heap.size + 1 + 1, 3, none⟩ = some (.bool xF) :=
  have r1 := (h.rules _ (List.mem_cons_of_mem _ (List.mem_cons_self ..))).1
  have r2 := (h.rules _ (List.mem_cons_self ..)).1
  ⟨r1 0, r1 1, r1 2, r1 3, r2 0, r2 1, r2 2, r2 3⟩
theorem fl_row {w0 V : World} {g : Nat} {f : Fl} {P : Pol} {oS oI : BitVec 16} {oT : Int} {oF : Bool} {xS xI : BitVec 16} {xT : Int} {xF : Bool} {J : World → Prop} (hJ : J V → V.heap[g]? = some (.cells #[.int .i64 f.k, .int .u16 (nH f.a), .int .u16 (nH f.b), .int .u16 (nH f.c), .int .u16 (nH f.d)] 60 (0, 0)) ∧ At w0 (ML P w0 oS oI oT oF xS xI xT xF) V) (h : J V) :
    V.cell? ⟨g, 0, none⟩ = some (.int .i64 f.k) ∧ V.cell? ⟨g, 1, none⟩ = some (.int .u16 (nH f.a)) ∧ V.cell? ⟨g, 2, none⟩ = some (.int .u16 (nH f.b)) ∧ V.cell? ⟨g, 3, none⟩ = some (.int .u16 (nH f.c)) ∧ V.cell? ⟨g, 4, none⟩ = some (.int .u16 (nH f.d)) ∧
    V.cell? ⟨w0.heap.size + 1, 0, none⟩ = some (.int .u16 (nH oS)) ∧ V.cell? ⟨w0.heap.size + 1, 1, none⟩ = some (.int .u16 (nH oI)) ∧ V.cell? ⟨w0.heap.size + 1, 2, none⟩ = some (.int .i64 oT) := by
  obtain ⟨h1, h2⟩ := hJ h
  obtain ⟨y0, y1, y2, -⟩ := ml_cells h2
  have c := fun i => cell_of_row V g i _ _ (0, 0) h1
  exact ⟨c 0, c 1, c 2, c 3, c 4, y0, y1, y2⟩
theorem fl_new {V : World} {g : Nat} {f : Fl} (h : V.heap[g]? = some (.cells #[.int .i64 f.k, .int .u16 (nH f.a), .int .u16 (nH f.b), .int .u16 (nH f.c), .int .u16 (nH f.d)] 60 (0, 0))) : FlAt V g [f] := by
  have c := fun i => cell_of_row V g i _ _ (0, 0) h
  intro i hi
  obtain rfl : i = 0 := by simp at hi; exact hi
  exact ⟨c 0, c 1, c 2, c 3, c 4⟩
section
variable {P : Program} {ops : Array Oper} {cc : Nat → Bool} {I : World → Prop}
/-- 'append(s, x...)' as a turning step of a drawn region. -/
theorem seq_appN {Q : Act → World → Prop} {a : Act} {w : World} {i : Nat} {l : List Nat} (o : Oper) (ho : ops[i]? = some o) (hc : cc i = true) (hw : Region.wanted o (yielded ops a.tmps) = true) (a' : Value → Act) (ha : ∀ v, a.put o.dst v = a' v)
    (s x : Operand) (t : TypeId) (hop : o.op = .call { callee := .builtin .append, args := #[s, x], argTypes := #[t, t] }) (base : Nat) (e : TypeId) (z : Value) (sz by' : Nat) (ht : P.underlying t = some (.slice e))
    (hinfo : (P.info? e).map (fun i => (i.zero, i.size, i.bytes)) = some (some z, sz, by')) (hz : z.cells.size = sz) (hsz : 0 < sz)
    (v : Value) (n : Nat) (xs : List Value) (hs : a.eval s = v) (hown : HasN base e sz v n xs w) (ad : Addr) (m c : Nat) (ys : List Value) (hx : a.eval x = .slice (some ad) m c) (hm : ys.length = m * sz) (hR : Rd w (some ad) ys)
    (h1 : ∀ u ∈ ys, u.oneCell' = true) (h63 : n + m ≤ maxLen) (hbytes : (n + m) * by' ≤ 140737488355328) (hbase : base ≤ w.heap.size)
    (k : ∀ v' w', HasN base e sz v' (n + m) (xs ++ ys) w' → w.grownBy w' v.ownBlock → I w' ∧ Turn.wpSeq P ops cc I Q l (a' v') w') : Turn.wpSeq P ops cc I Q (i :: l) a w := by
  obtain ⟨i0, hi, hz0, hz1, hz2⟩ := info_parts hinfo
  obtain ⟨v', w', hr, h2, h3, -⟩ := run_append_own (P := P) w base t o.type e i0 z sz by' ht hi hz0 hz1 hz2 hz hsz v n xs hown ad m c ys hm (by
    intro j u hu
    obtain ⟨hj, rfl⟩ := List.getElem?_eq_some_iff.1 hu
    obtain ⟨a', ha', hc'⟩ := hR j hj
    cases ha'
    exact hc') h1 h63 hbytes hbase
  refine Turn.seq_call o ho hc hw a' ha ?_
  unfold execOp
  simp only [hop, resolve, invoke, builtin, Sem.run_bind, Sem.run_pure, Result.andThen_ok, List.map_toArray, List.map_cons, List.map_nil, hs, hx, hr]
  exact k v' w' h2 h3
end
def evN (e way : Int) : Nat := if e = 0 then flowsN way else 0
set_option maxRecDepth 10000 in
set_option maxHeartbeats 8000000 in
theorem Event_calls (P : Pol) (r : Int) (oS oI : BitVec 16) (oT : Int) (oF : Bool) (xS xI : BitVec 16) (xT : Int) (xF : Bool) (way : Int) (w : World) (hT : Table w) (hw1 : 1 ≤ w.heap.size) :
    Calls Tryd.prog 9 #[.agg ⟨polC P⟩, .int .i64 r, sideV oS oI oT oF, sideV xS xI xT xF, .int .i64 way] w fun e w' => ∃ v, e = .returned v ∧ HasN w.heap.size 50 10 v (evN (mayF P r oS oI oT oF xS xI xT xF way).2 way) (if (mayF P r oS oI oT oF xS xI xT xF way).2 = 0 then evs oT r oS oI (flowsL way oS oI xS xI) else []) w' ∧ Below w.heap.size w w' := by
  have hA := (((At.refl w).alloc (polC P) 29).alloc [.int .u16 (nH oS), .int .u16 (nH oI), .int .i64 oT, .bool oF] 35).alloc [.int .u16 (nH xS), .int .u16 (nH xI), .int .i64 xT, .bool xF] 35
  simp only [World.size_alloc] at hA
  have HA := Lib.hid (show At w (ML P w oS oI oT oF xS xI xT xF) _ from hA)
  have HT := Lib.hid (And.intro hT hw1)
  have HM := Lib.hid (fun V (h : Below w.heap.size w V) => May_calls P r oS oI oT oF xS xI xT xF way V (hT.below (h.mono hw1)) (Nat.le_trans hw1 h.size))
  have HV := Lib.hid (show (mayF P r oS oI oT oF xS xI xT xF way).2 = 0 → way = 1 ∨ way = 2 ∨ way = 3 from fun h => by
    unfold mayF at h
    split at h
    · cases h
    · omega)
  obtain ⟨p, hp⟩ : ∃ p, mayF P r oS oI oT oF xS xI xT xF way = p := ⟨_, rfl⟩
  rw [hp] at HM HV ⊢
  obtain ⟨u, e0⟩ := p
  simp only [mayV] at HM
  simp only at HV ⊢
  clear hA hT hw1 hp
  by_cases hz : e0 = 0
  · subst hz
    have hW := HV.out rfl
    have HW := Lib.hid hW
    have HEN := Lib.hid (show evN 0 way = flowsN way from if_pos rfl)
    rw [HEN.out, if_pos rfl]
    clear hW HEN HV
    obtain ⟨ls, hls⟩ : ∃ ls, flowsL way oS oI xS xI = ls := ⟨_, rfl⟩
    obtain ⟨n, hn⟩ : ∃ n, flowsN way = n := ⟨_, rfl⟩
    rw [hls, hn]
    have HLS := Lib.hid (And.intro hls hn)
    have HLN := Lib.hid (show ls.length = n by rw [← hls, ← hn]; exact flowsL_length HW.out oS oI xS xI)
    have HN2 := Lib.hid (show n ≤ 2 by rw [← hn]; unfold flowsN; split <;> decide)
    clear hls hn
    go_enter Tryd.func9, Tryd.ntmps9
    go_wp2_with (refine wpList_load_row rfl 29 _ rfl _ rfl 29 _ (0, 0) _ (HA.out.row 2 rfl) Tryd.underlying29 rfl polC_size ?_)
    refine (HM.out _ HA.out.below).mono ?_
    rintro e w1 ⟨rfl, hb1⟩
    have HA1 := Lib.hid (HA.out.call hb1)
    obtain ⟨y0, y1, y2, y3, y4, y5, y6, y7⟩ := ml_cells HA1.out
    clear hb1 HA HM
    go_wp2_with fail
    refine (flows_calls way HW.out oS oI xS xI _).mono ?_
    rintro e w2 ⟨v2, rfl, ho2, hb2⟩
    have HA2 := Lib.hid (HA1.out.call hb2)
    obtain ⟨g, c, rfl, hfl⟩ := flows_is HW.out ho2
    rw [HLS.out.1] at hfl
    rw [HLS.out.2]
    have HFL := Lib.hid hfl
    clear ho2 hb2 hfl HA1 y0 y1 y2 y3 y4 y5 y6 y7 HLS
    go_wp2_with fail
    go_loopw [13, 34] (fun o i wr => ∃ k : Nat, k ≤ n ∧ i = .int .i64 k ∧ Hid (HasN w.heap.size 50 10 o k (evs oT r oS oI (ls.take k)) wr) ∧ Hid (At w (ML P w oS oI oT oF xS xI xT xF) wr) ∧ Hid (FlIs wr g ls)) (fun _ i _ => n - (intOf i).toNat)
    case atStart => exact ⟨0, Nat.zero_le _, rfl, Lib.hid (HasN.nil _ _ _ _), HA2, HFL⟩
    case round =>
      clear HA2 HFL
      obtain ⟨k, hk, rfl, HO, H, HFl⟩ := hrel
      by_cases hlt : k < n
      · have hkl : k < ls.length := by rw [HLN.out]; exact hlt
        have d1 : decide ((k : Int) < (n : Int)) = true := by rw [decide_eq_true_eq]; omega
        have d2 : decide (k < n) = true := decide_eq_true hlt
        have f1 : IntKind.i64.wrap ((k : Int) + 1) = ((k + 1 : Nat) : Int) := by have := HN2.out; rw [IntKind.wrap_i64]; omega
        obtain ⟨z0, z1, z2, z3, z4⟩ := HFl.out.2 k hkl
        have E := Lib.hid (show evs oT r oS oI (ls.take (k + 1)) = evs oT r oS oI (ls.take k) ++ evC oT r oS oI ls[k] by rw [take_snoc' ls k hkl, evs_snoc])
        generalize ls[k] = f at *
        have HO1 := Lib.hid (World.ownsRow.alloc HO.out (.cells #[.int .i64 f.k, .int .u16 (nH f.a), .int .u16 (nH f.b), .int .u16 (nH f.c), .int .u16 (nH f.d)] 60))
        have HA3 := Lib.hid ((H.out.other (.cells #[.int .i64 f.k, .int .u16 (nH f.a), .int .u16 (nH f.b), .int .u16 (nH f.c), .int .u16 (nH f.d)] 60)))
        obtain ⟨J, hJ⟩ : ∃ J : World → Prop, ∀ W, J W ↔ (W.heap[wr.heap.size]? = some (.cells #[.int .i64 f.k, .int .u16 (nH f.a), .int .u16 (nH f.b), .int .u16 (nH f.c), .int .u16 (nH f.d)] 60 (0, 0)) ∧ At w (ML P w oS oI oT oF xS xI xT xF) W) := ⟨_, fun _ => Iff.rfl⟩
        have K := fun w1 h1 => fl_row (hJ w1).1 h1
        have HJ := Lib.hid hJ
        have HJB := Lib.hid (fun W W' (h : J W) (hb : Below W.heap.size W W') => (hJ W').2 ⟨(hb.block _ (blk_lt ((hJ W).1 h).1)).trans ((hJ W).1 h).1, ((hJ W).1 h).2.call hb⟩)
        have hj1 := (HJ.out _).2 (And.intro (heap_alloc_new wr (.cells #[.int .i64 f.k, .int .u16 (nH f.a), .int .u16 (nH f.b), .int .u16 (nH f.c), .int .u16 (nH f.d)] 60)) HA3.out)
        clear hJ
        go_wp2_with fail
        refine Turn.region_seq [0, 1, 2, 3, 4, 5, 6, 7, 8, 9, 10, 11, 12, 13, 14, 15, 16, 17, 18] (fun i => i == 13 || i == 14 || i == 16 || i == 17) J (by kernel_rfl) (by kernel_rfl) ?hj ?_
        case hj => have q := (HJ.out _).1 hj1; exact (HJ.out _).2 ⟨q.1, q.2.call ((Below.refl _ _).drew)⟩
        clear z0 z1 z2 z3 z4
        repeat (first | (apply Turn.seq_yes; (· simp only [List.getElem?_toArray, List.getElem?_cons_succ, List.getElem?_cons_zero]; rfl); (· rfl); (· go_simp); (· intro w1 h1; obtain ⟨z0, z1, z2, z3, z4, y0, y1, y2⟩ := K w1 h1; go_simp; exact ⟨rfl, h1⟩); (· go_simp; rfl)))
        apply Turn.seq_call
        · simp only [List.getElem?_toArray, List.getElem?_cons_succ, List.getElem?_cons_zero]; rfl
        · rfl
        · go_simp
        · intro v; go_simp; rfl
        go_simp
        obtain ⟨V0, hV0⟩ : ∃ V0, V0 = wr.alloc (.cells #[.int .i64 f.k, .int .u16 (nH f.a), .int .u16 (nH f.b), .int .u16 (nH f.c), .int .u16 (nH f.d)] 60) := ⟨_, rfl⟩
        have hb0 : Below wr.heap.size wr V0 := by rw [hV0]; exact (Below.refl _ _).alloc (Nat.le_refl _) _
        have hb2 : Below V0.heap.size V0 (V0.alloc (.cells #[.int .i64 f.k, .int .u16 (nH f.a), .int .u16 (nH f.b), .int .u16 (nH f.c), .int .u16 (nH f.d)] 60)).drew := ((Below.refl _ _).alloc (Nat.le_refl _) _).drew
        have hfa : FlAt (V0.alloc (.cells #[.int .i64 f.k, .int .u16 (nH f.a), .int .u16 (nH f.b), .int .u16 (nH f.c), .int .u16 (nH f.d)] 60)).drew V0.heap.size [f] := fl_new (heap_alloc_new V0 _)
        have hu := fun W (hb : Below (V0.alloc (.cells #[.int .i64 f.k, .int .u16 (nH f.a), .int .u16 (nH f.b), .int .u16 (nH f.c), .int .u16 (nH f.d)] 60)).drew.heap.size (V0.alloc (.cells #[.int .i64 f.k, .int .u16 (nH f.a), .int .u16 (nH f.b), .int .u16 (nH f.c), .int .u16 (nH f.d)] 60)).drew W) => used_calls V0.heap.size 1 1 [f] rfl (by decide) W (hfa.below hb)
        rw [← hV0] at hj1 HO1
        rw [show orU [f] = uB f.a f.b f.c f.d by simp [orU], show V0.heap.size = wr.heap.size + 1 by rw [hV0, World.size_alloc]] at hu
        rw [← hV0]
        have hj3 := HJB.out _ _ hj1 hb2
        have HO3 := Lib.hid ((HasN.below HO1.out hb2))
        have HB3 := Lib.hid (hb0.trans (hb2.mono hb0.size))
        have HU := Lib.hid hu
        clear hb2 hfa hV0 HA3 HO1 hj1 hu
        refine ⟨hj3, ?_⟩
        apply Turn.seq_call
        · simp only [List.getElem?_toArray, List.getElem?_cons_succ, List.getElem?_cons_zero]; rfl
        · rfl
        · go_simp
        · intro v; go_simp; rfl
        go_simp
        refine (HU.out _ (Below.refl _ _)).mono ?_
        rintro e w3 ⟨rfl, hb3⟩
        have hj4 := HJB.out _ _ hj3 hb3
        have HO4 := Lib.hid (HasN.below HO3.out hb3)
        have HB4 := Lib.hid (HB3.out.trans (hb3.mono HB3.out.size))
        clear hb3 HU HO3 hj3 HB3 hb0
        refine ⟨_, rfl, hj4, ?_⟩
        repeat (first | (apply Turn.seq_yes; (· simp only [List.getElem?_toArray, List.getElem?_cons_succ, List.getElem?_cons_zero]; rfl); (· rfl); (· go_simp); (· intro w1 h1; obtain ⟨z0, z1, z2, z3, z4, y0, y1, y2⟩ := K w1 h1; go_simp; exact ⟨rfl, h1⟩); (· go_simp; rfl)))
        apply Turn.seq_call
        · simp only [List.getElem?_toArray, List.getElem?_cons_succ, List.getElem?_cons_zero]; rfl
        · rfl
        · go_simp
        · intro v; go_simp; rfl
        go_simp
        have HO5 := Lib.hid (World.ownsRow.alloc HO4.out (.cells ⟨evC oT r oS oI f⟩ 50))
        have hj5 := HJB.out w3 (w3.alloc (.cells ⟨evC oT r oS oI f⟩ 50)) hj4 ((Below.refl _ _).alloc (Nat.le_refl _) _)
        have HB5 := Lib.hid (HB4.out.alloc HB4.out.size (.cells ⟨evC oT r oS oI f⟩ 50))
        refine ⟨hj5, ?_⟩
        refine seq_appN ?opO ?ho (by rfl) ?hw ?opA ?ha ?opS ?opX 40 ?hop w.heap.size 50 _ 10 40 Tryd.underlying40 infoEv rfl (by decide) u13 k (evs oT r oS oI (ls.take k)) ?hs HO5.out ⟨w3.heap.size, 0, none⟩ 1 1 (evC oT r oS oI f) ?hx rfl ?hRd ?h1 ?hCap ?hCap2 ?hBase ?_
        case ho => simp only [List.getElem?_toArray, List.getElem?_cons_succ, List.getElem?_cons_zero]; rfl
        case hw => go_simp
        case ha => intro v; go_simp; rfl
        case hop => rfl
        case hs => go_simp
        case hx => go_simp
        case hRd => exact Rd.put _ (by simp) (evC oT r oS oI f) _ _
        case h1 => exact evC_one _ _ _ _ _
        case hCap => have := HN2.out; simp only [maxLen]; omega
        case hCap2 => have := HN2.out; omega
        case hBase => exact ((HJ.out _).1 hj5).2.below.size
        intro v6 w6 ho6 hg6
        rw [← E.out] at ho6
        have HO6 := Lib.hid ho6
        have q5 := (HJ.out _).1 hj5
        have hA6 := At.grownT q5.2 HO5.out (Nat.le_refl _) hg6 (by intro x hx; simp only [List.mem_cons, List.not_mem_nil, or_false] at hx; rcases hx with rfl | rfl | rfl <;> simp)
        have hF6 := FlIs.grown (HFl.out.below HB5.out) HO5.out hg6 (by decide)
        have hj6 := (HJ.out w6).2 ⟨(hg6.block _ (blk_lt q5.1) (fun q => by
          obtain ⟨cur, hc⟩ := hasN_row HO5.out q.symm
          rw [q5.1] at hc
          cases hc)).trans q5.1, hA6⟩
        have HA6 := Lib.hid hA6
        have HF6 := Lib.hid hF6
        clear ho6 hg6 q5 hA6 hF6 HO5 hj5 HB5 hj4 HO4 HB4 HO H HFl
        refine ⟨hj6, ?_⟩
        repeat (first | (apply Turn.seq_yes; (· simp only [List.getElem?_toArray, List.getElem?_cons_succ, List.getElem?_cons_zero]; rfl); (· rfl); (· go_simp); (· intro w1 h1; obtain ⟨z0, z1, z2, z3, z4, y0, y1, y2⟩ := K w1 h1; go_simp; exact ⟨rfl, h1⟩); (· go_simp; rfl)))
        apply Turn.seq_nil
        clear K HJ HJB hj6
        go_wp2_with fail
        go_roundw
        case rel => exact ⟨k + 1, hlt, by go_num, HO6, HA6, HF6⟩
        case measure => simp [intOf]; omega
      · obtain rfl : k = n := by omega
        have d1 : decide ((k : Int) < (k : Int)) = false := by rw [decide_eq_false_iff_not]; omega
        have e9 : ls.take k = ls := List.take_of_length_le (by rw [HLN.out]; exact Nat.le_refl _)
        rw [e9] at HO
        go_wp2_with fail
        go_ret
        exact ⟨_, rfl, HO.out, H.out.below⟩
  · have HZ := Lib.hid hz
    have HEN := Lib.hid (show evN e0 way = 0 from if_neg hz)
    have d0 : (e0 != 0) = true := by rw [bne_iff_ne]; exact hz
    rw [HEN.out, if_neg hz]
    clear hz HEN HV
    go_enter Tryd.func9, Tryd.ntmps9
    go_wp2_with (refine wpList_load_row rfl 29 _ rfl _ rfl 29 _ (0, 0) _ (HA.out.row 2 rfl) Tryd.underlying29 rfl polC_size ?_)
    refine (HM.out _ HA.out.below).mono ?_
    rintro e w1 ⟨rfl, hb1⟩
    have HA1 := Lib.hid (HA.out.call hb1)
    clear hb1 HA HM
    go_wp2_with fail
    go_ret
    exact ⟨_, rfl, HasN.nil _ _ _ _, HA1.out.below⟩
end Go.Proofs.YtohdldlagkmcnaaDoor.Mv
