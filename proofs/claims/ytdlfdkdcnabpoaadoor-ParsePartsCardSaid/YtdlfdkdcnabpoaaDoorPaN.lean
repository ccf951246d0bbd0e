/- Layer 17: the reader's small methods that turn it: take, bad, node. -/
import Derived.Test.YtdlfdkdcnabpoaaDoorPaM
import Derived.Handy
namespace Go.Proofs.YtdlfdkdcnabpoaaDoor.Pa
set_option linter.unusedSimpArgs false
set_option linter.unusedVariables false
open Go.RowKit
open _root_.Go.Proofs.YtdlfdkdcnabpoaaDoor.Own
open Go.Proofs.YtdlfdkdcnabpoaaDoor.Lx
attribute [local go_sem] str_size str_extract str_append str_toList
theorem results_cell1 {P : Program} {fn : Func} {t : Tmp} {ty T : TypeId} {g : Nat} {cs : List Value} {d : TypeDesc} {fr : Nat × Nat} (h : fn.results = #[.cell t ty]) (tmps : Array Value) (w : World) (hg : w.heap[g]? = some (.cells ⟨cs⟩ T fr))
    (ht : tmps.getD t undef = .pointer (some ⟨g, 0, none⟩)) (hu : P.underlying ty = some d) (hd : (match d with | .struct _ | .array _ _ => true | _ => false) = true) (hi : (P.info? ty).map (·.size) = some cs.length) :
    (results fn tmps).run P w = .ok (.agg ⟨cs⟩) w := by
  have hl := run_loadVar_part w g 0 cs.length T ty cs cs fr d hg hu hd hi rfl (fun i _ => by rw [Nat.zero_add])
  simp only [Array.getD_eq_getD_getElem?] at ht
  have ha : (asAddr (.pointer (some ⟨g, 0, none⟩))).run P w = .ok ⟨g, 0, none⟩ w := rfl
  simp [results, h, ht, ha, hl]
theorem Fr.set (r : Nat) (w : World) (i : Nat) (v : Value) : Fr r w (w.setCell ⟨r, i, none⟩ v) :=
  ⟨rfl, rfl, rfl, by simp, fun k h1 h2 => Below.heap_setCell w _ _ _ (by show k ≠ r; omega), fun k h1 h2 _ => Below.heap_setCell w _ _ _ h2⟩
theorem Fr.alloc {r : Nat} {w w' : World} (h : Fr r w w') (o : Obj) : Fr r w (w'.alloc o) := h.trans (.of_below ((Below.refl _ _).alloc (Nat.le_refl _) o))
theorem own_ne {w : World} {r : Nat} {vo : Value} {n : Nat} {xs : List Value} {cs : Array Value} {t : TypeId} (hO : HasN r 46 2 vo n xs w) (hg : w.heap[r]? = some (.cells cs t (0, 0))) (ht : t ≠ 46) : vo.ownBlock ≠ some r := fun e => by
  obtain ⟨cur, hc⟩ := hasN_row hO e
  rw [hg] at hc
  cases hc
  exact ht rfl
theorem hasN_set {w : World} {r i : Nat} {v vo : Value} {n : Nat} {xs : List Value} (hO : HasN r 46 2 vo n xs w) (hne : vo.ownBlock ≠ some r) : HasN r 46 2 vo n xs (w.setCell ⟨r, i, none⟩ v) :=
  World.ownsRow.kept hO (row := some r) ⟨rfl, rfl, rfl, by simp, fun k hk hn => Below.heap_setCell w _ _ _ (fun e => hn (by rw [e]))⟩ (.inr hne)
theorem rd_set {w : World} {r i : Nat} {v : Value} {ad : Addr} {xs : List Value} (h : Rd w (some ad) xs) (hlt : ad.block < r) : Rd (w.setCell ⟨r, i, none⟩ v) (some ad) xs := by
  intro j hj
  obtain ⟨a, ha, hc⟩ := h j hj
  cases ha
  exact ⟨ad, rfl, (World.cell?_setCell_other _ _ _ _ (fun e => by have := congrArg Addr.block e; rw [block_add] at this; simp at this; omega)).trans hc⟩
/-- What is left behind the next piece. -/
def adv : List Pc → List Pc
  | p :: R => if p.kind = 5 then p :: R else R
  | [] => []
set_option maxRecDepth 10000 in
set_option maxHeartbeats 4000000 in
theorem take_calls {r : Nat} {w : World} {p : Pc} {R : List Pc} {O : List Nd} {a f : Nat} (h : Rdr r w (p :: R) O a f) (hk : p.kind ≠ 5 → R ≠ []) :
    Calls Tryd.prog 38 #[.pointer (some ⟨r, 0, none⟩)] w fun e w' => e = .returned (.agg ⟨pcC p.kind p.text p.n p.pos⟩) ∧ Rdr r w' (adv (p :: R)) O a f ∧ Fr r w w' := by
  obtain ⟨ad, cap, vo, hg, hc, hlt, hR, hO⟩ := h.shape
  obtain ⟨z0, z1, z2, z3⟩ := first_at hR
  have y0 : w.cell? ⟨r, 0, none⟩ = some (.slice (some ad) (R.length + 1) cap) := (cell_of_row w r 0 _ _ _ hg).trans rfl
  have hr : r < w.heap.size := blk_lt hg
  have hal : ad.block < w.heap.size := by omega
  have hfz : w.frozen? ⟨r, 0, none⟩ = false := by simp [World.frozen?, hg]
  have hcap : R.length + 1 ≤ cap := hc
  obtain ⟨kk, hkk⟩ : ∃ kk, (p.kind : Int) = kk := ⟨_, rfl⟩
  have HG := Lib.hid (And.intro hg (And.intro hR hO))
  have HH := Lib.hid h
  clear hg hR hO hc h
  by_cases h5 : p.kind = 5
  · have e5 : (kk == 5) = true := by rw [beq_iff_eq]; omega
    rw [hkk] at z0 ⊢
    have hadv : adv (p :: R) = p :: R := if_pos h5
    rw [hadv]
    have HK := Lib.hid hk
    clear hadv hkk hk h5
    go_enter Tryd.func38, Tryd.ntmps38
    go_wp2_with fail
    have row : ((w.alloc (.cells ⟨pcC kk p.text p.n p.pos⟩ 32)).alloc (.cells ⟨pcC kk p.text p.n p.pos⟩ 32)).heap[w.heap.size]? = some (.cells ⟨pcC kk p.text p.n p.pos⟩ 32 (0, 0)) := (Below.heap_alloc _ _ _ (by rw [World.size_alloc]; omega)).trans (heap_alloc_new w _)
    refine bodyPost_ret (results_cell1 rfl _ _ row rfl Tryd.underlying32 rfl infoPc) rfl ?_
    have hb : Below w.heap.size w ((w.alloc (.cells ⟨pcC kk p.text p.n p.pos⟩ 32)).alloc (.cells ⟨pcC kk p.text p.n p.pos⟩ 32)) := ((Below.refl _ _).alloc (Nat.le_refl _) _).alloc (by rw [World.size_alloc]; omega) _
    exact ⟨rfl, HH.out.below hb, .of_below hb⟩
  · have e5 : (kk == 5) = false := by rw [beq_eq_false_iff_ne]; omega
    rw [hkk] at z0 ⊢
    have hadv : adv (p :: R) = R := if_neg h5
    rw [hadv]
    have HK := Lib.hid (hk h5)
    have hc1 : ¬ cap = 1 := by have := List.length_pos_iff.2 (hk h5); omega
    have hc2 : ¬ cap = 0 := by omega
    clear hadv hkk hk h5
    go_enter Tryd.func38, Tryd.ntmps38
    go_wp2_with fail
    obtain ⟨hg, hR, hO⟩ := HG.out
    obtain ⟨sv, hsv⟩ : ∃ sv, Value.slice (some { block := ad.block, off := ad.off + 4 }) R.length (cap - 1) = sv := ⟨_, rfl⟩
    have hrow := heap_setCell_list (i := 0) (v := sv) hg
    have hR1 : Rd w (some ⟨ad.block, ad.off + 4, none⟩) (cells R) := by
      have := hR.drop 4
      rw [show (cells (p :: R)).drop 4 = cells R from rfl, Option.map_some, addPos _ 4 (by decide)] at this
      exact this
    have hrd : Rdr r (w.setCell ⟨r, 0, none⟩ sv) R O a f := ⟨⟨⟨ad.block, ad.off + 4, none⟩, cap - 1, vo, by rw [hrow, ← hsv]; rfl, by omega, hlt, rd_set hR1 hlt, hasN_set hO (own_ne hO hg (by decide))⟩, HK.out⟩
    have hfr := Fr.set r w 0 sv
    rw [hsv]
    have hsz : (w.setCell ⟨r, 0, none⟩ sv).heap.size = w.heap.size := by simp
    obtain ⟨w1, hw1⟩ : ∃ w1, w.setCell ⟨r, 0, none⟩ sv = w1 := ⟨_, rfl⟩
    rw [hw1] at hrd hfr hsz ⊢
    rw [← hsz]
    have row : ((w1.alloc (.cells ⟨pcC kk p.text p.n p.pos⟩ 32)).alloc (.cells ⟨pcC kk p.text p.n p.pos⟩ 32)).heap[w1.heap.size]? = some (.cells ⟨pcC kk p.text p.n p.pos⟩ 32 (0, 0)) := (Below.heap_alloc _ _ _ (by rw [World.size_alloc]; omega)).trans (heap_alloc_new w1 _)
    refine bodyPost_ret (results_cell1 rfl _ _ row rfl Tryd.underlying32 rfl infoPc) rfl ?_
    have hb : Below w1.heap.size w1 ((w1.alloc (.cells ⟨pcC kk p.text p.n p.pos⟩ 32)).alloc (.cells ⟨pcC kk p.text p.n p.pos⟩ 32)) := ((Below.refl _ _).alloc (Nat.le_refl _) _).alloc (by rw [World.size_alloc]; omega) _
    exact ⟨rfl, hrd.below hb, hfr.trans (.of_below hb)⟩
theorem Rdr.fault {r : Nat} {w : World} {R : List Pc} {O : List Nd} {a f : Nat} (h : Rdr r w R O a f) (p e : Nat) : Rdr r ((w.setCell ⟨r, 2, none⟩ (.int .i64 e)).setCell ⟨r, 1, none⟩ (.int .i64 p)) R O p e := by
  obtain ⟨ad, cap, vo, hg, hc, hlt, hR, hO⟩ := h.shape
  have h1 := heap_setCell_list (i := 2) (v := .int .i64 e) hg
  have h2 := heap_setCell_list (i := 1) (v := .int .i64 p) h1
  have hO1 := hasN_set (i := 2) (v := .int .i64 e) hO (own_ne hO hg (by decide))
  exact ⟨⟨ad, cap, vo, h2.trans rfl, hc, hlt, rd_set (rd_set hR hlt) hlt, hasN_set hO1 (own_ne hO1 h1 (by decide))⟩, h.some_⟩
/-- Where the first piece that is left stands. -/
def posOf : List Pc → Nat
  | p :: _ => p.pos
  | [] => 0
set_option maxRecDepth 10000 in
set_option maxHeartbeats 4000000 in
theorem bad_calls {r : Nat} {w : World} {R : List Pc} {O : List Nd} {a f : Nat} (h : Rdr r w R O a f) (e : Nat) :
    Calls Tryd.prog 28 #[.pointer (some ⟨r, 0, none⟩), .int .i64 e] w fun x w' => x = .returned (.tuple #[]) ∧ Rdr r w' R O (if f = 0 then posOf R else a) (if f = 0 then e else f) ∧ Fr r w w' := by
  obtain ⟨ad, cap, vo, hg, hc, hlt, hR, hO⟩ := h.shape
  obtain ⟨p, R', rfl⟩ : ∃ p R', R = p :: R' := by
    cases R with
    | nil => exact absurd rfl h.some_
    | cons p R' => exact ⟨p, R', rfl⟩
  obtain ⟨z0, z1, z2, z3⟩ := first_at hR
  have y0 : w.cell? ⟨r, 0, none⟩ = some (.slice (some ad) (R'.length + 1) cap) := (cell_of_row w r 0 _ _ _ hg).trans rfl
  have y1 : w.cell? ⟨r, 1, none⟩ = some (.int .i64 a) := (cell_of_row w r 1 _ _ _ hg).trans rfl
  have y2 : w.cell? ⟨r, 2, none⟩ = some (.int .i64 f) := (cell_of_row w r 2 _ _ _ hg).trans rfl
  have hr : r < w.heap.size := blk_lt hg
  have hfz1 : w.frozen? ⟨r, 1, none⟩ = false := by simp [World.frozen?, hg]
  have hfz2 : w.frozen? ⟨r, 2, none⟩ = false := by simp [World.frozen?, hg]
  have HG := Lib.hid h
  have HP : posOf (p :: R') = p.pos := rfl
  rw [HP]
  clear hg hR hO hc h HP
  by_cases h0 : f = 0
  · have e0 : (f == 0) = true := beq_iff_eq.2 h0
    have e1 : ((f : Int) == 0) = true := by rw [beq_iff_eq]; omega
    rw [if_pos h0, if_pos h0]
    clear h0
    have hne : ad.block ≠ r := by omega
    go_enter Tryd.func28, Tryd.ntmps28
    go_wp2_with fail
    go_returns
    exact ⟨rfl, HG.out.fault p.pos e, (Fr.set r w 2 _).trans (Fr.set r _ 1 _)⟩
  · have e0 : (f == 0) = false := beq_eq_false_iff_ne.2 h0
    have e1 : ((f : Int) == 0) = false := by rw [beq_eq_false_iff_ne]; omega
    rw [if_neg h0, if_neg h0]
    clear h0
    go_enter Tryd.func28, Tryd.ntmps28
    go_wp2_with fail
    go_returns
    exact ⟨rfl, HG.out, .refl _ _⟩
theorem infoNd : (Tryd.prog.info? 46).map (fun i => (i.zero, i.size, i.bytes)) = some (some (.agg #[.int .i64 0, .int .i64 0]), 2, 16) := by kernel_rfl
theorem ndC_one (k n : Int) : ∀ u ∈ ([.int .i64 k, .int .i64 n] : List Value), u.oneCell' = true := by
  intro u hu
  simp only [List.mem_cons, List.not_mem_nil, or_false] at hu
  rcases hu with rfl | rfl <;> rfl
set_option maxRecDepth 10000 in
set_option maxHeartbeats 4000000 in
theorem node_calls {r : Nat} {w : World} {R : List Pc} {O : List Nd} {a f : Nat} (h : Rdr r w R O a f) (k n : Int) (hl : O.length ≤ 1000) :
    Calls Tryd.prog 39 #[.pointer (some ⟨r, 0, none⟩), .int .i64 k, .int .i64 n] w fun x w' => x = .returned (.tuple #[]) ∧ Rdr r w' R (O ++ [⟨k, n⟩]) a f ∧ Fr r w w' := by
  obtain ⟨ad, cap, vo, hg, hc, hlt, hR, hO⟩ := h.shape
  obtain ⟨A, c, hvo, _, _, _, _, _⟩ := hO.form
  have y3 : w.cell? ⟨r, 3, none⟩ = some vo := (cell_of_row w r 3 _ _ _ hg).trans rfl
  have hr : r < w.heap.size := blk_lt hg
  have HO1 := Lib.hid (hO.alloc (.cells ⟨[.int .i64 k, .int .i64 n]⟩ 46))
  have HG := Lib.hid (And.intro hg (And.intro hR hO))
  have HS := Lib.hid h.some_
  have HC := Lib.hid (And.intro hc hlt)
  obtain ⟨m, hm⟩ : ∃ m, O.length = m := ⟨_, rfl⟩
  rw [hm] at HO1 hl hvo
  have h63 : m + 1 ≤ maxLen := by unfold maxLen; omega
  rw [hvo] at y3 HO1
  clear hg hR hO hc h hlt
  go_enter Tryd.func39, Tryd.ntmps39
  go_wp2_with (at_builtin; refine wpList_appN rfl _ _ 37 rfl r 46 _ 2 16 Tryd.underlying37 infoNd rfl (by decide) _ m (ndC O) rfl HO1.out ⟨w.heap.size, 0, none⟩ 1 1 [.int .i64 k, .int .i64 n] rfl rfl ?hRd ?h1 h63 ?hCap2 ?hBase ?_)
  case hRd => exact Rd.put _ rfl [.int .i64 k, .int .i64 n] _ _
  case h1 => exact ndC_one k n
  case hCap2 => omega
  case hBase => rw [World.size_alloc]; omega
  intro v1 w1 ho hg1
  obtain ⟨A1, c1, hv1, _, _, _, _, _⟩ := ho.form
  obtain ⟨hg, hR, hO⟩ := HG.out
  have hg1' : (w.alloc (.cells ⟨[.int .i64 k, .int .i64 n]⟩ 46)).heap[r]? = some (.cells ⟨[.slice (some ad) R.length cap, .int .i64 a, .int .i64 f, vo]⟩ 56 (0, 0)) := (Below.heap_alloc _ _ _ hr).trans hg
  have hrow : w1.heap[r]? = some (.cells ⟨[.slice (some ad) R.length cap, .int .i64 a, .int .i64 f, vo]⟩ 56 (0, 0)) := keep_row HO1.out hg1 (by decide) hg1'
  have hfz : w1.frozen? ⟨r, 3, none⟩ = false := by simp [World.frozen?, hrow]
  have hy : w1.cell? ⟨r, 3, none⟩ = some vo := (cell_of_row w1 r 3 _ _ _ hrow).trans rfl
  have hr1 : r < w1.heap.size := blk_lt hrow
  have hfr : Fr r w w1 := (Fr.of_below ((Below.refl w.heap.size w).alloc (Nat.le_refl _) _)).trans ⟨hg1.os, hg1.tape, hg1.output, hg1.size, fun j h1 h2 => hg1.block j h2 (fun q => by have := (HO1.out.blk j q.symm).1; omega), fun j h1 h2 h3 => hg1.block j h1 (fun q => by
    obtain ⟨cur, hcu⟩ := hasN_row HO1.out q.symm
    exact h3 _ _ hcu)⟩
  have hRb : Rd w1 (some ad) (cells R) := by
    intro i hi
    obtain ⟨x, hx, hcx⟩ := hR i hi
    cases hx
    refine ⟨ad, rfl, ?_⟩
    have hb : (ad.add i).block < r := by rw [block_add]; exact HC.out.2
    rw [World.cell?_of_block (hfr.low _ hb (by omega))]
    exact hcx
  have hO2 := hasN_set (i := 3) (v := v1) ho (own_ne ho hrow (by decide))
  have hset := heap_setCell_list (i := 3) (v := v1) hrow
  have hrd : Rdr r (w1.setCell ⟨r, 3, none⟩ v1) R (O ++ [⟨k, n⟩]) a f := ⟨⟨ad, cap, v1, hset.trans rfl, HC.out.1, HC.out.2, rd_set hRb HC.out.2, by rw [ndC_append, List.length_append, hm]; exact hO2⟩, HS.out⟩
  have HRD := Lib.hid hrd
  have HFR := Lib.hid (hfr.trans (Fr.set r w1 3 v1))
  rw [hv1] at HRD HFR ⊢
  rw [hvo] at hy
  clear hrd hfr hset hO2 hRb hg1' hg1 ho hg hR hO hrow hv1 hvo HO1 y3
  go_wp2_with fail
  go_returns
  exact ⟨rfl, HRD.out, HFR.out⟩
end Go.Proofs.YtdlfdkdcnabpoaaDoor.Pa
