/- Layer 17: one. -/
import Derived.Test.YtdlfdkdcnabpoaaDoorPaT
namespace Go.Proofs.YtdlfdkdcnabpoaaDoor.Pa
set_option linter.unusedSimpArgs false
set_option linter.unusedVariables false
open Go.RowKit
open _root_.Go.Proofs.YtdlfdkdcnabpoaaDoor.Own
open Go.Proofs.YtdlfdkdcnabpoaaDoor.Lx
attribute [local go_sem] str_size str_extract str_append str_toList
/-- The program's copy of the next piece. -/
def X4 (p : Pc) : List Value := [.int .i64 p.kind, .string (str p.text), .int .i64 p.n, .int .i64 p.pos]
theorem RdS.firsts {r : Nat} {w : World} {s : St} (h : RdS r w s) {p : Pc} {R : List Pc} (hp : s.R = p :: R) : ∃ (ad : Addr) (cap : Nat), ad.block < r ∧ w.cell? ⟨r, 0, none⟩ = some (.slice (some ad) (R.length + 1) cap) ∧ w.cell? ⟨r, 2, none⟩ = some (.int .i64 s.f) ∧
    w.cell? ad = some (.int .i64 p.kind) ∧ w.cell? ⟨ad.block, ad.off + 1, none⟩ = some (.string (str p.text)) ∧ w.cell? ⟨ad.block, ad.off + 2, none⟩ = some (.int .i64 p.n) ∧ w.cell? ⟨ad.block, ad.off + 3, none⟩ = some (.int .i64 p.pos) := by
  obtain ⟨ad, cap, vo, hg, hc, hlt, hR, hO⟩ := h.shape
  rw [hp] at hg hR
  obtain ⟨z0, z1, z2, z3⟩ := first_at hR
  exact ⟨ad, cap, hlt, (cell_of_row w r 0 _ _ _ hg).trans rfl, (cell_of_row w r 2 _ _ _ hg).trans rfl, z0, z1, z2, z3⟩
attribute [local irreducible] RdS
theorem x_row (w : World) (p : Pc) : (w.alloc (.cells ⟨X4 p⟩ 32)).heap[w.heap.size]? = some (.cells ⟨X4 p⟩ 32 (0, 0)) := heap_alloc_new w _
theorem x_below (w : World) (p : Pc) : Below w.heap.size w (w.alloc (.cells ⟨X4 p⟩ 32)) := (Below.refl _ _).alloc (Nat.le_refl _) _
theorem wf_head {R : List Pc} (h : Wf R) : ∃ p R', R = p :: R' ∧ ((p.kind, p.text, p.n) ∈ table ∨ p.kind = 5) := by
  obtain ⟨B, e, rfl, hB⟩ := h
  cases B with
  | nil => exact ⟨_, [], rfl, .inr rfl⟩
  | cons p B => exact ⟨p, B ++ [⟨5, [], 0, e⟩], rfl, .inl (hB p (List.mem_cons_self ..))⟩
set_option maxRecDepth 10000 in
set_option maxHeartbeats 4000000 in
theorem one_deep : PartC 58 9 (oneS 0) := by
  intro r w s h hw hl
  obtain ⟨p, R, hp, _⟩ := wf_head hw
  have HBd := Lib.hid (badC h 17)
  have HP := Lib.hid (show (badS s 17).R = p :: R from hp)
  have HFa := Lib.hid (show (badS s 17).f ≠ 0 by show (if s.f = 0 then 17 else s.f) ≠ 0; split <;> omega)
  have hT : oneS 0 s = badS s 17 := rfl
  rw [hT]
  clear h hw hl hp hT
  go_enter Tryd.func58, Tryd.ntmps58
  go_wp2_with fail
  refine HBd.out.mono ?_
  rintro e w1 ⟨rfl, hR1, hf1⟩
  obtain ⟨ad, cap, hlt, y0, y2, z0, z1, z2, z3⟩ := hR1.firsts HP.out
  obtain ⟨f1, hf⟩ : ∃ f1 : Nat, (badS s 17).f = f1 := ⟨_, rfl⟩
  rw [hf] at y2 HFa
  have c0 : ((f1 : Int) == 0) = false := by have := HFa.out; rw [beq_eq_false_iff_ne]; omega
  have hr := hR1.lt
  have hal : ad.block < w1.heap.size := by omega
  have HR1 := Lib.hid (hR1.below (x_below w1 p))
  have HF1 := Lib.hid (hf1.trans (.of_below (x_below w1 p)))
  clear hR1 hf1 hf HBd HP HFa
  go_wp2_with fail
  go_returns
  exact ⟨rfl, HR1.out, HF1.out⟩
set_option maxRecDepth 10000 in
set_option maxHeartbeats 4000000 in
theorem one_f (k : Nat) (hk : k ≤ 8) {r : Nat} {w : World} {s : St} (h : RdS r w s) (hw : Wf s.R) (hl : s.O.length + s.R.length ≤ 200) {p : Pc} {R : List Pc} (hp : s.R = p :: R) (hf : s.f ≠ 0) :
    Calls Tryd.prog 58 #[.pointer (some ⟨r, 0, none⟩), .int .i64 k] w fun x w' => x = .returned (.tuple #[]) ∧ RdS r w' (s) ∧ Fr r w w' := by
  obtain ⟨ad, cap, hlt, y0, y2, z0, z1, z2, z3⟩ := h.firsts hp
  have hr := h.lt
  have hal : ad.block < w.heap.size := by omega
  have d8 : decide (8 < k) = false := decide_eq_false (by omega)
  have i8 : ((8 : Int) < (k : Int)) = False := by simp; omega
  obtain ⟨f1, hf1⟩ : ∃ f1 : Nat, s.f = f1 := ⟨_, rfl⟩
  rw [hf1] at y2 hf
  have c0 : ((f1 : Int) == 0) = false := by rw [beq_eq_false_iff_ne]; omega
  have HR1 := Lib.hid (h.below (x_below w p))
  have HF1 := Lib.hid (Fr.of_below (r := r) (x_below w p))
  clear h hw hl hp hf hf1
  go_enter Tryd.func58, Tryd.ntmps58
  go_wp2_with fail
  go_returns
  exact ⟨rfl, HR1.out, HF1.out⟩
set_option maxRecDepth 10000 in
set_option maxHeartbeats 4000000 in
theorem one_role (k : Nat) (hk : k ≤ 8) {r : Nat} {w : World} {s : St} (h : RdS r w s) (hw : Wf s.R) (hl : s.O.length + s.R.length ≤ 200) {p : Pc} {R : List Pc} (hp : s.R = p :: R) (hf : s.f = 0) (hkd : p.kind = 2) :
    Calls Tryd.prog 58 #[.pointer (some ⟨r, 0, none⟩), .int .i64 k] w fun x w' => x = .returned (.tuple #[]) ∧ RdS r w' (nodeS (takeS s) 4 p.n) ∧ Fr r w w' := by
  obtain ⟨ad, cap, hlt, y0, y2, z0, z1, z2, z3⟩ := h.firsts hp
  have hr := h.lt
  have hal : ad.block < w.heap.size := by omega
  have d8 : decide (8 < k) = false := decide_eq_false (by omega)
  have i8 : ((8 : Int) < (k : Int)) = False := by simp; omega
  rw [hf] at y2
  have HR1 := Lib.hid (h.below (x_below w p))
  have HF1 := Lib.hid (Fr.of_below (r := r) (x_below w p))
  have HX1 := Lib.hid (x_row w p)
  have hBr : w.heap.size ≠ r := by omega
  have HBr := Lib.hid hBr
  clear hBr
  have HW := Lib.hid hw
  have HL := Lib.hid hl
  have HP := Lib.hid hp
  obtain ⟨kk, hkk⟩ : ∃ kk, (p.kind : Int) = kk := ⟨_, rfl⟩
  have HK := Lib.hid hkd
  rw [hkd] at z0
  have hTk := takeC HR1.out hw
  have hx1 := HX1.out
  have hf1 := HF1.out
  rw [show X4 p = [.int .i64 (2 : Nat), .string (str p.text), .int .i64 p.n, .int .i64 p.pos] by unfold X4; rw [hkd]] at hTk hx1 hf1
  have HTk := Lib.hid hTk
  clear HX1 HF1
  have HX1 := Lib.hid hx1
  have HF1 := Lib.hid hf1
  have hln : (takeS s).O.length ≤ 1000 := by rw [take_O]; omega
  have HLn := Lib.hid hln
  clear h hw hl hp hf hkk hkd hln hTk hx1 hf1
  go_enter Tryd.func58, Tryd.ntmps58
  go_wp2_with fail
  have HTk2 := HTk.out
  refine HTk2.mono ?_
  rintro e w2 ⟨⟨p', R', hp', rfl⟩, hR2, hf2⟩
  clear hp'
  have hx := hf2.row HX1.out HBr.out (by decide)
  have x2 : w2.cell? ⟨w.heap.size, 2, none⟩ = some (.int .i64 p.n) := (cell_of_row w2 _ 2 _ _ _ hx).trans rfl
  have HNo := Lib.hid (nodeC hR2 HLn.out 4 p.n)
  have HF2 := Lib.hid (HF1.out.trans hf2)
  clear hR2 hf2 hx HTk2
  go_wp2_with fail
  refine HNo.out.mono ?_
  rintro e w3 ⟨rfl, hR3, hf3⟩
  go_wp2_with fail
  go_returns
  exact ⟨rfl, hR3, HF2.out.trans hf3⟩
set_option maxRecDepth 10000 in
set_option maxHeartbeats 4000000 in
theorem one_tag (k : Nat) (hk : k ≤ 8) {r : Nat} {w : World} {s : St} (h : RdS r w s) (hw : Wf s.R) (hl : s.O.length + s.R.length ≤ 200) {p : Pc} {R : List Pc} (hp : s.R = p :: R) (hf : s.f = 0) (hkd : p.kind = 3) :
    Calls Tryd.prog 58 #[.pointer (some ⟨r, 0, none⟩), .int .i64 k] w fun x w' => x = .returned (.tuple #[]) ∧ RdS r w' (nodeS (takeS s) 5 p.n) ∧ Fr r w w' := by
  obtain ⟨ad, cap, hlt, y0, y2, z0, z1, z2, z3⟩ := h.firsts hp
  have hr := h.lt
  have hal : ad.block < w.heap.size := by omega
  have d8 : decide (8 < k) = false := decide_eq_false (by omega)
  have i8 : ((8 : Int) < (k : Int)) = False := by simp; omega
  rw [hf] at y2
  have HR1 := Lib.hid (h.below (x_below w p))
  have HF1 := Lib.hid (Fr.of_below (r := r) (x_below w p))
  have HX1 := Lib.hid (x_row w p)
  have hBr : w.heap.size ≠ r := by omega
  have HBr := Lib.hid hBr
  clear hBr
  have HW := Lib.hid hw
  have HL := Lib.hid hl
  have HP := Lib.hid hp
  obtain ⟨kk, hkk⟩ : ∃ kk, (p.kind : Int) = kk := ⟨_, rfl⟩
  have HK := Lib.hid hkd
  rw [hkd] at z0
  have hTk := takeC HR1.out hw
  have hx1 := HX1.out
  have hf1 := HF1.out
  rw [show X4 p = [.int .i64 (3 : Nat), .string (str p.text), .int .i64 p.n, .int .i64 p.pos] by unfold X4; rw [hkd]] at hTk hx1 hf1
  have HTk := Lib.hid hTk
  clear HX1 HF1
  have HX1 := Lib.hid hx1
  have HF1 := Lib.hid hf1
  have hln : (takeS s).O.length ≤ 1000 := by rw [take_O]; omega
  have HLn := Lib.hid hln
  clear h hw hl hp hf hkk hkd hln hTk hx1 hf1
  go_enter Tryd.func58, Tryd.ntmps58
  go_wp2_with fail
  have HTk2 := HTk.out
  refine HTk2.mono ?_
  rintro e w2 ⟨⟨p', R', hp', rfl⟩, hR2, hf2⟩
  clear hp'
  have hx := hf2.row HX1.out HBr.out (by decide)
  have x2 : w2.cell? ⟨w.heap.size, 2, none⟩ = some (.int .i64 p.n) := (cell_of_row w2 _ 2 _ _ _ hx).trans rfl
  have HNo := Lib.hid (nodeC hR2 HLn.out 5 p.n)
  have HF2 := Lib.hid (HF1.out.trans hf2)
  clear hR2 hf2 hx HTk2
  go_wp2_with fail
  refine HNo.out.mono ?_
  rintro e w3 ⟨rfl, hR3, hf3⟩
  go_wp2_with fail
  go_returns
  exact ⟨rfl, hR3, HF2.out.trans hf3⟩
theorem kinds_leaf : ∀ t ∈ ([[97, 108, 108], [108, 105, 118, 101], [109, 105, 110, 101]] : List (List UInt8)), ∃ k, (t, k) ∈ kindL := by
  intro t ht
  simp only [List.mem_cons, List.not_mem_nil, or_false] at ht
  rcases ht with rfl | rfl | rfl
  · exact ⟨1, by decide⟩
  · exact ⟨2, by decide⟩
  · exact ⟨3, by decide⟩
set_option maxRecDepth 10000 in
set_option maxHeartbeats 4000000 in
theorem one_leaf (k : Nat) (hk : k ≤ 8) {r : Nat} {w : World} {s : St} (h : RdS r w s) (hw : Wf s.R) (hl : s.O.length + s.R.length ≤ 200) {p : Pc} {R : List Pc} (hp : s.R = p :: R) (hf : s.f = 0) (hk2 : p.kind ≠ 2) (hk3 : p.kind ≠ 3) (hi : isS s [[97, 108, 108], [108, 105, 118, 101], [109, 105, 110, 101]] = true) :
    Calls Tryd.prog 58 #[.pointer (some ⟨r, 0, none⟩), .int .i64 k] w fun x w' => x = .returned (.tuple #[]) ∧ RdS r w' (nodeS (takeS s) (kindOf (headT s.R)) 0) ∧ Fr r w w' := by
  obtain ⟨ad, cap, hlt, y0, y2, z0, z1, z2, z3⟩ := h.firsts hp
  have hr := h.lt
  have hal : ad.block < w.heap.size := by omega
  have d8 : decide (8 < k) = false := decide_eq_false (by omega)
  have i8 : ((8 : Int) < (k : Int)) = False := by simp; omega
  rw [hf] at y2
  have hBr : w.heap.size ≠ r := by omega
  have HBr := Lib.hid hBr
  clear hBr
  have HW := Lib.hid hw
  have HL := Lib.hid hl
  have HP := Lib.hid hp
  have f2 : ((p.kind : Int) == 2) = false := by rw [beq_eq_false_iff_ne]; omega
  have f3 : ((p.kind : Int) == 3) = false := by rw [beq_eq_false_iff_ne]; omega
  obtain ⟨p', R', hp', -, -, hpt⟩ := is_none hi
  rw [hp] at hp'
  cases hp'
  have HPT := Lib.hid (kinds_leaf _ hpt)
  have hkd : headT s.R = p.text := by rw [hp]; rfl
  rw [hkd]
  have hln : (takeS s).O.length ≤ 1000 := by rw [take_O]; omega
  have HLn := Lib.hid hln
  obtain ⟨kk, hkk⟩ : ∃ kk, (p.kind : Int) = kk := ⟨_, rfl⟩
  have h1 := h.below (x_below w p)
  have hf1 := Fr.of_below (r := r) (x_below w p)
  have hx1 := x_row w p
  have hb1 : Below (w.alloc (.cells ⟨X4 p⟩ 32)).heap.size (w.alloc (.cells ⟨X4 p⟩ 32)) ((w.alloc (.cells ⟨X4 p⟩ 32)).alloc (.cells ⟨strs [[97, 108, 108], [108, 105, 118, 101], [109, 105, 110, 101]]⟩ 9)) := (Below.refl _ _).alloc (Nat.le_refl _) _
  have hI := isC (h1.below hb1) (w.alloc (.cells ⟨X4 p⟩ 32)).heap.size 3 [[97, 108, 108], [108, 105, 118, 101], [109, 105, 110, 101]] rfl (by decide) (texts_new _ _)
  have hf2 := hf1.trans (.of_below hb1)
  have hx2 := (hb1.block w.heap.size (by rw [World.size_alloc]; omega)).trans hx1
  have hX : X4 p = [.int .i64 kk, .string (str p.text), .int .i64 p.n, .int .i64 p.pos] := by unfold X4; rw [hkk]
  rw [hX] at hI hf2 hx2
  rw [World.size_alloc] at hI
  have HI := Lib.hid hI
  have HF1 := Lib.hid hf2
  have HX1 := Lib.hid hx2
  rw [hkk] at z0 f2 f3
  rw [hi] at HI
  clear h hw hl hp hf hk2 hk3 hkk h1 hf1 hx1 hb1 hI hf2 hx2 hX hi hpt hkd hln
  go_enter Tryd.func58, Tryd.ntmps58
  go_wp2_with fail
  refine HI.out.mono ?_
  rintro e w2 ⟨rfl, hR2, hf2⟩
  have HR2 := Lib.hid hR2
  have hx2 := hf2.row HX1.out HBr.out (by decide)
  have HX2 := Lib.hid hx2
  have HF2 := Lib.hid (HF1.out.trans hf2)
  clear hR2 hf2 hx2
  go_wp2_with fail
  refine Turn.region_seq [0, 2, 3, 4, 1, 5, 6, 7, 8] (fun i => i == 1 || i == 5 || i == 7 || i == 8) (fun _ => True) (by kernel_rfl) (by kernel_rfl) trivial ?_
  repeat (first | (apply Turn.seq_yes; (· simp only [List.getElem?_toArray, List.getElem?_cons_succ, List.getElem?_cons_zero]; rfl); (· rfl); (· go_simp); (· intro w1 h1; go_simp; first | exact ⟨rfl, rfl, h1⟩ | exact ⟨rfl, h1⟩ | exact rfl); (· go_simp; rfl)) | (apply Turn.seq_no; (· simp only [List.getElem?_toArray, List.getElem?_cons_succ, List.getElem?_cons_zero]; rfl); (· go_simp); (· go_simp; rfl)))
  apply Turn.seq_call
  · simp only [List.getElem?_toArray, List.getElem?_cons_succ, List.getElem?_cons_zero]; rfl
  · rfl
  · go_simp
  · intro v; go_simp; rfl
  go_simp
  refine (kinds_calls _).mono ?_
  rintro e w3 ⟨rfl, hK, hb3⟩
  have HR3 := Lib.hid (RdS.below (RdS.below HR2.out (Below.refl _ w2).drew) hb3)
  have HF3 := Lib.hid ((HF2.out.trans (.of_below (Below.refl _ w2).drew)).trans (.of_below hb3))
  have hKr : w2.drew.heap.size ≠ r := by
    have := (RdS.below HR2.out (Below.refl _ w2).drew).lt
    omega
  have HKi := Lib.hid (And.intro hK hKr)
  clear hK hb3 hKr
  obtain ⟨B, hB⟩ : ∃ B, w2.drew.heap.size = B := ⟨_, rfl⟩
  rw [hB] at HKi ⊢
  clear hB
  refine ⟨_, rfl, ?_⟩
  repeat (first | (apply Turn.seq_yes; (· simp only [List.getElem?_toArray, List.getElem?_cons_succ, List.getElem?_cons_zero]; rfl); (· rfl); (· go_simp); (· intro w1 h1; go_simp; first | exact ⟨rfl, rfl, h1⟩ | exact ⟨rfl, h1⟩ | exact rfl); (· go_simp; rfl)) | (apply Turn.seq_no; (· simp only [List.getElem?_toArray, List.getElem?_cons_succ, List.getElem?_cons_zero]; rfl); (· go_simp); (· go_simp; rfl)))
  apply Turn.seq_call
  · simp only [List.getElem?_toArray, List.getElem?_cons_succ, List.getElem?_cons_zero]; rfl
  · rfl
  · go_simp
  · intro v; go_simp; rfl
  go_simp
  refine (takeC HR3.out HW.out).mono ?_
  rintro e w4 ⟨⟨p', R', hp', rfl⟩, hR4, hf4⟩
  have hlk := kindOf_get (HKi.out.1.fr hf4 HKi.out.2) p.text HPT.out
  rw [HP.out] at hp'
  cases hp'
  have HR4 := Lib.hid hR4
  have HF4 := Lib.hid (HF3.out.trans hf4)
  clear hR4 hf4
  refine ⟨_, rfl, ?_⟩
  repeat (first | (apply Turn.seq_yes; (· simp only [List.getElem?_toArray, List.getElem?_cons_succ, List.getElem?_cons_zero]; rfl); (· rfl); (· go_simp); (· intro w1 h1; go_simp; first | exact ⟨rfl, rfl, h1⟩ | exact ⟨rfl, h1⟩ | exact rfl); (· go_simp; rfl)) | (apply Turn.seq_no; (· simp only [List.getElem?_toArray, List.getElem?_cons_succ, List.getElem?_cons_zero]; rfl); (· go_simp); (· go_simp; rfl)))
  apply Turn.seq_call
  · simp only [List.getElem?_toArray, List.getElem?_cons_succ, List.getElem?_cons_zero]; rfl
  · rfl
  · go_simp
  · intro v; go_simp; rfl
  go_simp
  repeat (first | (apply Turn.seq_yes; (· simp only [List.getElem?_toArray, List.getElem?_cons_succ, List.getElem?_cons_zero]; rfl); (· rfl); (· go_simp); (· intro w1 h1; go_simp; first | exact ⟨rfl, rfl, h1⟩ | exact ⟨rfl, h1⟩ | exact rfl); (· go_simp; rfl)) | (apply Turn.seq_no; (· simp only [List.getElem?_toArray, List.getElem?_cons_succ, List.getElem?_cons_zero]; rfl); (· go_simp); (· go_simp; rfl)))
  apply Turn.seq_call
  · simp only [List.getElem?_toArray, List.getElem?_cons_succ, List.getElem?_cons_zero]; rfl
  · rfl
  · go_simp
  · intro v; go_simp; rfl
  go_simp
  clear hlk
  refine (nodeC HR4.out HLn.out (kindOf p.text) 0).mono ?_
  rintro e w5 ⟨rfl, hR5, hf5⟩
  have HR5 := Lib.hid hR5
  have HF5 := Lib.hid (HF4.out.trans hf5)
  clear hR5 hf5
  refine ⟨_, rfl, ?_⟩
  repeat (first | (apply Turn.seq_yes; (· simp only [List.getElem?_toArray, List.getElem?_cons_succ, List.getElem?_cons_zero]; rfl); (· rfl); (· go_simp); (· intro w1 h1; go_simp; first | exact ⟨rfl, rfl, h1⟩ | exact ⟨rfl, h1⟩ | exact rfl); (· go_simp; rfl)) | (apply Turn.seq_no; (· simp only [List.getElem?_toArray, List.getElem?_cons_succ, List.getElem?_cons_zero]; rfl); (· go_simp); (· go_simp; rfl)))
  apply Turn.seq_nil
  go_wp2_with fail
  go_returns
  exact ⟨rfl, HR5.out, HF5.out⟩
set_option maxRecDepth 10000 in
set_option maxHeartbeats 4000000 in
theorem one_word (k : Nat) (hk : k ≤ 8) {r : Nat} {w : World} {s : St} (h : RdS r w s) (hw : Wf s.R) (hl : s.O.length + s.R.length ≤ 200) {p : Pc} {R : List Pc} (hp : s.R = p :: R) (hf : s.f = 0) (hk2 : p.kind ≠ 2) (hk3 : p.kind ≠ 3) (hi : isS s [[97, 108, 108], [108, 105, 118, 101], [109, 105, 110, 101]] = false) (ho : isS s [[40]] = false) (hk1 : p.kind = 1) (hpk : ∃ c, (p.text, c) ∈ kindL) {g : St → St} (hg : PartC 58 ((k : Int) + 1) g) (hS : Shr g) :
    Calls Tryd.prog 58 #[.pointer (some ⟨r, 0, none⟩), .int .i64 k] w fun x w' => x = .returned (.tuple #[]) ∧ RdS r w' (nodeS (g (takeS s)) (kindOf p.text) 0) ∧ Fr r w w' := by
  obtain ⟨ad, cap, hadl, y0, y2, z0, z1, z2, z3⟩ := h.firsts hp
  have hr := h.lt
  have hal : ad.block < w.heap.size := by omega
  have d8 : decide (8 < k) = false := decide_eq_false (by omega)
  have i8 : ((8 : Int) < (k : Int)) = False := by simp; omega
  rw [hf] at y2
  have hBr : w.heap.size ≠ r := by omega
  have HBr := Lib.hid hBr
  clear hBr
  have HW := Lib.hid hw
  have HL := Lib.hid hl
  have HP := Lib.hid hp
  have f2 : ((p.kind : Int) == 2) = false := by rw [beq_eq_false_iff_ne]; omega
  have f3 : ((p.kind : Int) == 3) = false := by rw [beq_eq_false_iff_ne]; omega
  have f1 : ((p.kind : Int) == 1) = true := by rw [beq_iff_eq]; omega
  have HIO := Lib.hid ho
  have HPK := Lib.hid hpk
  have HG := Lib.hid hg
  have hlt : (adv s.R).length + 1 = s.R.length := adv_k (by rw [hp]; show p.kind ≠ 5; omega) hw.ne
  have hln : (g (takeS s)).O.length ≤ 1000 := by
    have h3 := (hS (takeS s) hw.adv).2.2
    rw [take_R, take_O] at h3
    omega
  have HLn := Lib.hid (And.intro hln (show (takeS s).O.length + (takeS s).R.length ≤ 200 by rw [take_R, take_O]; omega))
  have hwr : wrap64 ((k : Int) + 1) = (k : Int) + 1 := by unfold wrap64; omega
  obtain ⟨kk, hkk⟩ : ∃ kk, (p.kind : Int) = kk := ⟨_, rfl⟩
  have h1 := h.below (x_below w p)
  have hf1 := Fr.of_below (r := r) (x_below w p)
  have hx1 := x_row w p
  have hb1 : Below (w.alloc (.cells ⟨X4 p⟩ 32)).heap.size (w.alloc (.cells ⟨X4 p⟩ 32)) ((w.alloc (.cells ⟨X4 p⟩ 32)).alloc (.cells ⟨strs [[97, 108, 108], [108, 105, 118, 101], [109, 105, 110, 101]]⟩ 9)) := (Below.refl _ _).alloc (Nat.le_refl _) _
  have hI := isC (h1.below hb1) (w.alloc (.cells ⟨X4 p⟩ 32)).heap.size 3 [[97, 108, 108], [108, 105, 118, 101], [109, 105, 110, 101]] rfl (by decide) (texts_new _ _)
  have hf2 := hf1.trans (.of_below hb1)
  have hx2 := (hb1.block w.heap.size (by rw [World.size_alloc]; omega)).trans hx1
  have hX : X4 p = [.int .i64 kk, .string (str p.text), .int .i64 p.n, .int .i64 p.pos] := by unfold X4; rw [hkk]
  rw [hX] at hI hf2 hx2
  rw [World.size_alloc] at hI
  have HI := Lib.hid hI
  have HF1 := Lib.hid hf2
  have HX1 := Lib.hid hx2
  rw [hkk] at z0 f1 f2 f3
  rw [hi] at HI
  clear h hw hl hp hf hk2 hk3 hkk h1 hf1 hx1 hb1 hI hf2 hx2 hX hi ho hk1 hpk hg hS hln
  go_enter Tryd.func58, Tryd.ntmps58
  go_wp2_with fail
  refine HI.out.mono ?_
  rintro e w2 ⟨rfl, hR2, hf2⟩
  have HR2 := Lib.hid hR2
  have hx2 := hf2.row HX1.out HBr.out (by decide)
  have HX2 := Lib.hid hx2
  have HF2 := Lib.hid (HF1.out.trans hf2)
  clear hR2 hf2 hx2
  have hb2 : Below w2.heap.size w2 (w2.alloc (.cells ⟨strs [[40]]⟩ 9)) := (Below.refl _ _).alloc (Nat.le_refl _) _
  have hI2 := isC (HR2.out.below hb2) w2.heap.size 1 [[40]] rfl (by decide) (texts_new w2 _)
  rw [HIO.out] at hI2
  have HI2 := Lib.hid hI2
  have hx3 := (hb2.block w.heap.size (blk_lt HX2.out)).trans HX2.out
  have HX3 := Lib.hid hx3
  have HF3 := Lib.hid (HF2.out.trans (.of_below hb2))
  clear hb2 hI2 hx3
  go_wp2_with fail
  refine HI2.out.mono ?_
  rintro e w3 ⟨rfl, hR3, hf3⟩
  have HR3 := Lib.hid hR3
  have HX4 := Lib.hid (hf3.row HX3.out HBr.out (by decide))
  have HF4 := Lib.hid (HF3.out.trans hf3)
  have x0 : w3.cell? ⟨w.heap.size, 0, none⟩ = some (.int .i64 kk) := (cell_of_row w3 _ 0 _ _ _ HX4.out).trans rfl
  have x1 : w3.cell? ⟨w.heap.size, 1, none⟩ = some (.string (str p.text)) := (cell_of_row w3 _ 1 _ _ _ HX4.out).trans rfl
  clear hR3 hf3 HI2
  have HTk := Lib.hid (takeC HR3.out HW.out)
  go_wp2_with fail
  refine HTk.out.mono ?_
  rintro e w4 ⟨⟨p', R', hp', rfl⟩, hR4, hf4⟩
  clear hp'
  have HX5 := Lib.hid (hf4.row HX4.out HBr.out (by decide))
  have HF5 := Lib.hid (HF4.out.trans hf4)
  have HCa := Lib.hid (HG.out r w4 (takeS s) hR4 HW.out.adv HLn.out.2)
  clear hR4 hf4 HTk
  go_wp2_with fail
  refine HCa.out.mono ?_
  rintro e w5 ⟨rfl, hR5, hf5⟩
  have HR5 := Lib.hid hR5
  have hx6 := hf5.row HX5.out HBr.out (by decide)
  have HF6 := Lib.hid (HF5.out.trans hf5)
  have x6 : w5.cell? ⟨w.heap.size, 1, none⟩ = some (.string (str p.text)) := (cell_of_row w5 _ 1 _ _ _ hx6).trans rfl
  obtain ⟨J, hJ⟩ : ∃ J : World → Prop, ∀ w', J w' ↔ w'.cell? ⟨w.heap.size, 1, none⟩ = some (.string (str p.text)) := ⟨_, fun _ => Iff.rfl⟩
  have HJ := Lib.hid hJ
  have HX6 := Lib.hid hx6
  clear hR5 hf5 HCa hx6 hJ
  go_wp2_with fail
  refine Turn.region_seq [0, 2, 3, 1, 4, 5] (fun i => i == 1 || i == 4 || i == 5) J (by kernel_rfl) (by kernel_rfl) ((HJ.out _).2 x6) ?_
  repeat (first | (apply Turn.seq_yes; (· simp only [List.getElem?_toArray, List.getElem?_cons_succ, List.getElem?_cons_zero]; rfl); (· rfl); (· go_simp); (· intro w1 h1; have h2 := (HJ.out w1).1 h1; go_simp; first | exact ⟨rfl, rfl, h1⟩ | exact ⟨rfl, h1⟩ | exact rfl); (· go_simp; rfl)) | (apply Turn.seq_no; (· simp only [List.getElem?_toArray, List.getElem?_cons_succ, List.getElem?_cons_zero]; rfl); (· go_simp); (· go_simp; rfl)))
  apply Turn.seq_call
  · simp only [List.getElem?_toArray, List.getElem?_cons_succ, List.getElem?_cons_zero]; rfl
  · rfl
  · go_simp
  · intro v; go_simp; rfl
  go_simp
  refine (kinds_calls _).mono ?_
  rintro e w6 ⟨rfl, hK, hb6⟩
  have HR6 := Lib.hid (RdS.below (RdS.below HR5.out (Below.refl _ w5).drew) hb6)
  have HF7 := Lib.hid ((HF6.out.trans (.of_below (Below.refl _ w5).drew)).trans (.of_below hb6))
  have hx7 := (hb6.block w.heap.size (blk_lt HX6.out)).trans HX6.out
  have HX7 := Lib.hid hx7
  clear hx7
  have hj6 : J w6 := (HJ.out _).2 ((cell_of_row w6 _ 1 _ _ _ ((hb6.block w.heap.size (blk_lt HX6.out)).trans HX6.out)).trans rfl)
  have hlk := kindOf_get hK p.text HPK.out
  clear hb6 hK
  obtain ⟨B, hB⟩ : ∃ B, w5.drew.heap.size = B := ⟨_, rfl⟩
  rw [hB] at hlk ⊢
  clear hB
  refine ⟨_, rfl, hj6, ?_⟩
  repeat (first | (apply Turn.seq_yes; (· simp only [List.getElem?_toArray, List.getElem?_cons_succ, List.getElem?_cons_zero]; rfl); (· rfl); (· go_simp); (· intro w1 h1; have h2 := (HJ.out w1).1 h1; go_simp; first | exact ⟨rfl, rfl, h1⟩ | exact ⟨rfl, h1⟩ | exact rfl); (· go_simp; rfl)) | (apply Turn.seq_no; (· simp only [List.getElem?_toArray, List.getElem?_cons_succ, List.getElem?_cons_zero]; rfl); (· go_simp); (· go_simp; rfl)))
  apply Turn.seq_call
  · simp only [List.getElem?_toArray, List.getElem?_cons_succ, List.getElem?_cons_zero]; rfl
  · rfl
  · go_simp
  · intro v; go_simp; rfl
  go_simp
  refine ⟨hj6, ?_⟩
  repeat (first | (apply Turn.seq_yes; (· simp only [List.getElem?_toArray, List.getElem?_cons_succ, List.getElem?_cons_zero]; rfl); (· rfl); (· go_simp); (· intro w1 h1; have h2 := (HJ.out w1).1 h1; go_simp; first | exact ⟨rfl, rfl, h1⟩ | exact ⟨rfl, h1⟩ | exact rfl); (· go_simp; rfl)) | (apply Turn.seq_no; (· simp only [List.getElem?_toArray, List.getElem?_cons_succ, List.getElem?_cons_zero]; rfl); (· go_simp); (· go_simp; rfl)))
  apply Turn.seq_call
  · simp only [List.getElem?_toArray, List.getElem?_cons_succ, List.getElem?_cons_zero]; rfl
  · rfl
  · go_simp
  · intro v; go_simp; rfl
  go_simp
  clear hlk
  refine (nodeC HR6.out HLn.out.1 (kindOf p.text) 0).mono ?_
  rintro e w7 ⟨rfl, hR7, hf7⟩
  have HR7 := Lib.hid hR7
  have HF8 := Lib.hid (HF7.out.trans hf7)
  have hj7 : J w7 := (HJ.out _).2 ((cell_of_row w7 _ 1 _ _ _ (hf7.row HX7.out HBr.out (by decide))).trans rfl)
  clear hR7 hf7
  refine ⟨_, rfl, hj7, ?_⟩
  repeat (first | (apply Turn.seq_yes; (· simp only [List.getElem?_toArray, List.getElem?_cons_succ, List.getElem?_cons_zero]; rfl); (· rfl); (· go_simp); (· intro w1 h1; have h2 := (HJ.out w1).1 h1; go_simp; first | exact ⟨rfl, rfl, h1⟩ | exact ⟨rfl, h1⟩ | exact rfl); (· go_simp; rfl)) | (apply Turn.seq_no; (· simp only [List.getElem?_toArray, List.getElem?_cons_succ, List.getElem?_cons_zero]; rfl); (· go_simp); (· go_simp; rfl)))
  apply Turn.seq_nil
  go_wp2_with fail
  go_returns
  exact ⟨rfl, HR7.out, HF8.out⟩
set_option maxRecDepth 10000 in
set_option maxHeartbeats 4000000 in
theorem one_else (k : Nat) (hk : k ≤ 8) {r : Nat} {w : World} {s : St} (h : RdS r w s) (hw : Wf s.R) (hl : s.O.length + s.R.length ≤ 200) {p : Pc} {R : List Pc} (hp : s.R = p :: R) (hf : s.f = 0) (hk2 : p.kind ≠ 2) (hk3 : p.kind ≠ 3) (hi : isS s [[97, 108, 108], [108, 105, 118, 101], [109, 105, 110, 101]] = false) (ho : isS s [[40]] = false) (hk1 : p.kind ≠ 1) :
    Calls Tryd.prog 58 #[.pointer (some ⟨r, 0, none⟩), .int .i64 k] w fun x w' => x = .returned (.tuple #[]) ∧ RdS r w' (badS s 3) ∧ Fr r w w' := by
  obtain ⟨ad, cap, hlt, y0, y2, z0, z1, z2, z3⟩ := h.firsts hp
  have hr := h.lt
  have hal : ad.block < w.heap.size := by omega
  have d8 : decide (8 < k) = false := decide_eq_false (by omega)
  have i8 : ((8 : Int) < (k : Int)) = False := by simp; omega
  rw [hf] at y2
  have hBr : w.heap.size ≠ r := by omega
  have HBr := Lib.hid hBr
  clear hBr
  have HW := Lib.hid hw
  have HL := Lib.hid hl
  have HP := Lib.hid hp
  have f2 : ((p.kind : Int) == 2) = false := by rw [beq_eq_false_iff_ne]; omega
  have f3 : ((p.kind : Int) == 3) = false := by rw [beq_eq_false_iff_ne]; omega
  have f1 : ((p.kind : Int) == 1) = false := by rw [beq_eq_false_iff_ne]; omega
  have HIO := Lib.hid ho
  obtain ⟨kk, hkk⟩ : ∃ kk, (p.kind : Int) = kk := ⟨_, rfl⟩
  have h1 := h.below (x_below w p)
  have hf1 := Fr.of_below (r := r) (x_below w p)
  have hx1 := x_row w p
  have hb1 : Below (w.alloc (.cells ⟨X4 p⟩ 32)).heap.size (w.alloc (.cells ⟨X4 p⟩ 32)) ((w.alloc (.cells ⟨X4 p⟩ 32)).alloc (.cells ⟨strs [[97, 108, 108], [108, 105, 118, 101], [109, 105, 110, 101]]⟩ 9)) := (Below.refl _ _).alloc (Nat.le_refl _) _
  have hI := isC (h1.below hb1) (w.alloc (.cells ⟨X4 p⟩ 32)).heap.size 3 [[97, 108, 108], [108, 105, 118, 101], [109, 105, 110, 101]] rfl (by decide) (texts_new _ _)
  have hf2 := hf1.trans (.of_below hb1)
  have hx2 := (hb1.block w.heap.size (by rw [World.size_alloc]; omega)).trans hx1
  have hX : X4 p = [.int .i64 kk, .string (str p.text), .int .i64 p.n, .int .i64 p.pos] := by unfold X4; rw [hkk]
  rw [hX] at hI hf2 hx2
  rw [World.size_alloc] at hI
  have HI := Lib.hid hI
  have HF1 := Lib.hid hf2
  have HX1 := Lib.hid hx2
  rw [hkk] at z0 f1 f2 f3
  rw [hi] at HI
  clear h hw hl hp hf hk2 hk3 hkk h1 hf1 hx1 hb1 hI hf2 hx2 hX hi ho hk1
  go_enter Tryd.func58, Tryd.ntmps58
  go_wp2_with fail
  refine HI.out.mono ?_
  rintro e w2 ⟨rfl, hR2, hf2⟩
  have HR2 := Lib.hid hR2
  have hx2 := hf2.row HX1.out HBr.out (by decide)
  have HX2 := Lib.hid hx2
  have HF2 := Lib.hid (HF1.out.trans hf2)
  clear hR2 hf2 hx2
  have hb2 : Below w2.heap.size w2 (w2.alloc (.cells ⟨strs [[40]]⟩ 9)) := (Below.refl _ _).alloc (Nat.le_refl _) _
  have hI2 := isC (HR2.out.below hb2) w2.heap.size 1 [[40]] rfl (by decide) (texts_new w2 _)
  rw [HIO.out] at hI2
  have HI2 := Lib.hid hI2
  have hx3 := (hb2.block w.heap.size (blk_lt HX2.out)).trans HX2.out
  have HX3 := Lib.hid hx3
  have HF3 := Lib.hid (HF2.out.trans (.of_below hb2))
  clear hb2 hI2 hx3
  go_wp2_with fail
  refine HI2.out.mono ?_
  rintro e w3 ⟨rfl, hR3, hf3⟩
  have HR3 := Lib.hid hR3
  have HX4 := Lib.hid (hf3.row HX3.out HBr.out (by decide))
  have HF4 := Lib.hid (HF3.out.trans hf3)
  have x0 : w3.cell? ⟨w.heap.size, 0, none⟩ = some (.int .i64 kk) := (cell_of_row w3 _ 0 _ _ _ HX4.out).trans rfl
  have x1 : w3.cell? ⟨w.heap.size, 1, none⟩ = some (.string (str p.text)) := (cell_of_row w3 _ 1 _ _ _ HX4.out).trans rfl
  clear hR3 hf3 HI2
  have HBd := Lib.hid (badC HR3.out 3)
  go_wp2_with fail
  refine HBd.out.mono ?_
  rintro e w4 ⟨rfl, hR4, hf4⟩
  go_wp2_with fail
  go_returns
  exact ⟨rfl, hR4, HF4.out.trans hf4⟩
set_option maxRecDepth 10000 in
set_option maxHeartbeats 4000000 in
theorem one_open (k : Nat) (hk : k ≤ 8) {r : Nat} {w : World} {s : St} (h : RdS r w s) (hw : Wf s.R) (hl : s.O.length + s.R.length ≤ 200) {p : Pc} {R : List Pc} (hp : s.R = p :: R) (hf : s.f = 0) (hk2 : p.kind ≠ 2) (hk3 : p.kind ≠ 3) (hi : isS s [[97, 108, 108], [108, 105, 118, 101], [109, 105, 110, 101]] = false) (ho : isS s [[40]] = true) {g : St → St} (hg : PartC 58 ((k : Int) + 1) g) (hS : Shr g) :
    Calls Tryd.prog 58 #[.pointer (some ⟨r, 0, none⟩), .int .i64 k] w fun x w' => x = .returned (.tuple #[]) ∧ RdS r w' (closeS (testS g (takeS s))) ∧ Fr r w w' := by
  obtain ⟨ad, cap, hadl, y0, y2, z0, z1, z2, z3⟩ := h.firsts hp
  have hr := h.lt
  have hal : ad.block < w.heap.size := by omega
  have d8 : decide (8 < k) = false := decide_eq_false (by omega)
  have i8 : ((8 : Int) < (k : Int)) = False := by simp; omega
  rw [hf] at y2
  have hBr : w.heap.size ≠ r := by omega
  have HBr := Lib.hid hBr
  clear hBr
  have HW := Lib.hid hw
  have HL := Lib.hid hl
  have HP := Lib.hid hp
  have f2 : ((p.kind : Int) == 2) = false := by rw [beq_eq_false_iff_ne]; omega
  have f3 : ((p.kind : Int) == 3) = false := by rw [beq_eq_false_iff_ne]; omega
  have HIO := Lib.hid ho
  have HG := Lib.hid (test_calls hg hS)
  have h9 := shr_test hS (takeS s) hw.adv
  have hlt : (adv s.R).length ≤ s.R.length := adv_le _
  have h8 : (takeS s).O.length + (takeS s).R.length ≤ 200 := by rw [take_R, take_O]; omega
  have HLn := Lib.hid h8
  have HW1 := Lib.hid h9.1
  have hwr : wrap64 ((k : Int) + 1) = (k : Int) + 1 := by unfold wrap64; omega
  obtain ⟨s1, hs1⟩ : ∃ s1, testS g (takeS s) = s1 := ⟨_, rfl⟩
  have HS1 := Lib.hid hs1
  obtain ⟨bc, hbc⟩ : ∃ bc, isS s1 [[41]] = bc := ⟨_, rfl⟩
  have HBC := Lib.hid hbc
  rw [hs1] at HW1 ⊢
  have hcl : closeS s1 = takeS (if bc = true then s1 else badS s1 3) := by unfold closeS; rw [hbc]
  rw [hcl]
  obtain ⟨kk, hkk⟩ : ∃ kk, (p.kind : Int) = kk := ⟨_, rfl⟩
  have h1 := h.below (x_below w p)
  have hf1 := Fr.of_below (r := r) (x_below w p)
  have hx1 := x_row w p
  have hb1 : Below (w.alloc (.cells ⟨X4 p⟩ 32)).heap.size (w.alloc (.cells ⟨X4 p⟩ 32)) ((w.alloc (.cells ⟨X4 p⟩ 32)).alloc (.cells ⟨strs [[97, 108, 108], [108, 105, 118, 101], [109, 105, 110, 101]]⟩ 9)) := (Below.refl _ _).alloc (Nat.le_refl _) _
  have hI := isC (h1.below hb1) (w.alloc (.cells ⟨X4 p⟩ 32)).heap.size 3 [[97, 108, 108], [108, 105, 118, 101], [109, 105, 110, 101]] rfl (by decide) (texts_new _ _)
  have hf2 := hf1.trans (.of_below hb1)
  have hx2 := (hb1.block w.heap.size (by rw [World.size_alloc]; omega)).trans hx1
  have hX : X4 p = [.int .i64 kk, .string (str p.text), .int .i64 p.n, .int .i64 p.pos] := by unfold X4; rw [hkk]
  rw [hX] at hI hf2 hx2
  rw [World.size_alloc] at hI
  have HI := Lib.hid hI
  have HF1 := Lib.hid hf2
  have HX1 := Lib.hid hx2
  rw [hkk] at z0 f2 f3
  rw [hi] at HI
  clear h hw hl hp hf hk2 hk3 hkk h1 hf1 hx1 hb1 hI hf2 hx2 hX hi ho hg hS h8 h9 hs1 hbc hcl
  go_enter Tryd.func58, Tryd.ntmps58
  go_wp2_with fail
  refine HI.out.mono ?_
  rintro e w2 ⟨rfl, hR2, hf2⟩
  have HR2 := Lib.hid hR2
  have hx2 := hf2.row HX1.out HBr.out (by decide)
  have HX2 := Lib.hid hx2
  have HF2 := Lib.hid (HF1.out.trans hf2)
  clear hR2 hf2 hx2
  have hb2 : Below w2.heap.size w2 (w2.alloc (.cells ⟨strs [[40]]⟩ 9)) := (Below.refl _ _).alloc (Nat.le_refl _) _
  have hI2 := isC (HR2.out.below hb2) w2.heap.size 1 [[40]] rfl (by decide) (texts_new w2 _)
  rw [HIO.out] at hI2
  have HI2 := Lib.hid hI2
  have hx3 := (hb2.block w.heap.size (blk_lt HX2.out)).trans HX2.out
  have HX3 := Lib.hid hx3
  have HF3 := Lib.hid (HF2.out.trans (.of_below hb2))
  clear hb2 hI2 hx3
  go_wp2_with fail
  refine HI2.out.mono ?_
  rintro e w3 ⟨rfl, hR3, hf3⟩
  have HR3 := Lib.hid hR3
  have HX4 := Lib.hid (hf3.row HX3.out HBr.out (by decide))
  have HF4 := Lib.hid (HF3.out.trans hf3)
  have x0 : w3.cell? ⟨w.heap.size, 0, none⟩ = some (.int .i64 kk) := (cell_of_row w3 _ 0 _ _ _ HX4.out).trans rfl
  have x1 : w3.cell? ⟨w.heap.size, 1, none⟩ = some (.string (str p.text)) := (cell_of_row w3 _ 1 _ _ _ HX4.out).trans rfl
  clear hR3 hf3 HI2
  have HTk := Lib.hid (takeC HR3.out HW.out)
  go_wp2_with fail
  refine HTk.out.mono ?_
  rintro e w4 ⟨⟨p', R', hp', rfl⟩, hR4, hf4⟩
  clear hp'
  have HF5 := Lib.hid (HF4.out.trans hf4)
  have hCa := HG.out r w4 (takeS s) hR4 HW.out.adv HLn.out
  rw [HS1.out] at hCa
  have HCa := Lib.hid hCa
  clear hR4 hf4 HTk hCa x0 x1
  go_wp2_with fail
  refine HCa.out.mono ?_
  rintro e w5 ⟨rfl, hR5, hf5⟩
  have hb5 : Below w5.heap.size w5 (w5.alloc (.cells ⟨strs [[41]]⟩ 9)) := (Below.refl _ _).alloc (Nat.le_refl _) _
  have hI5 := isC (hR5.below hb5) w5.heap.size 1 [[41]] rfl (by decide) (texts_new w5 _)
  rw [HBC.out] at hI5
  have HI5 := Lib.hid hI5
  have HF6 := Lib.hid ((HF5.out.trans hf5).trans (.of_below hb5))
  clear hR5 hf5 HCa hb5 hI5
  go_wp2_with fail
  refine HI5.out.mono ?_
  rintro e w6 ⟨rfl, hR6, hf6⟩
  have HR6 := Lib.hid hR6
  have HF7 := Lib.hid (HF6.out.trans hf6)
  clear hR6 hf6 HI5
  cases bc with
  | true =>
    have HT7 := Lib.hid (takeC HR6.out HW1.out)
    go_wp2_with fail
    refine HT7.out.mono ?_
    rintro e w7 ⟨⟨p', R', hp', rfl⟩, hR7, hf7⟩
    clear hp'
    go_wp2_with fail
    go_returns
    exact ⟨rfl, hR7, HF7.out.trans hf7⟩
  | false =>
    have HBd := Lib.hid (badC HR6.out 3)
    have HWb := Lib.hid (show Wf (badS s1 3).R from HW1.out)
    go_wp2_with fail
    refine HBd.out.mono ?_
    rintro e w7 ⟨rfl, hR7, hf7⟩
    have HT7 := Lib.hid (takeC hR7 HWb.out)
    have HF8 := Lib.hid (HF7.out.trans hf7)
    clear hR7 hf7
    go_wp2_with fail
    refine HT7.out.mono ?_
    rintro e w8 ⟨⟨p', R', hp', rfl⟩, hR8, hf8⟩
    clear hp'
    go_wp2_with fail
    go_returns
    exact ⟨rfl, hR8, HF8.out.trans hf8⟩
theorem kindL_words : ∀ t ∈ words, ∃ x ∈ kindL, x.1 = t := by decide
theorem table_words : ∀ x ∈ table, x.1 = 1 → x.2.1 ∈ words := by
  intro x hx h1
  unfold table at hx
  rcases List.mem_append.1 hx with h | h
  · obtain ⟨n, _, hn⟩ := List.mem_flatMap.1 h
    simp only [List.mem_cons, List.not_mem_nil, or_false] at hn
    rcases hn with rfl | rfl <;> simp at h1
  · rcases List.mem_append.1 h with h | h
    · obtain ⟨t, ht, rfl⟩ := List.mem_map.1 h
      exact ht
    · obtain ⟨t, ht, rfl⟩ := List.mem_map.1 h
      simp at h1
theorem one_step (d k : Nat) (hk : k ≤ 8) (hO : PartC 58 ((k : Int) + 1) (oneS d)) : PartC 58 (k : Int) (oneS (d + 1)) := by
  intro r w s h hw hl
  obtain ⟨p, R, hp, ht⟩ := wf_head hw
  have hK : headK s.R = p.kind := by rw [hp]; rfl
  have hN : headN s.R = p.n := by rw [hp]; rfl
  have hT : headT s.R = p.text := by rw [hp]; rfl
  unfold oneS
  by_cases hf : s.f = 0
  · rw [if_neg (by omega)]
    by_cases h2 : p.kind = 2
    · rw [if_pos (by omega), hN]
      exact one_role k hk h hw hl hp hf h2
    rw [if_neg (by omega)]
    by_cases h3 : p.kind = 3
    · rw [if_pos (by omega), hN]
      exact one_tag k hk h hw hl hp hf h3
    rw [if_neg (by omega)]
    by_cases hi : isS s [[97, 108, 108], [108, 105, 118, 101], [109, 105, 110, 101]] = true
    · rw [if_pos hi]
      exact one_leaf k hk h hw hl hp hf h2 h3 hi
    rw [if_neg hi]
    have hi' : isS s [[97, 108, 108], [108, 105, 118, 101], [109, 105, 110, 101]] = false := by simpa using hi
    by_cases ho : isS s [[40]] = true
    · rw [if_pos ho]
      exact one_open k hk h hw hl hp hf h2 h3 hi' ho hO (shr_one d)
    rw [if_neg ho]
    have ho' : isS s [[40]] = false := by simpa using ho
    by_cases h1 : p.kind = 1
    · rw [if_pos (by omega), hT]
      have hpk : ∃ c, (p.text, c) ∈ kindL := by
        rcases ht with ht | ht
        · obtain ⟨x, hx, e⟩ := kindL_words _ (table_words _ ht h1)
          exact ⟨x.2, by rw [show p.text = x.1 from e.symm]; exact hx⟩
        · omega
      exact one_word k hk h hw hl hp hf h2 h3 hi' ho' h1 hpk hO (shr_one d)
    · rw [if_neg (by omega)]
      exact one_else k hk h hw hl hp hf h2 h3 hi' ho' h1
  · rw [if_pos hf]
    exact one_f k hk h hw hl hp hf
theorem one_calls : ∀ d k : Nat, d + k = 9 → PartC 58 (k : Int) (oneS d)
  | 0, k, e => by
    have : k = 9 := by omega
    subst this
    exact one_deep
  | d + 1, k, e => one_step d k (by omega) (by have := one_calls d (k + 1) (by omega); rw [Int.natCast_succ] at this; exact this)
end Go.Proofs.YtdlfdkdcnabpoaaDoor.Pa

