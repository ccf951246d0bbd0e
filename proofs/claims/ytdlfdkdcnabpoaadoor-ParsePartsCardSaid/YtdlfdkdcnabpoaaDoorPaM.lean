/- Layer 17: the reader in memory: the pieces that are left, the first fault, the nodes so far; its small methods. -/
import Derived.Test.YtdlfdkdcnabpoaaDoorLxI
import Derived.Lib.SlicesS
namespace Go.Proofs.YtdlfdkdcnabpoaaDoor.Pa
set_option linter.unusedSimpArgs false
set_option linter.unusedVariables false
open Go.RowKit
open _root_.Go.Proofs.YtdlfdkdcnabpoaaDoor.Own
open Go.Proofs.YtdlfdkdcnabpoaaDoor.Lx
attribute [local go_sem] str_size str_extract str_append str_toList
/-- A node. -/
structure Nd where
  k : Int
  n : Int
deriving DecidableEq
def ndC (l : List Nd) : List Value := l.flatMap fun x => [.int .i64 x.k, .int .i64 x.n]
theorem ndC_append (a b : List Nd) : ndC (a ++ b) = ndC a ++ ndC b := by simp [ndC]
theorem ndC_length (l : List Nd) : (ndC l).length = l.length * 2 := by
  induction l with
  | nil => rfl
  | cons x l ih => rw [show ndC (x :: l) = [.int .i64 x.k, .int .i64 x.n] ++ ndC l from rfl, List.length_append, ih, List.length_cons]; simp; omega
/-- What a method of the reader may turn: the reader's own block, rows of nodes made since, and new blocks. -/
structure Fr (r : Nat) (w w' : World) : Prop where
  os : w'.os = w.os
  tape : w'.tape = w.tape
  output : w'.output = w.output
  size : w.heap.size ≤ w'.heap.size
  low : ∀ k, k < r → k < w.heap.size → w'.heap[k]? = w.heap[k]?
  other : ∀ k, k < w.heap.size → k ≠ r → (∀ cs fr, w.heap[k]? ≠ some (.cells cs 46 fr)) → w'.heap[k]? = w.heap[k]?
theorem Fr.refl (r : Nat) (w : World) : Fr r w w := ⟨rfl, rfl, rfl, Nat.le_refl _, fun _ _ _ => rfl, fun _ _ _ _ => rfl⟩
theorem Fr.trans {r : Nat} {a b c : World} (h : Fr r a b) (k : Fr r b c) : Fr r a c :=
  ⟨k.os.trans h.os, k.tape.trans h.tape, k.output.trans h.output, Nat.le_trans h.size k.size, fun j h1 h2 => (k.low j h1 (Nat.lt_of_lt_of_le h2 h.size)).trans (h.low j h1 h2),
    fun j h1 h2 h3 => (k.other j (Nat.lt_of_lt_of_le h1 h.size) h2 (fun cs fr => by rw [h.other j h1 h2 h3]; exact h3 cs fr)).trans (h.other j h1 h2 h3)⟩
theorem Fr.of_below {r : Nat} {w w' : World} (h : Below w.heap.size w w') : Fr r w w' := ⟨h.os, h.tape, h.output, h.size, fun k _ h2 => h.block k h2, fun k h1 _ _ => h.block k h1⟩
theorem Fr.below {r : Nat} {w w' : World} (h : Fr r w w') (hr : r ≤ w.heap.size) : Below r w w' := ⟨h.os, h.tape, h.output, h.size, fun k hk => h.low k hk (by omega)⟩
/-- A block that is no row of nodes stands. -/
theorem Fr.row {r : Nat} {w w' : World} (h : Fr r w w') {g : Nat} {cs : Array Value} {t : TypeId} {fr : Nat × Nat} (hg : w.heap[g]? = some (.cells cs t fr)) (hn : g ≠ r) (ht : t ≠ 46) : w'.heap[g]? = some (.cells cs t fr) :=
  (h.other g (blk_lt hg) hn (fun cs' fr' e => by rw [hg] at e; cases e; exact ht rfl)).trans hg
/-- The reader. -/
structure Rdr (r : Nat) (w : World) (R : List Pc) (O : List Nd) (a f : Nat) : Prop where
  shape : ∃ ad cap vo, w.heap[r]? = some (.cells ⟨[.slice (some ad) R.length cap, .int .i64 a, .int .i64 f, vo]⟩ 56 (0, 0)) ∧ R.length ≤ cap ∧ ad.block < r ∧ Rd w (some ad) (cells R) ∧ HasN r 46 2 vo O.length (ndC O) w
  some_ : R ≠ []
theorem Rdr.lt {r : Nat} {w : World} {R : List Pc} {O : List Nd} {a f : Nat} (h : Rdr r w R O a f) : r < w.heap.size := by
  obtain ⟨_, _, _, hg, _⟩ := h.shape
  exact blk_lt hg
theorem Rdr.below {r : Nat} {w w' : World} {R : List Pc} {O : List Nd} {a f : Nat} (h : Rdr r w R O a f) (hb : Below w.heap.size w w') : Rdr r w' R O a f := by
  obtain ⟨ad, cap, vo, hg, hc, hl, hR, hO⟩ := h.shape
  exact ⟨⟨ad, cap, vo, (hb.block r (blk_lt hg)).trans hg, hc, hl, hR.below hb, hO.below hb⟩, h.some_⟩
/-- The first piece that is left, as a walk asks for it. -/
theorem first_at {w : World} {ad : Addr} {p : Pc} {R : List Pc} (h : Rd w (some ad) (cells (p :: R))) : w.cell? ad = some (.int .i64 p.kind) ∧ w.cell? ⟨ad.block, ad.off + 1, none⟩ = some (.string (str p.text)) ∧ w.cell? ⟨ad.block, ad.off + 2, none⟩ = some (.int .i64 p.n) ∧ w.cell? ⟨ad.block, ad.off + 3, none⟩ = some (.int .i64 p.pos) := by
  have c := cells_at (p :: R) 0 p rfl
  have h0 := h.cell (k := 0) ((c 0 (by decide)).trans rfl)
  have e : ad.add (0 * 4) = ad := by unfold Addr.add; simp
  have e0 : ad.add 0 = ad := by unfold Addr.add; simp
  rw [e0] at h0
  have h1 := h.part (j := 0) (sz := 4) (f := 1) (by decide) ((c 1 (by decide)).trans rfl)
  have h2 := h.part (j := 0) (sz := 4) (f := 2) (by decide) ((c 2 (by decide)).trans rfl)
  have h3 := h.part (j := 0) (sz := 4) (f := 3) (by decide) ((c 3 (by decide)).trans rfl)
  rw [e] at h1 h2 h3
  exact ⟨h0, h1, h2, h3⟩
/-- The strings that 'is' was given. -/
def Texts (w : World) (b : Nat) (ts : List (List UInt8)) : Prop := w.heap[b]? = some (.cells ⟨strs ts⟩ 9 (0, 0))
theorem contains_str (ts : List (List UInt8)) (t : List UInt8) : Lib.containsS (ts.map str) (str t) = ts.contains t := by
  apply Bool.eq_iff_iff.2
  rw [Lib.containsS_iff, List.contains_iff_mem, List.mem_map]
  exact ⟨fun ⟨x, hx, e⟩ => by rw [← str_inj e]; exact hx, fun h => ⟨t, h, rfl⟩⟩
theorem has_text (w : World) (b n : Nat) (ts : List (List UInt8)) (hn : n = ts.length) (hl : ts.length ≤ 100) (t : List UInt8) (h : Texts w b ts) : Calls Tryd.prog 50 #[.slice (some ⟨b, 0, none⟩) n n, .string (str t)] w fun e w' => e = .returned (.bool (ts.contains t)) ∧ w = w' := by
  subst hn
  refine (Tryd.slices_Contains_string b 0 ts.length ts.length (ts.map str) (str t) w (by simp) (by omega) (fun j hj => ?_)).mono ?_
  · rw [List.length_map] at hj
    rw [Nat.zero_add, cell_of_row w b j _ _ _ h]
    simp [strs, hj]
  · rintro e w' ⟨rfl, rfl⟩
    exact ⟨by rw [List.take_of_length_le (by simp), contains_str], rfl⟩
/-- Is the next piece one of those? -/
def isT (R : List Pc) (f : Nat) (ts : List (List UInt8)) : Bool := f == 0 && match R with | p :: _ => (p.kind == 1 || p.kind == 4) && ts.contains p.text | [] => false
set_option maxRecDepth 10000 in
set_option maxHeartbeats 4000000 in
theorem is_calls {r : Nat} {w : World} {R : List Pc} {O : List Nd} {a f : Nat} (h : Rdr r w R O a f) (b n : Nat) (ts : List (List UInt8)) (hn : n = ts.length) (hl : ts.length ≤ 100) (hb : Texts w b ts) :
    Calls Tryd.prog 37 #[.pointer (some ⟨r, 0, none⟩), .slice (some ⟨b, 0, none⟩) n n] w fun e w' => e = .returned (.bool (isT R f ts)) ∧ Below w.heap.size w w' := by
  obtain ⟨ad, cap, vo, hg, hc, hlt, hR, hO⟩ := h.shape
  obtain ⟨p, R', rfl⟩ : ∃ p R', R = p :: R' := by
    cases R with
    | nil => exact absurd rfl h.some_
    | cons p R' => exact ⟨p, R', rfl⟩
  obtain ⟨z0, z1, z2, z3⟩ := first_at hR
  have y0 : w.cell? ⟨r, 0, none⟩ = some (.slice (some ad) (R'.length + 1) cap) := (cell_of_row w r 0 _ _ _ hg).trans rfl
  have y2 : w.cell? ⟨r, 2, none⟩ = some (.int .i64 f) := (cell_of_row w r 2 _ _ _ hg).trans rfl
  have HT := Lib.hid (fun W (hW : Below w.heap.size w W) => has_text W b n ts hn hl p.text ((hW.block b (blk_lt hb)).trans hb))
  have hr : r < w.heap.size := blk_lt hg
  have hal : ad.block < w.heap.size := by omega
  clear hg hO hR hb h hl hn
  have hv : isT (p :: R') f ts = (f == 0 && ((p.kind == 1 || p.kind == 4) && ts.contains p.text)) := rfl
  rw [hv]
  clear hv
  obtain ⟨bc, hbc⟩ : ∃ bc, ts.contains p.text = bc := ⟨_, rfl⟩
  rw [hbc] at HT ⊢
  obtain ⟨bf, hbf⟩ : ∃ bf, (f == 0) = bf := ⟨_, rfl⟩
  obtain ⟨b1, hb1⟩ : ∃ b1, (p.kind == 1) = b1 := ⟨_, rfl⟩
  obtain ⟨b4, hb4⟩ : ∃ b4, (p.kind == 4) = b4 := ⟨_, rfl⟩
  have fx : ((f : Int) == 0) = bf := by rw [← hbf]; apply Bool.eq_iff_iff.2; rw [beq_iff_eq, beq_iff_eq]; omega
  have f1 : ((p.kind : Int) == 1) = b1 := by rw [← hb1]; apply Bool.eq_iff_iff.2; rw [beq_iff_eq, beq_iff_eq]; omega
  have f4 : ((p.kind : Int) == 4) = b4 := by rw [← hb4]; apply Bool.eq_iff_iff.2; rw [beq_iff_eq, beq_iff_eq]; omega
  rw [hbf, hb1, hb4]
  clear hbf hb1 hb4 hbc
  obtain ⟨kk, hkk⟩ : ∃ kk, (p.kind : Int) = kk := ⟨_, rfl⟩
  obtain ⟨ff, hff⟩ : ∃ ff, (f : Int) = ff := ⟨_, rfl⟩
  rw [hkk] at z0 f1 f4
  rw [hff] at y2 fx
  clear hkk hff
  have HB := Lib.hid ((Below.refl w.heap.size w).alloc (Nat.le_refl _) (.cells ⟨[.int .i64 kk, .string (str p.text), .int .i64 p.n, .int .i64 p.pos]⟩ 32))
  cases bf <;> cases b1 <;> cases b4 <;>
  · go_enter Tryd.func37, Tryd.ntmps37
    go_wp2_with (go_at_call 50; refine (HT.out _ HB.out).mono ?_; rintro e w1 ⟨rfl, rfl⟩)
    go_ret
    exact ⟨rfl, HB.out⟩
end Go.Proofs.YtdlfdkdcnabpoaaDoor.Pa
