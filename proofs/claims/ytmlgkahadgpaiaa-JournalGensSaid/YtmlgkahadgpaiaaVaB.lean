/- Chapter 10: Save. -/
import Derived.Test.YtmlgkahadgpaiaaVaA
import Derived.Test.YtmlgkahadgpaiaaFrX
import Derived.Deep.DeepCutAuto
import Derived.Test.YtmlgkahadgpaiaaDkX
import Derived.Test.YtmlgkahadgpaiaaDkN
namespace Go.Proofs.Ytmlgkahadgpaiaa.Va
open Go.RowKit _root_.Go.Proofs.Ytmlgkahadgpaiaa.Own
open Go.Proofs.Ytmlgkahadgpaiaa.Fr
open Go.Proofs.Ytmlgkahadgpaiaa.Dk (D Is D0 torn putRow rowB wst DOk made_all wpList_make_at)
set_option linter.unusedVariables false
set_option linter.unusedSimpArgs false
theorem infoU8 : ∃ i : TypeInfo, Try.prog.info? 5 = some i ∧ i.size = 1 ∧ i.bytes = 1 ∧ i.zero = some (.int .u8 0) := by
  have h : (Try.prog.info? 5).map (fun i => (i.zero, i.size, i.bytes)) = some (some (.int .u8 0), 1, 1) := by kernel_rfl
  obtain ⟨i, hi, hq⟩ := Option.map_eq_some_iff.1 h
  simp only [Prod.mk.injEq] at hq
  exact ⟨i, hi, hq.2.1, hq.2.2, hq.1⟩
/-- The vault's own cells. -/
def VIs (v g from_ : Nat) (w : World) : Prop := w.heap[v]? = some (.cells ⟨[.pointer (some ⟨g, 0, none⟩), .int .i64 from_]⟩ 39 (0, 0))
theorem VIs.cells {v g f : Nat} {w : World} (h : VIs v g f w) : w.cell? ⟨v, 0, none⟩ = some (.pointer (some ⟨g, 0, none⟩)) ∧ w.cell? ⟨v, 1, none⟩ = some (.int .i64 f) := by
  have k := fun i => cell_of_row w v i _ _ _ h
  exact ⟨k 0, k 1⟩
theorem VIs.below {v g f : Nat} {w w' : World} (h : VIs v g f w) (hb : Below w.heap.size w w') : VIs v g f w' := (hb.block v (blk_lt h)).trans h
theorem ok_calls {v g f : Nat} {w : World} (h : VIs v g f w) : Calls Try.prog 40 #[.pointer (some ⟨v, 0, none⟩)] w fun e w' => e = .returned (.bool true) ∧ w = w' := by
  obtain ⟨y0, y1⟩ := h.cells
  go_enter Try.func40, Try.ntmps40
  go_wp2_with fail
  go_ret
  exact ⟨rfl, rfl⟩
def areaN (f gen : Nat) : Nat := f + gen % 2 * 256
theorem area_calls {v g f : Nat} {w : World} (h : VIs v g f w) (gen : Nat) (hf : f ≤ 1000) : Calls Try.prog 42 #[.pointer (some ⟨v, 0, none⟩), .int .i64 gen] w fun e w' => e = .returned (.int .i64 (areaN f gen)) ∧ w = w' := by
  obtain ⟨y0, y1⟩ := h.cells
  have f1 : ((gen : Int)).tmod 2 = ((gen % 2 : Nat) : Int) := by rw [Int.tmod_eq_emod_of_nonneg (by omega)]; omega
  obtain ⟨m, hm⟩ : ∃ m, gen % 2 = m := ⟨_, rfl⟩
  have hm2 : m < 2 := by omega
  rw [hm] at f1
  have f2 : IntKind.i64.wrap ((m : Int) * 256) = (m : Int) * 256 := by rw [IntKind.wrap_i64]; omega
  have f3 : IntKind.i64.wrap ((f : Int) + (m : Int) * 256) = ((areaN f gen : Nat) : Int) := by rw [IntKind.wrap_i64]; unfold areaN; rw [hm]; omega
  go_enter Try.func42, Try.ntmps42
  go_wp2_with fail
  go_ret
  exact ⟨rfl, rfl⟩
/-- A block of contents, filled up. -/
def chunk (b : List UInt8) (i : Nat) : List UInt8 := (b.drop (i * 128)).take 128 ++ List.replicate (128 - ((b.drop (i * 128)).take 128).length) 0
theorem chunk_length (b : List UInt8) (i : Nat) : (chunk b i).length = 128 := by
  unfold chunk
  rw [List.length_append, List.length_replicate]
  have : ((b.drop (i * 128)).take 128).length ≤ 128 := by rw [List.length_take]; omega
  omega
/-- The first k blocks written, one behind the other, as long as none fails. -/
def saveN (d : D) (at_ : Nat) (b : List UInt8) : Nat → Int × D
  | 0 => (0, d)
  | k + 1 => if (saveN d at_ b k).1 = 0 then wst (saveN d at_ b k).2 (at_ + 1 + k) (chunk b k) else saveN d at_ b k
def saveD (d : D) (f gen : Nat) (b : List UInt8) : Int × D :=
  if (saveN d (areaN f gen) b (blkN b.length)).1 = 0 then wst (saveN d (areaN f gen) b (blkN b.length)).2 (areaN f gen) (headF gen b) else saveN d (areaN f gen) b (blkN b.length)
theorem headF_length (gen : Nat) (b : List UInt8) : (headF gen b).length = 128 := by
  unfold headF blockF sealF
  rw [List.length_append, List.length_append, bodyF_length _ _ _ _ (by rw [headP_length]; decide)]; rfl
theorem saveN_stuck {d : D} {at_ : Nat} {b : List UInt8} {k : Nat} (h : ¬ (saveN d at_ b k).1 = 0) (m : Nat) : saveN d at_ b (k + m) = saveN d at_ b k := by
  induction m with
  | zero => rfl
  | succ m ih =>
    show (if (saveN d at_ b (k + m)).1 = 0 then _ else _) = _
    rw [ih, if_neg h]
    exact ih
theorem saveN_ok {d : D} {k : Nat} (h : DOk d k) (at_ : Nat) (b : List UInt8) (m : Nat) : DOk (saveN d at_ b m).2 (k + m) := by
  induction m with
  | zero => exact h
  | succ m ih =>
    unfold saveN
    split
    · exact ih.wst _ _
    · exact ih.mono (by omega)
/-- Beside the disk nothing elder has turned. -/
structure VS (w0 : World) (v g r n f : Nat) (d : D) (w : World) : Prop where
  only : Only [g, r] w0 w
  is : Is g r n n [] d w
  vis : VIs v g f w
  old : g < w0.heap.size ∧ r < w0.heap.size ∧ v < w0.heap.size
theorem VS.call {w0 : World} {v g r n f : Nat} {d : D} {w w' : World} (p : VS w0 v g r n f d w) (hb : Below w.heap.size w w') : VS w0 v g r n f d w' :=
  ⟨p.only.trans (Only.of_below hb), ⟨(hb.block g (blk_lt p.is.own)).trans p.is.own, (hb.block r (blk_lt p.is.row)).trans p.is.row, p.is.len⟩, p.vis.below hb, p.old⟩
theorem VS.ne {w0 : World} {v g r n f : Nat} {d : D} {w : World} (p : VS w0 v g r n f d w) : v ≠ g ∧ v ≠ r := by
  refine ⟨?_, ?_⟩ <;> intro e <;> subst e
  · have := p.vis.symm.trans p.is.own; simp at this
  · have := p.vis.symm.trans p.is.row; simp at this
theorem VS.turn {w0 : World} {v g r n f : Nat} {d d' : D} {w w' : World} (p : VS w0 v g r n f d w) (ho : Only [g, r] w w') (hi : Is g r n n [] d' w') : VS w0 v g r n f d' w' :=
  ⟨p.only.trans ho, hi, (ho.keep v (blk_lt p.vis) (by simp; exact p.ne)).trans p.vis, p.old⟩
/-- A block that is new to the caller turns. -/
theorem VS.fresh {w0 : World} {v g r n f : Nat} {d : D} {w w' : World} (p : VS w0 v g r n f d w) {k : Nat} (ho : Only [k] w w') (hk : w0.heap.size ≤ k) : VS w0 v g r n f d w' := by
  have hs := p.only.size
  have q := fun z (h : z < w0.heap.size) => ho.keep z (Nat.lt_of_lt_of_le h hs) (by simp; omega)
  refine ⟨⟨ho.os.trans p.only.os, ho.tape.trans p.only.tape, ho.output.trans p.only.output, Nat.le_trans hs ho.size, fun z hz hn => (q z hz).trans (p.only.keep z hz hn)⟩, ⟨(q g p.old.1).trans p.is.own, (q r p.old.2.1).trans p.is.row, p.is.len⟩, (q v p.old.2.2).trans p.vis, p.old⟩
theorem chunk_cells (b : List UInt8) (i : Nat) : (((⟨bys (List.replicate 128 0)⟩ : Array Value).toList.take 0) ++ (bys ((b.drop (i * 128)).take 128) ++ (⟨bys (List.replicate 128 0)⟩ : Array Value).toList.drop (0 + (bys ((b.drop (i * 128)).take 128)).length))).toArray = ⟨bys (chunk b i)⟩ := by
  unfold chunk
  rw [List.take_zero, List.nil_append, Nat.zero_add, bys_append, bys_length]
  have h : ∀ m, (bys (List.replicate 128 (0 : UInt8))).drop m = bys (List.replicate (128 - m) 0) := by intro m; unfold bys; rw [← List.map_drop, List.drop_replicate]
  show (⟨_ ++ (bys (List.replicate 128 (0 : UInt8))).drop _⟩ : Array Value) = _
  rw [h]
theorem rd_row {w : World} {k : Nat} {xs : List UInt8} {t : TypeId} {fr : Nat × Nat} (h : w.heap[k]? = some (.cells ⟨bys xs⟩ t fr)) : Rd w (some ⟨k, 0, none⟩) (bys xs) := by
  intro i hi
  refine ⟨_, rfl, ?_⟩
  rw [show (⟨k, 0, none⟩ : Addr).add i = ⟨k, i, none⟩ from by unfold Addr.add; split <;> simp_all, cell_of_row w k i _ _ _ h]
  simp [hi]
theorem rd_keep {bs : List Nat} {w w' : World} {A : Option Addr} {xs : List Value} (h : Rd w A xs) (ho : Only bs w w') (hg : ∀ a, A = some a → a.block ∉ bs) : Rd w' A xs := by
  intro i hi
  obtain ⟨a, ha, hc⟩ := h i hi
  refine ⟨a, ha, (World.cell?_of_block (w := w) (ho.keep _ (World.block_lt_of_cell? w _ hc) ?_)).trans hc⟩
  rw [block_add]; exact hg a ha
set_option maxRecDepth 10000 in
set_option maxHeartbeats 4000000 in
theorem Save_calls {w0 : World} {v g r n f : Nat} {d : D} {w : World} (p : VS w0 v g r n f d w) {k : Nat} (hk : DOk d k) (hk1 : k ≤ 500000) (hf : f + 512 ≤ n) (hn : n ≤ 1024) (gen : Nat) (hg : gen ≤ 2147483647) (A : Option Addr) (l c : Nat) (b : List UInt8) (hl : l = b.length) (hb : l ≤ 32640) (hlc : l ≤ c) (hA : A = none → c = 0) (hR : Rd w A (bys b)) (hAg : 0 < l → ∀ a, A = some a → a.block ≠ g ∧ a.block ≠ r) :
    Calls Try.prog 13 #[.pointer (some ⟨v, 0, none⟩), .int .i64 gen, .slice A l c] w fun e w' => e = .returned (.int .i64 (saveD d f gen b).1) ∧ VS w0 v g r n f (saveD d f gen b).2 w' := by
  have m1 : decide ((gen : Int) < 0) = false := by rw [decide_eq_false_iff_not]; omega
  have m2 : decide ((gen : Int) > 2147483647) = false := by rw [decide_eq_false_iff_not]; omega
  have hbk : blkN l ≤ 255 := by unfold blkN; omega
  have m3 : decide (((blkN l : Nat) : Int) > 255) = false := by rw [decide_eq_false_iff_not]; omega
  have m4 : decide (255 < blkN l) = false := by rw [decide_eq_false_iff_not]; omega
  have HP := Lib.hid p
  have HR := Lib.hid hR
  have HL := Lib.hid hl
  have Hg := Lib.hid hg
  have har : areaN f gen + 256 ≤ n := by unfold areaN; omega
  obtain ⟨y0, y1⟩ := p.vis.cells
  clear p hR hl hg
  go_enter Try.func13, Try.ntmps13
  go_wp2_with fail
  refine (ok_calls HP.out.vis).mono ?_
  rintro e w1 ⟨rfl, rfl⟩
  go_wp2_with fail
  refine (Blocks_calls l (by omega) w).mono ?_
  rintro e w1 ⟨rfl, rfl⟩
  go_wp2_with fail
  refine (head_calls gen Hg.out A l c b HL.out hb hA w HR.out).mono ?_
  rintro e w1 ⟨vh, rfl, hvh, hb1⟩
  obtain ⟨gh, ch, rfl, hch, -, hgb, -, hrh⟩ := Fr.Has.row hvh 127 (headF_length gen b)
  have HP1 := Lib.hid (HP.out.call hb1)
  have HR1 := Lib.hid (HR.out.below hb1)
  have HH1 := Lib.hid hrh
  have hgne : gh ≠ g ∧ gh ≠ r := by have q1 := blk_lt HP.out.is.own; have q2 := blk_lt HP.out.is.row; omega
  obtain ⟨z0, z1⟩ := HP1.out.vis.cells
  clear hvh hb1 hrh hgb y0 y1
  go_wp2_with fail
  refine (area_calls HP1.out.vis gen (by omega)).mono ?_
  rintro e w2 ⟨rfl, rfl⟩
  go_wp2_with fail
  refine (Blocks_calls l (by omega) _).mono ?_
  rintro e w2 ⟨rfl, rfl⟩
  go_wp2_with fail
  obtain ⟨ti, i1, i2, i3, i4⟩ := infoU8
  have hxs : madeCells (Value.int .u8 0).cells (128 * ti.size) = ⟨bys (List.replicate 128 0)⟩ := by
    rw [i2, Nat.mul_one]
    refine (made_all (.int .u8 0) 1 128 (by decide)).trans ?_
    simp [bys, nB]
  obtain ⟨Z, hZ⟩ : ∃ Z, bys (List.replicate 128 (0 : UInt8)) = Z := ⟨_, rfl⟩
  have hck := chunk_cells b
  have hZl : Z.length = 128 := by rw [← hZ, bys_length, List.length_replicate]
  rw [hZ] at hxs hck
  have HXS := Lib.hid hxs
  have HCK := Lib.hid hck
  have HZl := Lib.hid hZl
  have mk := fun W : World => run_make (P := Try.prog) (w := W) 23 5 ti (.int .u8 0) Try.underlying23 i1 i4 .i64 .i64 128 128 (by decide) (by decide) (by rw [i3]; decide) (by decide)
  rw [show (128 : Int).toNat = 128 from rfl, HXS.out] at mk
  clear hxs hck hZl hZ i1 i2 i3 i4 z0 z1 HXS
  obtain ⟨at_, hat⟩ : ∃ at_, areaN f gen = at_ := ⟨_, rfl⟩
  rw [hat] at har ⊢
  have HAT := Lib.hid hat
  have HS0 := Lib.hid (show (saveN d at_ b 0).1 = 0 from rfl)
  clear hat
  go_loopw [44] (fun v44 wr => ∃ j : Nat, j ≤ blkN l ∧ v44 = .int .i64 j ∧ Hid ((saveN d at_ b j).1 = 0) ∧ Hid (VS w0 v g r n f (saveN d at_ b j).2 wr) ∧ Hid (Rd wr A (bys b)) ∧ Hid (Rd wr (some ⟨gh, 0, none⟩) (bys (headF gen b)))) (fun v44 _ => blkN l - (intOf v44).toNat)
  case atStart => exact ⟨0, Nat.zero_le _, rfl, HS0, HP1, HR1, HH1⟩
  case round =>
    clear HP HP1 HR HR1 HH1 HS0
    obtain ⟨j, hj, rfl, HS, HP, HR, HH⟩ := hrel
    by_cases hlt : j < blkN l
    · have hd : decide ((j : Int) < ((blkN l : Nat) : Int)) = true := by rw [decide_eq_true_eq]; omega
      have hd2 : decide (j < blkN l) = true := by rw [decide_eq_true_eq]; omega
      have hjl : j * 128 < l := by unfold blkN at hlt; omega
      obtain ⟨a, rfl⟩ : ∃ a, A = some a := by
        cases A with
        | none => have := hA rfl; omega
        | some a => exact ⟨a, rfl⟩
      have f1 : IntKind.i64.wrap ((j : Int) * 128) = (j : Int) * 128 := by rw [IntKind.wrap_i64]; omega
      have f2 : ((j : Int) * 128).toNat = j * 128 := by omega
      have f3 : 0 ≤ (j : Int) * 128 ∧ (j : Int) * 128 ≤ (l : Int) := by omega
      have f4 : (j : Int) * 128 ≤ (l : Int) := f3.2
      have f5 : ¬ c = j * 128 := by omega
      have f6 : 0 ≤ (j : Int) * 128 := f3.1
      have hcsl : (bys ((b.drop (j * 128)).take 128)).length = Nat.min (l - j * 128) 128 := by
        rw [bys_length, List.length_take, List.length_drop, HL.out, Nat.min_comm]
      have hsrc : ∀ i u, (bys ((b.drop (j * 128)).take 128))[i]? = some u → (wr.alloc (.cells ⟨Z⟩ 5 (0, 0))).cell? ((a.add (j * 128)).add i) = some u := by
        intro i u hu
        have h1 := ((HR.out.drop (j * 128)).take 128).alloc (.cells ⟨Z⟩ 5 (0, 0))
        rw [show ((bys b).drop (j * 128)).take 128 = bys ((b.drop (j * 128)).take 128) from by simp [bys, List.map_drop, List.map_take]] at h1
        obtain ⟨hi, rfl⟩ := List.getElem?_eq_some_iff.1 hu
        obtain ⟨b', hb', hc'⟩ := h1 i hi
        cases hb'
        exact hc'
      have HCS := Lib.hid hcsl
      have HSR := Lib.hid hsrc
      clear hcsl hsrc
      have hsz1 : (Try.prog.info? 5).map (·.size) = some 1 := by kernel_rfl
      have hro := only_setRow (wr.alloc (.cells ⟨Z⟩ 5 (0, 0))) wr.heap.size ⟨bys (chunk b j)⟩
      have hrw := setRow_heap (wr.alloc (.cells ⟨Z⟩ 5 (0, 0))) wr.heap.size _ ⟨bys (chunk b j)⟩ 5 (0, 0) (heap_alloc_new wr _)
      have ba := (Below.refl wr.heap.size wr).alloc (Nat.le_refl _) (.cells ⟨Z⟩ 5 (0, 0))
      have hsz0 := HP.out.only.size
      have HP5 := Lib.hid ((HP.out.call ba).fresh hro hsz0)
      have hnew : ∀ (A : Option Addr) xs, Rd wr A xs → Rd (World.setRow (wr.alloc (.cells ⟨Z⟩ 5 (0, 0))) wr.heap.size ⟨bys (chunk b j)⟩) A xs := by
        intro A' xs h i hi
        obtain ⟨a', ha, hc⟩ := h i hi
        have hb := World.block_lt_of_cell? wr _ hc
        have h2 := (ba.cell hb).trans hc
        exact ⟨a', ha, (World.cell?_of_block (w := wr.alloc (.cells ⟨Z⟩ 5 (0, 0))) (hro.keep _ (World.block_lt_of_cell? _ _ h2) (by simp; omega))).trans h2⟩
      have HR5 := Lib.hid (hnew _ _ HR.out)
      have HH5 := Lib.hid (hnew _ _ HH.out)
      have HC5 := Lib.hid (rd_row hrw)
      have hwne : wr.heap.size ≠ g := by have := HP.out.old; omega
      clear hro hrw ba hnew HR HH
      obtain ⟨w5, hw5⟩ : ∃ w5, World.setRow (wr.alloc (.cells ⟨Z⟩ 5 (0, 0))) wr.heap.size ⟨bys (chunk b j)⟩ = w5 := ⟨_, rfl⟩
      rw [hw5] at HP5 HR5 HH5 HC5
      have HW5 := Lib.hid hw5
      clear hw5
      obtain ⟨z0, z1⟩ := HP5.out.vis.cells
      have g1 : IntKind.i64.wrap ((at_ : Int) + 1) = (at_ : Int) + 1 := by rw [IntKind.wrap_i64]; omega
      have g2 : IntKind.i64.wrap ((at_ : Int) + 1 + (j : Int)) = ((at_ + 1 + j : Nat) : Int) := by rw [IntKind.wrap_i64]; omega
      have hfit : 0 + (bys ((b.drop (j * 128)).take 128)).length ≤ (Array.mk Z).size := by
        have h1 := HCS.out
        have h3 : (Array.mk Z).size = 128 := HZl.out
        rw [h3, h1, Nat.zero_add]
        exact Nat.min_le_right _ _
      have HF := Lib.hid hfit
      clear hfit
      go_wp2_with (refine wpList_copy_own rfl _ _ 23 23 rfl 5 Try.underlying23 hsz1 wr.heap.size 0 128 128 (a.add (j * 128)) (l - j * 128) (c - j * 128) rfl rfl ⟨Z⟩ 5 (heap_alloc_new wr _) (bys ((b.drop (j * 128)).take 128)) HCS.out HSR.out HF.out (bys_one _) ?_; rw [HCK.out j, HW5.out])
      have hDk := saveN_ok hk at_ b j
      have hW := Dk.Write_fun HP5.out.is hDk (by omega) (at_ + 1 + j) (by omega) (Nat.le_refl n) ⟨wr.heap.size, 0, none⟩ 128 (chunk b j) (chunk_length b j) (Nat.le_refl _) HC5.out hwne
      have hnext : saveN d at_ b (j + 1) = wst (saveN d at_ b j).2 (at_ + 1 + j) (chunk b j) := by
        show (if (saveN d at_ b j).1 = 0 then _ else _) = _
        rw [if_pos HS.out]
      rw [← hnext] at hW
      refine hW.mono ?_
      rintro e w6 ⟨rfl, ho6, hi6⟩
      have HP6 := Lib.hid (HP5.out.turn ho6 hi6)
      have HR6 := Lib.hid (rd_keep HR5.out ho6 (by intro a' ha; simp; exact hAg (by omega) a' ha))
      have HH6 := Lib.hid (rd_keep HH5.out ho6 (by intro a' ha; cases ha; simp; exact hgne))
      clear hW ho6 hi6 hDk HR5 HH5 HC5 z0 z1
      by_cases hE : (saveN d at_ b (j + 1)).1 = 0
      · have HE := Lib.hid hE
        rw [hE]
        clear hE hnext
        have g9 : IntKind.i64.wrap ((j : Int) + 1) = ((j + 1 : Nat) : Int) := by rw [IntKind.wrap_i64]; omega
        go_wp2_with fail
        go_roundw
        case rel => exact ⟨j + 1, by omega, by simp, HE, HP6, HR6, HH6⟩
        case measure => simp [intOf]; omega
      · have hst := saveN_stuck hE (blkN l - (j + 1))
        rw [show j + 1 + (blkN l - (j + 1)) = blkN l by omega] at hst
        have hsd : saveD d f gen b = saveN d at_ b (j + 1) := by
          unfold saveD
          rw [HAT.out, ← HL.out, hst, if_neg hE]
        have HSD := Lib.hid hsd
        obtain ⟨E, hEq⟩ : ∃ E, (saveN d at_ b (j + 1)).1 = E := ⟨_, rfl⟩
        rw [hEq] at hE ⊢
        have HEq := Lib.hid hEq
        have hE2 : (E == 0) = false := beq_eq_false_iff_ne.2 hE
        clear hst hsd hEq hnext
        go_wp2_with fail
        go_ret
        rw [HSD.out, HEq.out]
        exact ⟨rfl, HP6.out⟩
    · have hd : decide ((j : Int) < ((blkN l : Nat) : Int)) = false := by rw [decide_eq_false_iff_not]; omega
      have hd2 : decide (j < blkN l) = false := by rw [decide_eq_false_iff_not]; omega
      obtain rfl : j = blkN l := by omega
      obtain ⟨z0, z1⟩ := HP.out.vis.cells
      go_wp2_with fail
      have hDk := saveN_ok hk at_ b (blkN l)
      have hsd : saveD d f gen b = wst (saveN d at_ b (blkN l)).2 at_ (headF gen b) := by
        unfold saveD
        rw [HAT.out, ← HL.out, if_pos HS.out]
      have hW := Dk.Write_fun HP.out.is hDk (by omega) at_ (by omega) (Nat.le_refl n) ⟨gh, 0, none⟩ ch (headF gen b) (headF_length gen b) hch HH.out hgne.1
      rw [← hsd] at hW
      refine hW.mono ?_
      rintro e w6 ⟨rfl, ho6, hi6⟩
      have HP6 := Lib.hid (HP.out.turn ho6 hi6)
      obtain ⟨E, hEq⟩ : ∃ E, (saveD d f gen b).1 = E := ⟨_, rfl⟩
      rw [hEq]
      have HEq := Lib.hid hEq
      clear hW ho6 hi6 hDk hsd hEq
      go_wp2_with fail
      go_ret
      first | exact ⟨rfl, HP6.out⟩ | (rw [HEq.out]; exact ⟨rfl, HP6.out⟩)
end Go.Proofs.Ytmlgkahadgpaiaa.Va
