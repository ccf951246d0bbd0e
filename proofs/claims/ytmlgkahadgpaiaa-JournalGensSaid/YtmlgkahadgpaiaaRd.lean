/- Chapter 05: bytes read as numbers, the high one first. -/
import Derived.Test.YtmlgkahadgpaiaaProg
import Derived.Test.YtmlgkahadgpaiaaOn2
import Derived.Test.YtmlgkahadgpaiaaMem2
import Derived.Lib.Hide
namespace Go.Proofs.Ytmlgkahadgpaiaa.Fr
open Go.RowKit _root_.Go.Proofs.Ytmlgkahadgpaiaa.Own
set_option linter.unusedVariables false
set_option linter.unusedSimpArgs false
structure Rdr (g x o n c : Nat) (e : Int) (xs : List UInt8) (w : World) : Prop where
  own : w.heap[g]? = some (.cells ⟨[.int .i64 e, .slice (some ⟨x, o, none⟩) n c]⟩ 117 (0, 0))
  rd : Rd w (some ⟨x, o, none⟩) (bys xs)
  len : xs.length = n
  cap : n ≤ c
  ne : x ≠ g
theorem Rdr.cells {g x o n c : Nat} {e : Int} {xs : List UInt8} {w : World} (h : Rdr g x o n c e xs w) : w.cell? ⟨g, 0, none⟩ = some (.int .i64 e) ∧ w.cell? ⟨g, 1, none⟩ = some (.slice (some ⟨x, o, none⟩) n c) ∧ (∀ i, w.frozen? ⟨g, i, none⟩ = false) ∧ g < w.heap.size := by
  have k := fun i => cell_of_row w g i _ _ _ h.own
  exact ⟨k 0, k 1, fun i => frozen_of_row w g i _ _ h.own, blk_lt h.own⟩
theorem Rdr.below {g x o n c : Nat} {e : Int} {xs : List UInt8} {w w' : World} (h : Rdr g x o n c e xs w) (hb : Below w.heap.size w w') : Rdr g x o n c e xs w' :=
  ⟨(hb.block g (blk_lt h.own)).trans h.own, h.rd.below hb, h.len, h.cap, h.ne⟩
theorem rd_setOther {w : World} {a : Addr} {xs : List Value} (h : Rd w (some a) xs) (g i : Nat) (v : Value) (hne : a.block ≠ g) : Rd (w.setCell ⟨g, i, none⟩ v) (some a) xs := by
  intro j hj
  obtain ⟨b, hb, hc⟩ := h j hj
  cases hb
  refine ⟨a, rfl, ?_⟩
  rw [World.cell?_of_block (w := w) (Below.heap_setCell w _ _ _ (by rw [block_add]; exact hne))]
  exact hc
theorem _root_.Go.Proofs.Ytmlgkahadgpaiaa.Own.Rd.at_drop {w : World} {x o : Nat} {xs : List UInt8} (h : Rd w (some ⟨x, o, none⟩) (bys xs)) (k : Nat) : Rd w (some ⟨x, o + k, none⟩) (bys (xs.drop k)) := by
  have := h.drop k
  rw [show (bys xs).drop k = bys (xs.drop k) from by simp [bys, List.map_drop]] at this
  have ha : (⟨x, o, none⟩ : Addr).add k = ⟨x, o + k, none⟩ := by unfold Addr.add; split <;> simp_all
  simpa [ha] using this
theorem _root_.Go.Proofs.Ytmlgkahadgpaiaa.Own.Rd.at_take {w : World} {A : Option Addr} {xs : List UInt8} (h : Rd w A (bys xs)) (k : Nat) : Rd w A (bys (xs.take k)) := by
  have := h.take k
  rwa [show (bys xs).take k = bys (xs.take k) from by simp [bys, List.map_take]] at this
theorem Err_calls {g x o n c : Nat} {e : Int} {xs : List UInt8} {w : World} (h : Rdr g x o n c e xs w) : Calls Try.prog 62 #[.pointer (some ⟨g, 0, none⟩)] w fun e' w' => e' = .returned (.int .i64 e) ∧ w = w' := by
  obtain ⟨y0, y1, y2, y3⟩ := h.cells
  clear h
  go_enter Try.func62, Try.ntmps62
  go_wp2_with fail
  go_ret
  exact ⟨rfl, rfl⟩
theorem fail_calls {g x o n c : Nat} {xs : List UInt8} {w : World} (h : Rdr g x o n c 0 xs w) (E : Int) : Calls Try.prog 69 #[.pointer (some ⟨g, 0, none⟩), .int .i64 E] w fun e' w' => e' = .returned (.tuple #[]) ∧ w' = w.setCell ⟨g, 0, none⟩ (.int .i64 E) := by
  obtain ⟨y0, y1, y2, y3⟩ := h.cells
  clear h
  go_enter Try.func69, Try.ntmps69
  go_wp2_with fail
  go_end0
  exact ⟨rfl, rfl⟩
theorem Fail_calls {g x o n c : Nat} {xs : List UInt8} {w : World} (h : Rdr g x o n c 0 xs w) (E : Int) : Calls Try.prog 74 #[.pointer (some ⟨g, 0, none⟩), .int .i64 E] w fun e' w' => e' = .returned (.tuple #[]) ∧ Only [g] w w' ∧ Rdr g x o n c E xs w' := by
  have H := Lib.hid h
  clear h
  go_enter Try.func74, Try.ntmps74
  go_wp2_with fail
  refine (fail_calls H.out E).mono ?_
  rintro e w1 ⟨rfl, rfl⟩
  go_wp2_with fail
  go_end0
  refine ⟨rfl, only_setCell w g 0 _, ⟨?_, rd_setOther H.out.rd g 0 _ H.out.ne, H.out.len, H.out.cap, H.out.ne⟩⟩
  rw [heap_setCell_list H.out.own]; rfl
theorem take_calls {g x o n c : Nat} {xs : List UInt8} {w : World} (h : Rdr g x o n c 0 xs w) (k : Nat) (hk : k ≤ n) (hkc : k < c) : Calls Try.prog 75 #[.pointer (some ⟨g, 0, none⟩), .int .i64 k] w fun e' w' => e' = .returned (.slice (some ⟨x, o, none⟩) k c) ∧ Only [g] w w' ∧ Rdr g x (o + k) (n - k) (c - k) 0 (xs.drop k) w' := by
  obtain ⟨y0, y1, y2, y3⟩ := h.cells
  have H := Lib.hid h
  clear h
  have m1 : decide ((k : Int) > (n : Int)) = false := by rw [decide_eq_false_iff_not]; omega
  have m2 : decide (n < k) = false := by rw [decide_eq_false_iff_not]; omega
  have hcap := H.out.cap
  have hkc' : k ≤ c := by omega
  have hne : ¬ c = k := by omega
  go_enter Try.func75, Try.ntmps75
  go_wp2_with fail
  go_ret
  refine ⟨rfl, only_setCell w g 1 _, ⟨?_, ?_, ?_, ?_, H.out.ne⟩⟩
  · rw [heap_setCell_list H.out.own]; rfl
  · exact rd_setOther (H.out.rd.at_drop k) g 1 _ H.out.ne
  · rw [List.length_drop, H.out.len]
  · omega
/-- What bytes come to, the high one first. -/
def val (xs : List UInt8) : Nat := xs.foldl (fun a c => a * 256 + c.toNat) 0
theorem val_snoc (xs : List UInt8) (c : UInt8) : val (xs ++ [c]) = val xs * 256 + c.toNat := by simp [val]
theorem val_lt (xs : List UInt8) : val xs < 256 ^ xs.length := by
  have h : ∀ (xs : List UInt8) (a m : Nat), a < 256 ^ m → xs.foldl (fun a c => a * 256 + c.toNat) a < 256 ^ (m + xs.length) := by
    intro xs
    induction xs with
    | nil => intro a m h; simpa using h
    | cons c xs ih =>
      intro a m h
      have hc := c.toNat_lt
      have := ih (a * 256 + c.toNat) (m + 1) (by rw [Nat.pow_succ]; omega)
      simpa [Nat.add_assoc, Nat.add_comm 1] using this
  simpa [val] using h xs 0 0 (by decide)
theorem or_byte (V : Nat) (b : UInt8) (hV : V < 16777216) : bits .or .i64 (wrap64 ((V : Int) * 256)) (wrap64 (nB b)) = ((V * 256 + b.toNat : Nat) : Int) := by
  have hb := b.toNat_lt
  have e1 : wrap64 ((V : Int) * 256) = ((V * 256 : Nat) : Int) := by unfold wrap64; omega
  have e2 : wrap64 (nB b) = ((b.toNat : Nat) : Int) := by unfold wrap64 nB; omega
  rw [e1, e2]
  have h1 : (BitVec.ofInt 64 ((V * 256 : Nat) : Int)).toNat = V * 256 := by
    rw [BitVec.ofInt_natCast, BitVec.toNat_ofNat]; exact Nat.mod_eq_of_lt (by omega)
  have h2 : (BitVec.ofInt 64 ((b.toNat : Nat) : Int)).toNat = b.toNat := by
    rw [BitVec.ofInt_natCast, BitVec.toNat_ofNat]; exact Nat.mod_eq_of_lt (by omega)
  show IntKind.i64.wrap ((BitVec.ofInt 64 ((V * 256 : Nat) : Int) ||| BitVec.ofInt 64 ((b.toNat : Nat) : Int)).toNat : Int) = _
  have h3 : V * 256 ||| b.toNat = V * 256 + b.toNat := by
    have := Nat.shiftLeft_add_eq_or_of_lt (i := 8) (b := b.toNat) (by omega) V
    rw [Nat.shiftLeft_eq] at this
    exact this.symm
  rw [BitVec.toNat_or, h1, h2, h3, IntKind.wrap_i64]
  omega
set_option maxRecDepth 10000 in
set_option maxHeartbeats 1000000 in
theorem RNumErr_calls {g x o n c : Nat} {e : Int} {xs : List UInt8} {w : World} (h : Rdr g x o n c e xs w) (he : (e == 0) = false) (k m : Int) : Calls Try.prog 61 #[.pointer (some ⟨g, 0, none⟩), .int .i64 k, .int .i64 m] w fun e' w' => e' = .returned (.int .i64 0) ∧ w = w' := by
  obtain ⟨y0, y1, y2, y3⟩ := h.cells
  clear h
  go_enter Try.func61, Try.ntmps61
  go_wp2_with fail
  go_ret
  exact ⟨rfl, rfl⟩
set_option maxRecDepth 10000 in
set_option maxHeartbeats 4000000 in
theorem RNum_core {g x o n c : Nat} {xs : List UInt8} {w : World} (h : Rdr g x o n c 0 xs w) (k : Nat) (hk1 : 1 ≤ k) (hk4 : k ≤ 4) (hk : k ≤ n) (o' : Nat) (ht : Calls Try.prog 75 #[.pointer (some ⟨g, 0, none⟩), .int .i64 k] w fun e' w' => e' = .returned (.slice (some ⟨x, o, none⟩) k c) ∧ Only [g] w w' ∧ Rdr g x o' (n - k) (c - k) 0 (xs.drop k) w') (m : Nat) (res err : Int)
    (hres : (val (xs.take k) > m ∧ res = 0 ∧ err = 8) ∨ (¬ val (xs.take k) > m ∧ res = ((val (xs.take k) : Nat) : Int) ∧ err = 0)) :
    Calls Try.prog 61 #[.pointer (some ⟨g, 0, none⟩), .int .i64 k, .int .i64 m] w fun e' w' => e' = .returned (.int .i64 res) ∧ Only [g] w w' ∧ Rdr g x o' (n - k) (c - k) err (xs.drop k) w' := by
  have HS := Lib.hid hres
  clear hres
  obtain ⟨y0, y1, y2, y3⟩ := h.cells
  have HT := Lib.hid ht
  clear ht
  have HR := Lib.hid (h.rd.at_take k)
  have hlk : (xs.take k).length = k := by rw [List.length_take, h.len]; omega
  have HN := Lib.hid h.ne
  have HH := Lib.hid h
  clear h
  have m1 : decide ((k : Int) < 1) = false := by rw [decide_eq_false_iff_not]; omega
  have m2 : decide ((k : Int) > 4) = false := by rw [decide_eq_false_iff_not]; omega
  go_enter Try.func61, Try.ntmps61
  go_wp2_with fail
  refine HT.out.mono ?_
  rintro e w1 ⟨rfl, ho1, hd1⟩
  have HO := Lib.hid ho1
  have HD := Lib.hid hd1
  have hr1 : Rd w1 (some ⟨x, o, none⟩) (bys (xs.take k)) := by
    intro j hj
    obtain ⟨a, ha, hcell⟩ := HR.out j hj
    cases ha
    exact ⟨_, rfl, (World.cell?_of_block (w := w) (HO.out.keep _ (World.block_lt_of_cell? w _ hcell) (by rw [block_add]; simp; exact HN.out))).trans hcell⟩
  have HR1 := Lib.hid hr1
  clear HT HR ho1 hd1 hr1 y0 y1 y2 y3
  go_wp2_with fail
  obtain ⟨z0, z1, z2, z3⟩ := HD.out.cells
  go_loopw [7, 32] (fun v7 v32 wr => ∃ j : Nat, j ≤ k ∧ v32 = .int .i64 j ∧ v7 = .int .i64 ((val ((xs.take k).take j) : Nat) : Int) ∧ wr = w1) (fun _ v32 _ => k - (intOf v32).toNat)
  case atStart => exact ⟨0, Nat.zero_le _, rfl, rfl, rfl⟩
  case round =>
    obtain ⟨j, hj, rfl, rfl, rfl⟩ := hrel
    by_cases hlt : j < k
    · have hd : decide ((j : Int) < (k : Int)) = true := by rw [decide_eq_true_eq]; omega
      obtain ⟨a, ha, hcell⟩ := HR1.out.byte (k := j) (by rw [hlk]; exact hlt)
      cases ha
      have hadd : (⟨x, o, none⟩ : Addr).add j = ⟨x, o + j, none⟩ := by unfold Addr.add; split <;> simp_all
      rw [hadd] at hcell
      obtain ⟨b, hb⟩ : ∃ b, (xs.take k)[j]'(by rw [hlk]; exact hlt) = b := ⟨_, rfl⟩
      rw [hb] at hcell
      obtain ⟨V, hV⟩ : ∃ V, val ((xs.take k).take j) = V := ⟨_, rfl⟩
      rw [hV]
      have hVb : V < 16777216 := by
        rw [← hV]
        refine Nat.lt_of_lt_of_le (val_lt _) ?_
        rw [List.length_take, hlk]
        have : min j k ≤ 3 := by omega
        exact Nat.pow_le_pow_right (by decide) this
      have hor := or_byte V b hVb
      have hor2 : bits .or .i64 ((V : Int) * 256) (wrap64 (nB b)) = ((V * 256 + b.toNat : Nat) : Int) := by rw [← hor]; congr 1; unfold wrap64; omega
      have hnext : val ((xs.take k).take (j + 1)) = V * 256 + b.toNat := by
        rw [List.take_add_one, ← hV, List.getElem?_eq_getElem (by rw [hlk]; exact hlt), hb]
        exact val_snoc _ _
      have HNx := Lib.hid hnext
      clear hnext hV hb
      go_wp2_with fail
      go_roundw
      case rel => exact ⟨j + 1, by omega, by simp, by rw [HNx.out]; simp, trivial⟩
      case measure => simp [intOf]; omega
    · have hd : decide ((j : Int) < (k : Int)) = false := by rw [decide_eq_false_iff_not]; omega
      obtain rfl : j = k := by omega
      rw [List.take_of_length_le (Nat.le_of_eq hlk)]
      obtain ⟨V, hV⟩ : ∃ V, val (xs.take j) = V := ⟨_, rfl⟩
      rw [hV] at HS ⊢
      rcases HS.out with ⟨hm, rfl, rfl⟩ | ⟨hm, rfl, rfl⟩
      · have hd2 : decide (m < V) = true := decide_eq_true hm
        have hd3 : decide ((V : Int) > (m : Int)) = true := by rw [decide_eq_true_eq]; omega
        go_wp2_with fail
        refine (Fail_calls HD.out 8).mono ?_
        rintro e w2 ⟨rfl, ho2, hi2⟩
        have HI2 := Lib.hid hi2
        have HO2 := Lib.hid (HO.out.trans ho2)
        obtain ⟨t0, t1, t2, t3⟩ := hi2.cells
        clear ho2 hi2 z0 z1 z2 z3
        go_wp2_with fail
        go_ret
        exact ⟨rfl, HO2.out, HI2.out⟩
      · have hd2 : decide (m < V) = false := decide_eq_false hm
        have hd3 : decide ((V : Int) > (m : Int)) = false := by rw [decide_eq_false_iff_not]; omega
        go_wp2_with fail
        go_ret
        exact ⟨rfl, HO.out, HD.out⟩
theorem RNum_gen {g x o n c : Nat} {xs : List UInt8} {w : World} (h : Rdr g x o n c 0 xs w) (k : Nat) (hk1 : 1 ≤ k) (hk4 : k ≤ 4) (hk : k ≤ n) (hkc : k < c) (m : Nat) (res err : Int)
    (hres : (val (xs.take k) > m ∧ res = 0 ∧ err = 8) ∨ (¬ val (xs.take k) > m ∧ res = ((val (xs.take k) : Nat) : Int) ∧ err = 0)) :
    Calls Try.prog 61 #[.pointer (some ⟨g, 0, none⟩), .int .i64 k, .int .i64 m] w fun e' w' => e' = .returned (.int .i64 res) ∧ Only [g] w w' ∧ Rdr g x (o + k) (n - k) (c - k) err (xs.drop k) w' :=
  RNum_core h k hk1 hk4 hk (o + k) (take_calls h k hk hkc) m res err hres
/-- The last bytes are taken: the address stays. -/
theorem take_last {g x o n : Nat} {xs : List UInt8} {w : World} (h : Rdr g x o n n 0 xs w) : Calls Try.prog 75 #[.pointer (some ⟨g, 0, none⟩), .int .i64 n] w fun e' w' => e' = .returned (.slice (some ⟨x, o, none⟩) n n) ∧ Only [g] w w' ∧ Rdr g x o (n - n) (n - n) 0 (xs.drop n) w' := by
  obtain ⟨y0, y1, y2, y3⟩ := h.cells
  have H := Lib.hid h
  clear h
  have m1 : decide ((n : Int) > (n : Int)) = false := by rw [decide_eq_false_iff_not]; omega
  have m2 : decide (n < n) = false := by rw [decide_eq_false_iff_not]; omega
  go_enter Try.func75, Try.ntmps75
  go_wp2_with fail
  go_ret
  have hd : xs.drop n = [] := List.drop_of_length_le (by rw [H.out.len]; exact Nat.le_refl _)
  refine ⟨rfl, only_setCell w g 1 _, ⟨?_, ?_, ?_, ?_, H.out.ne⟩⟩
  · rw [heap_setCell_list H.out.own]; simp
  · rw [hd]; exact Rd.nil _ _
  · rw [hd, Nat.sub_self]; rfl
  · omega
theorem RNumLast_calls {g x o n : Nat} {xs : List UInt8} {w : World} (h : Rdr g x o n n 0 xs w) (h1 : 1 ≤ n) (h4 : n ≤ 4) (m : Nat) (hm : val (xs.take n) ≤ m) :
    Calls Try.prog 61 #[.pointer (some ⟨g, 0, none⟩), .int .i64 n, .int .i64 m] w fun e' w' => e' = .returned (.int .i64 ((val (xs.take n) : Nat) : Int)) ∧ Only [g] w w' ∧ Rdr g x o (n - n) (n - n) 0 (xs.drop n) w' :=
  RNum_core h n h1 h4 (Nat.le_refl _) o (take_last h) m _ _ (.inr ⟨by omega, rfl, rfl⟩)
theorem RNum_calls {g x o n c : Nat} {xs : List UInt8} {w : World} (h : Rdr g x o n c 0 xs w) (k : Nat) (hk1 : 1 ≤ k) (hk4 : k ≤ 4) (hk : k ≤ n) (hkc : k < c) (m : Nat) (hm : val (xs.take k) ≤ m) :
    Calls Try.prog 61 #[.pointer (some ⟨g, 0, none⟩), .int .i64 k, .int .i64 m] w fun e' w' => e' = .returned (.int .i64 ((val (xs.take k) : Nat) : Int)) ∧ Only [g] w w' ∧ Rdr g x (o + k) (n - k) (c - k) 0 (xs.drop k) w' :=
  RNum_gen h k hk1 hk4 hk hkc m _ _ (.inr ⟨by omega, rfl, rfl⟩)
theorem RNumBig_calls {g x o n c : Nat} {xs : List UInt8} {w : World} (h : Rdr g x o n c 0 xs w) (k : Nat) (hk1 : 1 ≤ k) (hk4 : k ≤ 4) (hk : k ≤ n) (hkc : k < c) (m : Nat) (hm : val (xs.take k) > m) :
    Calls Try.prog 61 #[.pointer (some ⟨g, 0, none⟩), .int .i64 k, .int .i64 m] w fun e' w' => e' = .returned (.int .i64 0) ∧ Only [g] w w' ∧ Rdr g x (o + k) (n - k) (c - k) 8 (xs.drop k) w' :=
  RNum_gen h k hk1 hk4 hk hkc m _ _ (.inl ⟨hm, rfl, rfl⟩)
theorem New_calls (x o n c : Nat) (xs : List UInt8) (hl : xs.length = n) (hc : n ≤ c) (w : World) (hR : Rd w (some ⟨x, o, none⟩) (bys xs)) (hx : x < w.heap.size) : Calls Try.prog 60 #[.slice (some ⟨x, o, none⟩) n c] w fun e' w' => e' = .returned (.pointer (some ⟨w.heap.size, 0, none⟩)) ∧ Rdr w.heap.size x o n c 0 xs w' ∧ Below w.heap.size w w' := by
  have HR := Lib.hid hR
  clear hR
  go_enter Try.func60, Try.ntmps60
  go_wp2_with fail
  go_ret
  exact ⟨rfl, ⟨heap_alloc_new w _, HR.out.alloc _, hl, hc, Nat.ne_of_lt hx⟩, (Below.refl _ _).alloc (Nat.le_refl _) _⟩
end Go.Proofs.Ytmlgkahadgpaiaa.Fr
