/- Chapter 10, plain: what is saved, and what is loaded (no program in sight). -/
import Derived.Test.YtmlgkahadgpaiaaVaE
namespace Go.Proofs.Ytmlgkahadgpaiaa.Va
open Go.RowKit _root_.Go.Proofs.Ytmlgkahadgpaiaa.Own
open Go.Proofs.Ytmlgkahadgpaiaa.Fr
open Go.Proofs.Ytmlgkahadgpaiaa.Dk (D Is D0 torn putRow rowB wst DOk rowB_length)
set_option linter.unusedVariables false
set_option linter.unusedSimpArgs false
theorem putRow_get (all x : List UInt8) (n i p : Nat) (hl : all.length = n * 128) (hi : i < n) (hx : x.length = 128) : (putRow all i x)[p]? = if p < i * 128 then all[p]? else if p < i * 128 + 128 then x[p - i * 128]? else all[p]? := by
  unfold putRow
  have e1 : (all.take (i * 128)).length = i * 128 := by rw [List.length_take]; omega
  rw [List.getElem?_append, List.length_append, e1, hx]
  by_cases h1 : p < i * 128
  · rw [if_pos (by omega), List.getElem?_append, e1, if_pos h1, if_pos h1, List.getElem?_take, if_pos h1]
  · rw [if_neg h1]
    by_cases h2 : p < i * 128 + 128
    · rw [if_pos h2, if_pos h2, List.getElem?_append, e1, if_neg h1]
    · rw [if_neg h2, if_neg h2, List.getElem?_drop, show i * 128 + 128 + (p - (i * 128 + 128)) = p by omega]
theorem rowB_get (all : List UInt8) (j q : Nat) : (rowB all j)[q]? = if q < 128 then all[j * 128 + q]? else none := by
  unfold Dk.rowB
  rw [List.getElem?_take]
  split
  · rw [List.getElem?_drop]
  · rfl
theorem rowB_put (all x : List UInt8) (n i j : Nat) (hl : all.length = n * 128) (hi : i < n) (hj : j < n) (hx : x.length = 128) : rowB (putRow all i x) j = if j = i then x else rowB all j := by
  apply List.ext_getElem?
  intro q
  rw [rowB_get]
  by_cases h1 : q < 128
  · rw [if_pos h1, putRow_get all x n i _ hl hi hx]
    by_cases h2 : j = i
    · subst h2
      rw [if_pos rfl, if_neg (by omega), if_pos (by omega), show j * 128 + q - j * 128 = q by omega]
    · rw [if_neg h2, rowB_get, if_pos h1]
      by_cases h3 : j < i
      · rw [if_pos (by omega)]
      · rw [if_neg (by omega), if_neg (by omega)]
  · rw [if_neg h1]
    split
    · rw [List.getElem?_eq_none (by omega)]
    · rw [rowB_get, if_neg h1]
theorem putRow_length (all x : List UInt8) (n i : Nat) (hl : all.length = n * 128) (hi : i < n) (hx : x.length = 128) : (putRow all i x).length = n * 128 := by
  unfold putRow
  rw [List.length_append, List.length_append, List.length_take, List.length_drop]
  omega
theorem torn_len (k : Nat) (b : List UInt8) (hb : b.length = 128) (hk : k ≤ 128) : (torn k b).length = 128 := by
  unfold Dk.torn
  rw [List.length_append, List.length_take, List.length_replicate]
  omega
theorem torn_all (b : List UInt8) (hb : b.length = 128) : torn 128 b = b := by
  unfold Dk.torn
  rw [List.take_of_length_le (by omega)]
  simp
theorem torn_not (k : Nat) (b : List UInt8) (hb : b.length = 128) (hk : k < 128) (kind : UInt8) : ¬ formB kind (torn k b) := by
  intro h
  have h1 := h.2.2.2.2
  unfold Dk.torn at h1
  rw [List.getElem?_append, List.length_take, if_neg (by omega), List.getElem?_replicate, if_pos (by omega)] at h1
  exact absurd (Option.some.inj h1) (by decide)
/-- One write, row by row. -/
theorem wst_row {d : D} {n : Nat} (hl : d.all.length = n * 128) (hkp : 0 ≤ d.keep ∧ d.keep ≤ 128) (i : Nat) (hi : i < n) (b : List UInt8) (hb : b.length = 128) :
    (wst d i b).2.all.length = n * 128 ∧ (∀ j, j < n → j ≠ i → rowB (wst d i b).2.all j = rowB d.all j) ∧ ((wst d i b).1 = 0 → rowB (wst d i b).2.all i = b) ∧
    (rowB (wst d i b).2.all i = rowB d.all i ∨ rowB (wst d i b).2.all i = torn d.keep.toNat b ∨ rowB (wst d i b).2.all i = b) ∧ (wst d i b).2.keep = d.keep := by
  have ht := torn_len d.keep.toNat b hb (by omega)
  unfold Dk.wst
  split
  · exact ⟨hl, fun _ _ _ => rfl, (fun h => absurd h (by simp)), .inl rfl, rfl⟩
  · split
    · exact ⟨putRow_length _ _ n i hl hi ht, fun j hj hne => by simp only; rw [rowB_put _ _ n i j hl hi hj ht, if_neg hne], (fun h => absurd h (by simp)), .inr (.inl (by simp only; rw [rowB_put _ _ n i i hl hi hi ht, if_pos rfl])), rfl⟩
    · exact ⟨putRow_length _ _ n i hl hi hb, fun j hj hne => by simp only; rw [rowB_put _ _ n i j hl hi hj hb, if_neg hne], (fun _ => by simp only; rw [rowB_put _ _ n i i hl hi hi hb, if_pos rfl]), .inr (.inr (by simp only; rw [rowB_put _ _ n i i hl hi hi hb, if_pos rfl])), rfl⟩
theorem saveN_row {d : D} {n : Nat} (hl : d.all.length = n * 128) (hkp : 0 ≤ d.keep ∧ d.keep ≤ 128) (at_ : Nat) (b : List UInt8) (k : Nat) (hk : at_ + 1 + k ≤ n) :
    (saveN d at_ b k).2.all.length = n * 128 ∧ (∀ j, j < n → j ≤ at_ ∨ at_ + k < j → rowB (saveN d at_ b k).2.all j = rowB d.all j) ∧ ((saveN d at_ b k).1 = 0 → ∀ j, j < k → rowB (saveN d at_ b k).2.all (at_ + 1 + j) = chunk b j) ∧ (saveN d at_ b k).2.keep = d.keep := by
  induction k with
  | zero => exact ⟨hl, fun _ _ _ => rfl, fun _ j hj => absurd hj (by omega), rfl⟩
  | succ k ih =>
    obtain ⟨h1, h2, h3, h4⟩ := ih (by omega)
    obtain ⟨g1, g2, g3, g4, g5⟩ := wst_row (d := (saveN d at_ b k).2) h1 (by rw [h4]; exact hkp) (at_ + 1 + k) (by omega) (chunk b k) (chunk_length b k)
    unfold saveN
    split
    · rename_i h0
      refine ⟨g1, fun j hj hjk => (g2 j hj (by omega)).trans (h2 j hj (by omega)), fun hz j hj => ?_, g5.trans h4⟩
      by_cases e : j = k
      · rw [e]; exact g3 hz
      · rw [g2 _ (by omega) (by omega)]; exact h3 h0 j (by omega)
    · rename_i h0
      exact ⟨h1, fun j hj hjk => h2 j hj (by omega), fun hz => absurd hz h0, h4⟩
/-- All of it has been written. -/
structure Done (n f gen : Nat) (b : List UInt8) (all all' : List UInt8) : Prop where
  len : all'.length = n * 128
  rest : ∀ j, j < n → j < areaN f gen ∨ areaN f gen + 255 < j → rowB all' j = rowB all j
  head : rowB all' (areaN f gen) = headF gen b
  cont : ∀ j, j < blkN b.length → rowB all' (areaN f gen + 1 + j) = chunk b j
/-- Not all of it has. -/
structure Torn (n f gen : Nat) (b : List UInt8) (all all' : List UInt8) : Prop where
  len : all'.length = n * 128
  rest : ∀ j, j < n → j < areaN f gen ∨ areaN f gen + 255 < j → rowB all' j = rowB all j
  head : rowB all' (areaN f gen) = rowB all (areaN f gen) ∨ ∃ k, k < 128 ∧ rowB all' (areaN f gen) = torn k (headF gen b)
theorem blk_le {b : List UInt8} (hb : b.length ≤ 32640) : blkN b.length ≤ 255 := by unfold blkN; omega
theorem saveN_live {d : D} (ho : d.off = false) (at_ : Nat) (b : List UInt8) (k : Nat) (hk : d.armed = false ∨ (k : Int) ≤ d.left) :
    (saveN d at_ b k).1 = 0 ∧ (saveN d at_ b k).2.off = false ∧ (saveN d at_ b k).2.armed = d.armed ∧ (saveN d at_ b k).2.left = d.left - k ∧ (saveN d at_ b k).2.writes = d.writes + k := by
  induction k with
  | zero => exact ⟨rfl, ho, rfl, by simp [saveN], by simp [saveN]⟩
  | succ k ih =>
    obtain ⟨h1, h2, h3, h4, h5⟩ := ih (by rcases hk with h | h <;> first | exact .inl h | exact .inr (by omega))
    unfold saveN
    rw [if_pos h1]
    unfold Dk.wst
    rw [if_neg (by rw [h2]; simp), if_neg (by
      rintro ⟨q1, q2⟩
      rw [h3] at q1
      rw [h4] at q2
      rcases hk with h | h
      · rw [h] at q1; exact absurd q1 (by simp)
      · omega)]
    exact ⟨rfl, h2, h3, by simp only; rw [h4]; omega, by simp only; rw [h5]; omega⟩
theorem saveN_fell {d : D} (ho : d.off = false) (ha : d.armed = true) (hl : 0 ≤ d.left) (at_ : Nat) (b : List UInt8) (k : Nat) (hk : d.left < (k : Int)) : (saveN d at_ b k).1 = 19 := by
  induction k with
  | zero => exfalso; omega
  | succ k ih =>
    by_cases h : d.left < (k : Int)
    · have := ih h
      unfold saveN
      rw [if_neg (by rw [this]; decide)]
      exact this
    · obtain ⟨h1, h2, h3, h4, h5⟩ := saveN_live ho at_ b k (.inr (by omega))
      unfold saveN
      rw [if_pos h1]
      unfold Dk.wst
      rw [if_neg (by rw [h2]; simp), if_pos ⟨h3.trans ha, by rw [h4]; omega⟩]
/-- No fuse burns through. -/
theorem saveD_ok {d : D} {n f gen : Nat} {b : List UInt8} (hl : d.all.length = n * 128) (hkp : 0 ≤ d.keep ∧ d.keep ≤ 128) (hf : f + 512 ≤ n) (hb : b.length ≤ 32640) (ho : d.off = false) (ha : d.armed = false ∨ ((blkN b.length : Nat) : Int) < d.left) :
    (saveD d f gen b).1 = 0 ∧ Done n f gen b d.all (saveD d f gen b).2.all ∧ (saveD d f gen b).2.off = false ∧ (saveD d f gen b).2.armed = d.armed ∧ (saveD d f gen b).2.writes = d.writes + (blkN b.length : Nat) + 1 ∧ (saveD d f gen b).2.keep = d.keep := by
  have hbk := blk_le hb
  have har : areaN f gen + 256 ≤ n := by unfold areaN; omega
  obtain ⟨h1, h2, h3, h4⟩ := saveN_row hl hkp (areaN f gen) b (blkN b.length) (by omega)
  obtain ⟨k1, k2, k3, k4, k5⟩ := saveN_live ho (areaN f gen) b (blkN b.length) (by rcases ha with h | h <;> first | exact .inl h | exact .inr (by omega))
  obtain ⟨g1, g2, g3, g4, g5⟩ := wst_row (d := (saveN d (areaN f gen) b (blkN b.length)).2) h1 (by rw [h4]; exact hkp) (areaN f gen) (by omega) (headF gen b) (headF_length gen b)
  have hw : wst (saveN d (areaN f gen) b (blkN b.length)).2 (areaN f gen) (headF gen b) = (0, { (saveN d (areaN f gen) b (blkN b.length)).2 with all := putRow (saveN d (areaN f gen) b (blkN b.length)).2.all (areaN f gen) (headF gen b), left := (saveN d (areaN f gen) b (blkN b.length)).2.left - 1, writes := (saveN d (areaN f gen) b (blkN b.length)).2.writes + 1 }) := by
    unfold Dk.wst
    rw [if_neg (by rw [k2]; simp), if_neg (by
      rintro ⟨q1, q2⟩
      rw [k3] at q1
      rw [k4] at q2
      rcases ha with h | h
      · rw [h] at q1; exact absurd q1 (by simp)
      · omega)]
  have hz : (wst (saveN d (areaN f gen) b (blkN b.length)).2 (areaN f gen) (headF gen b)).1 = 0 := by rw [hw]
  unfold saveD
  rw [if_pos k1]
  refine ⟨hz, ⟨g1, fun j hj hjk => (g2 j hj (by omega)).trans (h2 j hj (by omega)), g3 hz, fun j hj => (g2 _ (by omega) (by omega)).trans (h3 k1 j hj)⟩, ?_, ?_, ?_, ?_⟩
  · rw [hw]; exact k2
  · rw [hw]; exact k3
  · rw [hw]; simp only; rw [k5]
  · rw [hw]; exact h4
/-- The head's write is the one that is torn. -/
theorem saveD_head {d : D} {n f gen : Nat} {b : List UInt8} (hl : d.all.length = n * 128) (hkp : 0 ≤ d.keep ∧ d.keep ≤ 128) (hf : f + 512 ≤ n) (hb : b.length ≤ 32640) (ho : d.off = false) (ha : d.armed = true) (hle : d.left = ((blkN b.length : Nat) : Int)) :
    (saveD d f gen b).1 = 19 ∧ (d.keep = 128 → Done n f gen b d.all (saveD d f gen b).2.all) ∧ (d.keep < 128 → Torn n f gen b d.all (saveD d f gen b).2.all) := by
  have hbk := blk_le hb
  have har : areaN f gen + 256 ≤ n := by unfold areaN; omega
  obtain ⟨h1, h2, h3, h4⟩ := saveN_row hl hkp (areaN f gen) b (blkN b.length) (by omega)
  obtain ⟨k1, k2, k3, k4, k5⟩ := saveN_live ho (areaN f gen) b (blkN b.length) (.inr (by omega))
  have ht := torn_len d.keep.toNat (headF gen b) (headF_length gen b) (by omega)
  have hw : wst (saveN d (areaN f gen) b (blkN b.length)).2 (areaN f gen) (headF gen b) = (19, { (saveN d (areaN f gen) b (blkN b.length)).2 with all := putRow (saveN d (areaN f gen) b (blkN b.length)).2.all (areaN f gen) (torn d.keep.toNat (headF gen b)), off := true, armed := false, writes := (saveN d (areaN f gen) b (blkN b.length)).2.writes + 1 }) := by
    unfold Dk.wst
    rw [if_neg (by rw [k2]; simp), if_pos ⟨k3.trans ha, by rw [k4]; omega⟩, h4]
    simp only [h4]
  have hrow : ∀ j, j < n → rowB (putRow (saveN d (areaN f gen) b (blkN b.length)).2.all (areaN f gen) (torn d.keep.toNat (headF gen b))) j = if j = areaN f gen then torn d.keep.toNat (headF gen b) else rowB (saveN d (areaN f gen) b (blkN b.length)).2.all j := fun j hj => rowB_put _ _ n _ j h1 (by omega) hj ht
  unfold saveD
  rw [if_pos k1, hw]
  refine ⟨rfl, fun hk => ⟨putRow_length _ _ n _ h1 (by omega) ht, fun j hj hjk => ?_, ?_, fun j hj => ?_⟩, fun hk => ⟨putRow_length _ _ n _ h1 (by omega) ht, fun j hj hjk => ?_, .inr ⟨d.keep.toNat, by omega, ?_⟩⟩⟩
  · simp only; rw [hrow j hj, if_neg (by omega)]; exact h2 j hj (by omega)
  · simp only; rw [hrow _ (by omega), if_pos rfl, hk, show (128 : Int).toNat = 128 from rfl, torn_all _ (headF_length gen b)]
  · simp only; rw [hrow _ (by omega), if_neg (by omega)]; exact h3 k1 j hj
  · simp only; rw [hrow j hj, if_neg (by omega)]; exact h2 j hj (by omega)
  · simp only; rw [hrow _ (by omega), if_pos rfl]
/-- One of the contents' writes is torn. -/
theorem saveD_part {d : D} {n f gen : Nat} {b : List UInt8} (hl : d.all.length = n * 128) (hkp : 0 ≤ d.keep ∧ d.keep ≤ 128) (hf : f + 512 ≤ n) (hb : b.length ≤ 32640) (ho : d.off = false) (ha : d.armed = true) (h0 : 0 ≤ d.left) (hle : d.left < ((blkN b.length : Nat) : Int)) :
    (saveD d f gen b).1 = 19 ∧ Torn n f gen b d.all (saveD d f gen b).2.all := by
  have hbk := blk_le hb
  have har : areaN f gen + 256 ≤ n := by unfold areaN; omega
  obtain ⟨h1, h2, h3, h4⟩ := saveN_row hl hkp (areaN f gen) b (blkN b.length) (by omega)
  have k1 := saveN_fell ho ha h0 (areaN f gen) b (blkN b.length) hle
  unfold saveD
  rw [if_neg (by rw [k1]; decide)]
  exact ⟨k1, h1, fun j hj hjk => h2 j hj (by omega), .inl (h2 _ (by omega) (by omega))⟩
/-- The contents, out of their blocks. -/
theorem contN_chunks (all : List UInt8) (at_ : Nat) (b : List UInt8) (h : ∀ j, j < blkN b.length → rowB all (at_ + 1 + j) = chunk b j) (k : Nat) (hk : k ≤ blkN b.length) :
    contN all at_ k = (b ++ List.replicate (blkN b.length * 128 - b.length) 0).take (k * 128) := by
  induction k with
  | zero => simp [contN]
  | succ k ih =>
    rw [contN_succ, ih (by omega), h k (by omega), Nat.succ_mul, List.take_add]
    congr 1
    apply List.ext_getElem?
    intro i
    unfold chunk
    have hbl : blkN b.length * 128 ≥ b.length := by unfold blkN; omega
    rw [List.getElem?_append, List.length_take, List.length_drop, List.getElem?_take, List.getElem?_drop, List.getElem?_replicate, List.getElem?_take, List.getElem?_drop, List.getElem?_append, List.getElem?_replicate]
    by_cases h1 : i < 128
    · by_cases h2 : k * 128 + i < b.length
      · rw [if_pos (by omega), if_pos h1, if_pos h1, if_pos h2]
      · rw [if_neg (by omega), if_pos (by omega), if_pos h1, if_neg h2, if_pos (by omega)]
    · rw [if_neg (by omega), if_neg (by omega), if_neg h1]
theorem contN_done (all : List UInt8) (at_ : Nat) (b : List UInt8) (h : ∀ j, j < blkN b.length → rowB all (at_ + 1 + j) = chunk b j) :
    contN all at_ (blkN b.length) = b ++ List.replicate (blkN b.length * 128 - b.length) 0 := by
  rw [contN_chunks all at_ b h _ (Nat.le_refl _), List.take_of_length_le]
  rw [List.length_append, List.length_replicate]
  unfold blkN; omega
theorem headF_is (gen : Nat) (hg : gen ≤ 2147483647) (b : List UInt8) (hb : b.length ≤ 32640) : headOk (headF gen b) (gen % 2) ∧ genF ((headF gen b).take 120) = gen ∧ seqF ((headF gen b).take 120) = blkN b.length ∧ sizeF (headF gen b) = b.length ∧ sumF (headF gen b) = (crc b).toNat := by
  have hbk := blk_le hb
  obtain ⟨h1, h2, h3, h4, h5, h6, h7, h8⟩ := read_of 86 gen (blkN b.length) (headP b) hg (by omega) (by rw [headP_length]; decide)
  have hbl : b.length < 256 ^ 4 := by omega
  have hcr : (crc b).toNat < 256 ^ 4 := (crc b).isLt
  rw [headP_length] at h6 h7
  have hP : ((((headF gen b).take 120).drop 8).take 8) = headP b := h7
  have hz : sizeF (headF gen b) = b.length := by
    unfold sizeF
    rw [hP]
    unfold headP
    rw [List.take_left' (be_length _ _), val_be _ _ hbl]
  refine ⟨⟨⟨h2, h3, by rw [show ((headF gen b).take 120) = ((blockF 86 gen (blkN b.length) (headP b)).take 120) from rfl, h4]; exact hg, by rw [show ((headF gen b).take 120) = ((blockF 86 gen (blkN b.length) (headP b)).take 120) from rfl, h6]; decide, h8⟩, ?_, h6, ?_, ?_, ?_⟩, h4, h5, hz, ?_⟩
  · rw [show ((headF gen b).take 120) = ((blockF 86 gen (blkN b.length) (headP b)).take 120) from rfl, h4]
  · rw [show ((headF gen b).take 120) = ((blockF 86 gen (blkN b.length) (headP b)).take 120) from rfl, h5]; exact hbk
  · rw [hz]; exact hb
  · rw [hz, show ((headF gen b).take 120) = ((blockF 86 gen (blkN b.length) (headP b)).take 120) from rfl, h5]
  · unfold sumF
    rw [hP]
    unfold headP
    rw [List.drop_left' (be_length _ _), List.take_of_length_le (by rw [be_length]; exact Nat.le_refl _), val_be _ _ hcr]
/-- What was saved is there. -/
theorem has_done (all : List UInt8) (at_ gen : Nat) (hg : gen ≤ 2147483647) (b : List UInt8) (hb : b.length ≤ 32640) (hh : rowB all at_ = headF gen b) (hc : ∀ j, j < blkN b.length → rowB all (at_ + 1 + j) = chunk b j) :
    hasD all at_ (gen % 2) = some (gen, b) := by
  obtain ⟨h1, h2, h3, h4, h5⟩ := headF_is gen hg b hb
  have hcn := contN_done all at_ b hc
  have ht : (contN all at_ (blkN b.length)).take b.length = b := by rw [hcn, List.take_left' rfl]
  unfold hasD
  rw [hh, h3, h4, h2, ht]
  rw [if_pos]
  refine ⟨h1, ?_⟩
  unfold contOk
  rw [h4, h5, ht]
  refine ⟨?_, rfl⟩
  rw [hcn, List.drop_left' rfl]
  intro i hi
  rw [List.length_replicate] at hi
  rw [List.getElem?_replicate, if_pos hi]
theorem hasD_gen {all : List UInt8} {at_ odd G : Nat} {b : List UInt8} (h : hasD all at_ odd = some (G, b)) : headOk (rowB all at_) odd ∧ G = genF ((rowB all at_).take 120) := by
  unfold hasD at h
  split at h
  · rename_i q
    cases h
    exact ⟨q.1, rfl⟩
  · exact nomatch h
/-- Such a head is none, or of an elder generation. -/
def LowX (x : List UInt8) (K : Nat) : Prop := ∀ odd, headOk x odd → genF (x.take 120) < K
theorem lowX_zero (K : Nat) : LowX (List.replicate 128 0) K := by
  intro odd h
  exact absurd h.1.1.1 (by decide)
theorem lowX_torn (k : Nat) (b : List UInt8) (hb : b.length = 128) (hk : k < 128) (K : Nat) : LowX (torn k b) K := by
  intro odd h
  exact absurd h.1.1 (torn_not k b hb hk 86)
/-- Behind K saves: what the areas hold. -/
structure Kept (n f K : Nat) (last : List UInt8) (all : List UInt8) : Prop where
  len : all.length = n * 128
  low : LowX (rowB all (areaN f (K + 1))) K
  zero : K = 0 → LowX (rowB all (areaN f K)) K
  top : 0 < K → hasD all (areaN f K) (K % 2) = some (K, last)
theorem area_ne (f K : Nat) : areaN f (K + 2) = areaN f K ∧ (areaN f K + 255 < areaN f (K + 1) ∨ areaN f (K + 1) + 255 < areaN f K) := by
  unfold areaN
  omega
theorem area_lt (f K n : Nat) (hf : f + 512 ≤ n) : areaN f K + 256 ≤ n := by unfold areaN; omega
theorem contN_ext {all all' : List UInt8} {at_ : Nat} (k : Nat) (h : ∀ j, j < k → rowB all' (at_ + 1 + j) = rowB all (at_ + 1 + j)) : contN all' at_ k = contN all at_ k := by
  induction k with
  | zero => rw [contN_zero, contN_zero]
  | succ k ih => rw [contN_succ, contN_succ, ih (fun j hj => h j (by omega)), h k (by omega)]
theorem hasD_ext {all all' : List UInt8} {at_ odd : Nat} (h : ∀ j, j < 256 → rowB all' (at_ + j) = rowB all (at_ + j)) : hasD all' at_ odd = hasD all at_ odd := by
  have h0 := h 0 (by decide)
  rw [Nat.add_zero] at h0
  unfold hasD
  rw [h0]
  by_cases hh : headOk (rowB all at_) odd
  · have hs := hh.2.2.2.1
    have hc : contN all' at_ (seqF ((rowB all at_).take 120)) = contN all at_ (seqF ((rowB all at_).take 120)) := contN_ext _ (fun j hj => by
      have h5 := h (1 + j) (by omega)
      rw [← Nat.add_assoc] at h5
      exact h5)
    rw [hc]
  · rw [if_neg (fun q => hh q.1), if_neg (fun q => hh q.1)]
theorem hasD_kept {n f K gen : Nat} {b : List UInt8} {all all' : List UInt8} (hf : f + 512 ≤ n) (hrest : ∀ j, j < n → j < areaN f (K + 1) ∨ areaN f (K + 1) + 255 < j → rowB all' j = rowB all j) (odd : Nat) : hasD all' (areaN f K) odd = hasD all (areaN f K) odd :=
  hasD_ext fun j hj => hrest _ (by have := area_lt f K n hf; omega) (by have := (area_ne f K).2; omega)
theorem Kept.save {n f K : Nat} {last b : List UInt8} {all all' : List UInt8} (h : Kept n f K last all) (hf : f + 512 ≤ n) (hK : K < 2147483647) (hb : b.length ≤ 32640) (hd : Done n f (K + 1) b all all') : Kept n f (K + 1) b all' := by
  have hrow : rowB all' (areaN f K) = rowB all (areaN f K) := hd.rest _ (by have := area_lt f K n hf; omega) (by have := (area_ne f K).2; omega)
  refine ⟨hd.len, ?_, fun h0 => absurd h0 (by omega), fun _ => has_done _ _ _ (by omega) b hb hd.head hd.cont⟩
  rw [show K + 1 + 1 = K + 2 from rfl, (area_ne f K).1, hrow]
  by_cases h0 : K = 0
  · intro odd hh
    have := h.zero h0 odd hh
    omega
  · have ht := h.top (by omega)
    obtain ⟨h1, h2⟩ := hasD_gen ht
    intro odd hh
    omega
theorem Kept.torn {n f K : Nat} {last b : List UInt8} {all all' : List UInt8} (h : Kept n f K last all) (hf : f + 512 ≤ n) (hd : Torn n f (K + 1) b all all') : Kept n f K last all' := by
  have hrow : rowB all' (areaN f K) = rowB all (areaN f K) := hd.rest _ (by have := area_lt f K n hf; omega) (by have := (area_ne f K).2; omega)
  refine ⟨hd.len, ?_, fun h0 => ?_, fun h0 => ?_⟩
  · rcases hd.head with h1 | ⟨k, hk, h1⟩
    · rw [h1]; exact h.low
    · rw [h1]; exact lowX_torn k _ (headF_length _ _) hk K
  · rw [hrow]; exact h.zero h0
  · rw [hasD_kept (b := b) (gen := 0) hf hd.rest]; exact h.top h0
theorem Kept.load {n f K : Nat} {last : List UInt8} {all : List UInt8} (h : Kept n f K last all) : loadD all f = if K = 0 then none else some (K, last) := by
  unfold loadD
  have h2 := h.low
  by_cases h0 : K = 0
  · subst h0
    have h3 := h.zero rfl
    have e1 : hasD all (areaN f 0) 0 = none := hasD_none (fun q => absurd (h3 0 q) (by omega))
    have e2 : hasD all (areaN f 1) 1 = none := hasD_none (fun q => absurd (h2 1 q) (by omega))
    rw [e1, e2, if_pos rfl]
    rfl
  · rw [if_neg h0]
    have h1 := h.top (by omega)
    have hlow : ∀ G c, hasD all (areaN f (K + 1)) ((K + 1) % 2) = some (G, c) → G < K := fun G c hc => by
      obtain ⟨q1, q2⟩ := hasD_gen hc
      have := h2 _ q1
      omega
    have ev : ∀ m, areaN f m = areaN f (m % 2) := fun m => by unfold areaN; rw [Nat.mod_mod]
    rw [ev] at h1 hlow
    rcases Nat.mod_two_eq_zero_or_one K with hp | hp
    · have hq : (K + 1) % 2 = 1 := by omega
      rw [hp] at h1
      rw [hq] at hlow
      rw [h1]
      cases hx : hasD all (areaN f 1) 1 with
      | none => rfl
      | some gb =>
        obtain ⟨G, c⟩ := gb
        have := hlow G c hx
        exact if_neg (by omega)
    · have hq : (K + 1) % 2 = 0 := by omega
      rw [hp] at h1
      rw [hq] at hlow
      rw [h1]
      cases hx : hasD all (areaN f 0) 0 with
      | none => rfl
      | some gb =>
        obtain ⟨G, c⟩ := gb
        have := hlow G c hx
        exact if_pos (by omega)
end Go.Proofs.Ytmlgkahadgpaiaa.Va
