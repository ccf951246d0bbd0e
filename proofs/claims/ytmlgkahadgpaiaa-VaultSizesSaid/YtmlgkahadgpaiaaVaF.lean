/- Chapter 10: what an area has, as a function of the disk. -/
import Derived.Test.YtmlgkahadgpaiaaVaE
namespace Go.Proofs.Ytmlgkahadgpaiaa.Va
open Go.RowKit _root_.Go.Proofs.Ytmlgkahadgpaiaa.Own
open Go.Proofs.Ytmlgkahadgpaiaa.Fr
open Go.Proofs.Ytmlgkahadgpaiaa.Dk (D Is D0 torn putRow rowB wst DOk made_all wpList_make_at rowB_length)
set_option linter.unusedVariables false
set_option linter.unusedSimpArgs false
def sizeF (x : List UInt8) : Nat := val ((((x.take 120).drop 8).take 8).take 4)
def sumF (x : List UInt8) : Nat := val (((((x.take 120).drop 8).take 8).drop 4).take 4)
/-- A head that may be. -/
def headOk (x : List UInt8) (odd : Nat) : Prop := frameOk x ∧ genF (x.take 120) % 2 = odd ∧ lenF (x.take 120) = 8 ∧ seqF (x.take 120) ≤ 255 ∧ sizeF x ≤ 32640 ∧ blkN (sizeF x) = seqF (x.take 120)
/-- Contents that the head tells of. -/
def contOk (x C : List UInt8) : Prop := zerosB (C.drop (sizeF x)) ∧ (crc (C.take (sizeF x))).toNat = sumF x
open Classical in
/-- What an area has. -/
noncomputable def hasD (all : List UInt8) (at_ odd : Nat) : Option (Nat × List UInt8) :=
  if headOk (rowB all at_) odd ∧ contOk (rowB all at_) (contN all at_ (seqF ((rowB all at_).take 120))) then
    some (genF ((rowB all at_).take 120), (contN all at_ (seqF ((rowB all at_).take 120))).take (sizeF (rowB all at_))) else none
def HasRes (base : Nat) (o : Option (Nat × List UInt8)) (e : Ending) (w' : World) : Prop :=
  (∀ G b, o = some (G, b) → ∃ A c, e = .returned (.tuple #[.int .i64 (G : Nat), .slice A b.length c, .bool true]) ∧ b.length ≤ c ∧ (A = none → c = 0) ∧ Rd w' A (bys b) ∧ ∀ a, A = some a → base ≤ a.block)
  ∧ (o = none → ∃ (g : Int) (A : Option Addr) (n c : Nat), e = .returned (.tuple #[.int .i64 g, .slice A n c, .bool false]))
theorem HasRes.none_ {base : Nat} {e : Ending} {w' : World} (h : e = .returned (.tuple #[.int .i64 0, .slice none 0 0, .bool false])) : HasRes base none e w' :=
  ⟨(fun _ _ h => nomatch h), fun _ => ⟨0, none, 0, 0, h⟩⟩
theorem hasD_none {all : List UInt8} {at_ odd : Nat} (h : ¬ headOk (rowB all at_) odd) : hasD all at_ odd = none := by
  unfold hasD
  rw [if_neg (fun q => h q.1)]
theorem has_calls {w0 : World} {v g r n f : Nat} {d : D} {w : World} (p : VS w0 v g r n f d w) (ho : d.off = false) (hf : f + 512 ≤ n) (hn : n ≤ 1024) (odd : Nat) (h2 : odd < 2) :
    Calls Try.prog 44 #[.pointer (some ⟨v, 0, none⟩), .int .i64 odd] w fun e w' => HasRes w.heap.size (hasD d.all (areaN f odd) odd) e w' ∧ Below w.heap.size w w' := by
  have har : areaN f odd + 256 ≤ n := by unfold areaN; omega
  by_cases c1 : frameOk (rowB d.all (areaN f odd))
  · by_cases c2 : genF ((rowB d.all (areaN f odd)).take 120) % 2 = odd ∧ lenF ((rowB d.all (areaN f odd)).take 120) = 8 ∧ seqF ((rowB d.all (areaN f odd)).take 120) ≤ 255
    · have hh : HeadIs (rowB d.all (areaN f odd)) odd (genF ((rowB d.all (areaN f odd)).take 120)) (seqF ((rowB d.all (areaN f odd)).take 120)) (sizeF (rowB d.all (areaN f odd))) (sumF (rowB d.all (areaN f odd))) :=
        ⟨c1, rfl, rfl, c2.2.1, c2.1, c2.2.2, rfl, rfl⟩
      by_cases c3 : sizeF (rowB d.all (areaN f odd)) ≤ 32640
      · by_cases c4 : blkN (sizeF (rowB d.all (areaN f odd))) = seqF ((rowB d.all (areaN f odd)).take 120)
        · refine (has_rest p ho hf hn odd h2 hh c3 c4).mono ?_
          rintro e w' ⟨hp, hb⟩
          refine ⟨?_, hb⟩
          have hhd : headOk (rowB d.all (areaN f odd)) odd := ⟨c1, c2.1, c2.2.1, c2.2.2, c3, c4⟩
          have hle : sizeF (rowB d.all (areaN f odd)) ≤ (contN d.all (areaN f odd) (seqF ((rowB d.all (areaN f odd)).take 120))).length := by
            rw [contN_length d.all (areaN f odd) _ n p.is.len (by have := c2.2.2; omega), ← c4]
            unfold blkN; omega
          by_cases c5 : contOk (rowB d.all (areaN f odd)) (contN d.all (areaN f odd) (seqF ((rowB d.all (areaN f odd)).take 120)))
          · obtain ⟨A, c, he, h1, h3, h4, h5⟩ := hp.1 c5
            rw [show hasD d.all (areaN f odd) odd = some (_, _) from by unfold hasD; rw [if_pos ⟨hhd, c5⟩]]
            refine ⟨?_, fun h => nomatch h⟩
            rintro G b hGb
            cases hGb
            have hl : ((contN d.all (areaN f odd) (seqF ((rowB d.all (areaN f odd)).take 120))).take (sizeF (rowB d.all (areaN f odd)))).length = sizeF (rowB d.all (areaN f odd)) := by rw [List.length_take]; omega
            rw [hl]
            exact ⟨A, c, he, h1, h3, h4, h5⟩
          · rw [show hasD d.all (areaN f odd) odd = none from by unfold hasD; rw [if_neg (fun q => c5 q.2)]]
            exact ⟨(fun _ _ h => nomatch h), fun _ => hp.2 c5⟩
        · rw [hasD_none (fun q => c4 q.2.2.2.2.2)]
          exact (has_badblocks p ho hf hn odd h2 hh c3 c4).mono fun e w' ⟨h1, h3⟩ => ⟨HasRes.none_ h1, h3⟩
      · rw [hasD_none (fun q => c3 q.2.2.2.2.1)]
        exact (has_badsize p ho hf hn odd h2 hh (by omega)).mono fun e w' ⟨h1, h3⟩ => ⟨HasRes.none_ h1, h3⟩
    · rw [hasD_none (fun q => c2 ⟨q.2.1, q.2.2.1, q.2.2.2.1⟩)]
      exact (has_badhead p ho hf hn odd h2 c1 (by
        by_cases k1 : genF ((rowB d.all (areaN f odd)).take 120) % 2 = odd
        · by_cases k2 : lenF ((rowB d.all (areaN f odd)).take 120) = 8
          · exact .inr (.inr (Nat.lt_of_not_le (fun k3 => c2 ⟨k1, k2, k3⟩)))
          · exact .inr (.inl k2)
        · exact .inl k1)).mono fun e w' ⟨h1, h3⟩ => ⟨HasRes.none_ h1, h3⟩
  · rw [hasD_none (fun q => c1 q.1)]
    exact (has_noframe p ho hf hn odd h2 c1).mono fun e w' ⟨h1, h3⟩ => ⟨HasRes.none_ h1, h3⟩
/-- The later one. -/
def better (o o' : Option (Nat × List UInt8)) : Option (Nat × List UInt8) :=
  match o', o with
  | none, o => o
  | some (h, b), none => some (h, b)
  | some (h, b), some (g, a) => if g < h then some (h, b) else some (g, a)
/-- What Load answers of a disk that is on. -/
noncomputable def loadD (all : List UInt8) (f : Nat) : Option (Nat × List UInt8) := better (hasD all (areaN f 0) 0) (hasD all (areaN f 1) 1)
end Go.Proofs.Ytmlgkahadgpaiaa.Va
