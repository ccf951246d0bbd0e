/- The walks of the law CrcSums, joined. -/
import Derived.Test.YtdamljjbeaomoaaCrcSums
namespace Go.Proofs.Ytdamljjbeaomoaa
open Go.RowKit Own
theorem sums_walk (A : Option Addr) (c : Nat) (ps : List (Option Addr × Nat × List UInt8)) (_ : ps.length ≤ c) (hm : ps.length ≤ maxLen) (hA : A = none → c = 0) (w : World) (hR : Rd w A (sls ps)) (hps : ∀ p ∈ ps, (p.1 = none → p.2.1 = 0) ∧ p.2.2.length ≤ maxLen ∧ Rd w p.1 (bys p.2.2)) :
    Calls Try.prog 7 #[.slice A ps.length c] w fun e w' => e = .returned (.bool true) ∧ Below w.heap.size w w' := by
  by_cases h1 : 30 < ps.length
  · exact sums_long A c ps h1 hm w
  · exact sums_short A c ps hA (by omega) w hR hps
end Go.Proofs.Ytdamljjbeaomoaa
