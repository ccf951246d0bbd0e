/- The walks of the law CrcSeals, joined. -/
import Derived.Test.YtdamljjbeaomoaaCrcSealsW
import Derived.Test.YtdamljjbeaomoaaCrcSealsY
namespace Go.Proofs.Ytdamljjbeaomoaa
open Go.RowKit Own
theorem seals_walk (A : Option Addr) (c : Nat) (xs : List UInt8) (hc : xs.length ≤ c) (hm : xs.length ≤ maxLen) (hA : A = none → c = 0) (w : World) (hR : Rd w A (bys xs)) :
    Calls Try.prog 8 #[.slice A xs.length c] w fun e w' => e = .returned (.bool true) ∧ Below w.heap.size w w' := by
  by_cases h1 : 1000 < xs.length
  · exact seals_long A c xs h1 hm w
  by_cases h2 : xs.length < 4
  · exact seals_short A c xs hA h2 w hR
  obtain ⟨n, hn⟩ : ∃ n, n + 4 = xs.length := ⟨xs.length - 4, by omega⟩
  obtain ⟨a, rfl⟩ : ∃ a, A = some a := by
    cases A with
    | none => have := hA rfl; omega
    | some a => exact ⟨a, rfl⟩
  rw [← hn]
  cases he : (lowB (crc (xs.take n)) == xs.drop n) with
  | false => exact seals_bad a c n xs hn (by omega) hc w hR he
  | true => exact seals_good a c n xs hn (by omega) hc w hR he
end Go.Proofs.Ytdamljjbeaomoaa
