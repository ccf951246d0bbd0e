/-
  No cell of these rows narrows 'for every input' (looked for: loops, veiled, ifaces, maps, wideKeys, modest, calm, conditions, laid).
  DERIVED. THE GIVEN ROWS OF THIS SEAT. 7 by the template 'for every input the law returns true; each argument reads behind the call as it read before'; 0 by the template 'total and deterministic' (their statements: YtmlgkahadgpaiaaTotals.lean).
  GIVEN WITH THE SEED: the statements are not yours to turn. If you find one false, say at which input.
  Laid BY PROGRAM, IN A SANDBOX (cutbox-rows.mjs): the forced cells as the released guide's own fill.sh prints them over the translation 7e6956090b66de60… (all of the seat's roots in one cut). By AI agents, Wed Nov 11 2026. No macro, syntax, notation, axiom, sorry.
-/
import Derived.Test.YtmlgkahadgpaiaaChecked
import GoSem.Claim
import GoSem.ClaimJoined
import GoSem.ClaimMapViews
import Derived.JoinedTies
import Derived.KernelRfl
namespace Go.Proofs.Ytmlgkahadgpaiaa
/- THE CELL 'sum', in the pinned program and in every row, IS THE sha256 OF THE DUMP (.gsa) THAT YtmlgkahadgpaiaaProg.lean LOADS. Nothing in Lean hashes anything: it is a label: what it is worth is what the hold of that sum in a sandbox is worth. -/
noncomputable def Try.pinned : Pinned := { name := "ytmlgkahadgpaiaa", sum := "7e6956090b66de601649d7592580a2a6085a91380ccdfdfa054ff7451fa7529f", checked := Try.checked }
namespace Rows
def none {H : Type} : Left H := { results := [], args := [] }

/-- 'forepeaklaw10.VaultKeeps': WHATEVER THE INPUT: true; the input reads as it did. -/
def vaultKeepsSpec : ChangeSpec := { name := "vaultKeeps", fn := fun _ => fun
  | [d1, d2, d3, d4] => { results := [.lit (.bool true)], args := [d1, d2, d3, d4] }
  | _ => none }
def vaultKeepsRow : OpenClaim := { program := "ytmlgkahadgpaiaa", sum := "7e6956090b66de601649d7592580a2a6085a91380ccdfdfa054ff7451fa7529f", func := "forepeak/forepeaklaw10.VaultKeeps", spec := "vaultKeeps", unfollowed := true, recurses := true, apart := false }
def VaultKeepsSaid : Prop := vaultKeepsRow.holds Try.pinned (OpenSpec.ofChange vaultKeepsSpec)

/-- ITS FALSE NEIGHBOUR: 'it returns false'. Refute it at one input. -/
def vaultKeepsWrong : ChangeSpec := { name := "vaultKeeps", fn := fun _ => fun
  | [d1, d2, d3, d4] => { results := [.lit (.bool false)], args := [d1, d2, d3, d4] }
  | _ => none }
def VaultKeepsWrongFalsely : Prop := vaultKeepsRow.holds Try.pinned (OpenSpec.ofChange vaultKeepsWrong)

/-- 'forepeaklaw10.VaultNobody': WHATEVER THE INPUT: true; the input reads as it did. -/
def vaultNobodySpec : ChangeSpec := { name := "vaultNobody", fn := fun _ => fun
  | [d1, d2] => { results := [.lit (.bool true)], args := [d1, d2] }
  | _ => none }
def vaultNobodyRow : OpenClaim := { program := "ytmlgkahadgpaiaa", sum := "7e6956090b66de601649d7592580a2a6085a91380ccdfdfa054ff7451fa7529f", func := "forepeak/forepeaklaw10.VaultNobody", spec := "vaultNobody", unfollowed := true, recurses := true, apart := false }
def VaultNobodySaid : Prop := vaultNobodyRow.holds Try.pinned (OpenSpec.ofChange vaultNobodySpec)

/-- ITS FALSE NEIGHBOUR: 'it returns false'. Refute it at one input. -/
def vaultNobodyWrong : ChangeSpec := { name := "vaultNobody", fn := fun _ => fun
  | [d1, d2] => { results := [.lit (.bool false)], args := [d1, d2] }
  | _ => none }
def VaultNobodyWrongFalsely : Prop := vaultNobodyRow.holds Try.pinned (OpenSpec.ofChange vaultNobodyWrong)

/-- 'forepeaklaw09.JournalKeeps': WHATEVER THE INPUT: true; the input reads as it did. -/
def journalKeepsSpec : ChangeSpec := { name := "journalKeeps", fn := fun _ => fun
  | [d1, d2, d3] => { results := [.lit (.bool true)], args := [d1, d2, d3] }
  | _ => none }
def journalKeepsRow : OpenClaim := { program := "ytmlgkahadgpaiaa", sum := "7e6956090b66de601649d7592580a2a6085a91380ccdfdfa054ff7451fa7529f", func := "forepeak/forepeaklaw09.JournalKeeps", spec := "journalKeeps", apart := false }
def JournalKeepsSaid : Prop := journalKeepsRow.holds Try.pinned (OpenSpec.ofChange journalKeepsSpec)

/-- ITS FALSE NEIGHBOUR: 'it returns false'. Refute it at one input. -/
def journalKeepsWrong : ChangeSpec := { name := "journalKeeps", fn := fun _ => fun
  | [d1, d2, d3] => { results := [.lit (.bool false)], args := [d1, d2, d3] }
  | _ => none }
def JournalKeepsWrongFalsely : Prop := journalKeepsRow.holds Try.pinned (OpenSpec.ofChange journalKeepsWrong)

/-- 'forepeaklaw09.JournalGens': WHATEVER THE INPUT: true; the input reads as it did. -/
def journalGensSpec : ChangeSpec := { name := "journalGens", fn := fun _ => fun
  | [d1, d2, d3, d4] => { results := [.lit (.bool true)], args := [d1, d2, d3, d4] }
  | _ => none }
def journalGensRow : OpenClaim := { program := "ytmlgkahadgpaiaa", sum := "7e6956090b66de601649d7592580a2a6085a91380ccdfdfa054ff7451fa7529f", func := "forepeak/forepeaklaw09.JournalGens", spec := "journalGens", apart := false }
def JournalGensSaid : Prop := journalGensRow.holds Try.pinned (OpenSpec.ofChange journalGensSpec)

/-- ITS FALSE NEIGHBOUR: 'it returns false'. Refute it at one input. -/
def journalGensWrong : ChangeSpec := { name := "journalGens", fn := fun _ => fun
  | [d1, d2, d3, d4] => { results := [.lit (.bool false)], args := [d1, d2, d3, d4] }
  | _ => none }
def JournalGensWrongFalsely : Prop := journalGensRow.holds Try.pinned (OpenSpec.ofChange journalGensWrong)

/-- 'forepeaklaw09.JournalNobody': WHATEVER THE INPUT: true; the input reads as it did. -/
def journalNobodySpec : ChangeSpec := { name := "journalNobody", fn := fun _ => fun
  | [d1, d2] => { results := [.lit (.bool true)], args := [d1, d2] }
  | _ => none }
def journalNobodyRow : OpenClaim := { program := "ytmlgkahadgpaiaa", sum := "7e6956090b66de601649d7592580a2a6085a91380ccdfdfa054ff7451fa7529f", func := "forepeak/forepeaklaw09.JournalNobody", spec := "journalNobody", apart := false }
def JournalNobodySaid : Prop := journalNobodyRow.holds Try.pinned (OpenSpec.ofChange journalNobodySpec)

/-- ITS FALSE NEIGHBOUR: 'it returns false'. Refute it at one input. -/
def journalNobodyWrong : ChangeSpec := { name := "journalNobody", fn := fun _ => fun
  | [d1, d2] => { results := [.lit (.bool false)], args := [d1, d2] }
  | _ => none }
def JournalNobodyWrongFalsely : Prop := journalNobodyRow.holds Try.pinned (OpenSpec.ofChange journalNobodyWrong)

/-- 'forepeaklaw10.VaultPlays': WHATEVER THE INPUT: true; the input reads as it did. -/
def vaultPlaysSpec : ChangeSpec := { name := "vaultPlays", fn := fun _ => fun
  | [d1, d2] => { results := [.lit (.bool true)], args := [d1, d2] }
  | _ => none }
def vaultPlaysRow : OpenClaim := { program := "ytmlgkahadgpaiaa", sum := "7e6956090b66de601649d7592580a2a6085a91380ccdfdfa054ff7451fa7529f", func := "forepeak/forepeaklaw10.VaultPlays", spec := "vaultPlays", unfollowed := true, recurses := true, apart := false }
def VaultPlaysSaid : Prop := vaultPlaysRow.holds Try.pinned (OpenSpec.ofChange vaultPlaysSpec)

/-- ITS FALSE NEIGHBOUR: 'it returns false'. Refute it at one input. -/
def vaultPlaysWrong : ChangeSpec := { name := "vaultPlays", fn := fun _ => fun
  | [d1, d2] => { results := [.lit (.bool false)], args := [d1, d2] }
  | _ => none }
def VaultPlaysWrongFalsely : Prop := vaultPlaysRow.holds Try.pinned (OpenSpec.ofChange vaultPlaysWrong)

/-- 'forepeaklaw10.VaultSizes': WHATEVER THE INPUT: true; the input reads as it did. -/
def vaultSizesSpec : ChangeSpec := { name := "vaultSizes", fn := fun _ => fun
  | [d1, d2] => { results := [.lit (.bool true)], args := [d1, d2] }
  | _ => none }
def vaultSizesRow : OpenClaim := { program := "ytmlgkahadgpaiaa", sum := "7e6956090b66de601649d7592580a2a6085a91380ccdfdfa054ff7451fa7529f", func := "forepeak/forepeaklaw10.VaultSizes", spec := "vaultSizes", unfollowed := true, recurses := true, apart := false }
def VaultSizesSaid : Prop := vaultSizesRow.holds Try.pinned (OpenSpec.ofChange vaultSizesSpec)

/-- ITS FALSE NEIGHBOUR: 'it returns false'. Refute it at one input. -/
def vaultSizesWrong : ChangeSpec := { name := "vaultSizes", fn := fun _ => fun
  | [d1, d2] => { results := [.lit (.bool false)], args := [d1, d2] }
  | _ => none }
def VaultSizesWrongFalsely : Prop := vaultSizesRow.holds Try.pinned (OpenSpec.ofChange vaultSizesWrong)

/- THE SECOND FORM. 'bulk': how many values and letters a reading holds, each counted each time it is reached (what is shared counts as often as it is met; a slice's spare places count too). A statement '..UptoSaid' is the law's where the arguments, and the package variables that the reading takes, are together of bulk at most 1048576: NARROWER than '..Said'. Prove '..Said' where nothing that the law and all that it calls make is longer than what came in: it says more and counts as full. Else prove '..UptoSaid'. A law counts once. -/
mutual
def uptoBulk {H : Type} : DataW H → Nat
  | .lit (.string bytes) => bytes.length + 1
  | .lit _ => 1
  | .nil => 1
  | .ptr d => uptoBulk d + 1
  | .slice elems spare => uptoBulkAll elems + uptoBulkAll spare + 1
  | .agg parts => uptoBulkAll parts + 1
  | .iface _ d => uptoBulk d + 1
  | .map entries => uptoBulkEntries entries + 1
  | .held _ => 1
def uptoBulkAll {H : Type} : List (DataW H) → Nat
  | [] => 0
  | d :: r => uptoBulk d + uptoBulkAll r
def uptoBulkEntries {H : Type} : List (Lit × DataW H) → Nat
  | [] => 0
  | x :: r => uptoBulkEntry x + uptoBulkEntries r
def uptoBulkEntry {H : Type} : Lit × DataW H → Nat
  | (.string bytes, d) => bytes.length + uptoBulk d + 1
  | (_, d) => uptoBulk d + 1
 end
def uptoSmall : (H : Type) → List (DataW H) → Bool := fun _ ds => decide (uptoBulkAll ds ≤ 1048576)
def OpenSpec.upto (s : _root_.Go.ChangeSpec) : _root_.Go.OpenSpec := { _root_.Go.OpenSpec.ofChange s with cond := some uptoSmall }

/-- 'forepeaklaw10.VaultKeeps', WHERE WHAT IT READS IS OF BULK AT MOST 1048576: true; the input reads as it did. -/
def vaultKeepsUptoRow : OpenClaim := { program := "ytmlgkahadgpaiaa", sum := "7e6956090b66de601649d7592580a2a6085a91380ccdfdfa054ff7451fa7529f", func := "forepeak/forepeaklaw10.VaultKeeps", spec := "vaultKeeps", unfollowed := true, recurses := true, apart := false, narrowed := true }
def VaultKeepsUptoSaid : Prop := vaultKeepsUptoRow.holds Try.pinned (OpenSpec.upto vaultKeepsSpec)

/-- 'forepeaklaw10.VaultNobody', WHERE WHAT IT READS IS OF BULK AT MOST 1048576: true; the input reads as it did. -/
def vaultNobodyUptoRow : OpenClaim := { program := "ytmlgkahadgpaiaa", sum := "7e6956090b66de601649d7592580a2a6085a91380ccdfdfa054ff7451fa7529f", func := "forepeak/forepeaklaw10.VaultNobody", spec := "vaultNobody", unfollowed := true, recurses := true, apart := false, narrowed := true }
def VaultNobodyUptoSaid : Prop := vaultNobodyUptoRow.holds Try.pinned (OpenSpec.upto vaultNobodySpec)

/-- 'forepeaklaw09.JournalKeeps', WHERE WHAT IT READS IS OF BULK AT MOST 1048576: true; the input reads as it did. -/
def journalKeepsUptoRow : OpenClaim := { program := "ytmlgkahadgpaiaa", sum := "7e6956090b66de601649d7592580a2a6085a91380ccdfdfa054ff7451fa7529f", func := "forepeak/forepeaklaw09.JournalKeeps", spec := "journalKeeps", apart := false, narrowed := true }
def JournalKeepsUptoSaid : Prop := journalKeepsUptoRow.holds Try.pinned (OpenSpec.upto journalKeepsSpec)

/-- 'forepeaklaw09.JournalGens', WHERE WHAT IT READS IS OF BULK AT MOST 1048576: true; the input reads as it did. -/
def journalGensUptoRow : OpenClaim := { program := "ytmlgkahadgpaiaa", sum := "7e6956090b66de601649d7592580a2a6085a91380ccdfdfa054ff7451fa7529f", func := "forepeak/forepeaklaw09.JournalGens", spec := "journalGens", apart := false, narrowed := true }
def JournalGensUptoSaid : Prop := journalGensUptoRow.holds Try.pinned (OpenSpec.upto journalGensSpec)

/-- 'forepeaklaw09.JournalNobody', WHERE WHAT IT READS IS OF BULK AT MOST 1048576: true; the input reads as it did. -/
def journalNobodyUptoRow : OpenClaim := { program := "ytmlgkahadgpaiaa", sum := "7e6956090b66de601649d7592580a2a6085a91380ccdfdfa054ff7451fa7529f", func := "forepeak/forepeaklaw09.JournalNobody", spec := "journalNobody", apart := false, narrowed := true }
def JournalNobodyUptoSaid : Prop := journalNobodyUptoRow.holds Try.pinned (OpenSpec.upto journalNobodySpec)

/-- 'forepeaklaw10.VaultPlays', WHERE WHAT IT READS IS OF BULK AT MOST 1048576: true; the input reads as it did. -/
def vaultPlaysUptoRow : OpenClaim := { program := "ytmlgkahadgpaiaa", sum := "7e6956090b66de601649d7592580a2a6085a91380ccdfdfa054ff7451fa7529f", func := "forepeak/forepeaklaw10.VaultPlays", spec := "vaultPlays", unfollowed := true, recurses := true, apart := false, narrowed := true }
def VaultPlaysUptoSaid : Prop := vaultPlaysUptoRow.holds Try.pinned (OpenSpec.upto vaultPlaysSpec)

/-- 'forepeaklaw10.VaultSizes', WHERE WHAT IT READS IS OF BULK AT MOST 1048576: true; the input reads as it did. -/
def vaultSizesUptoRow : OpenClaim := { program := "ytmlgkahadgpaiaa", sum := "7e6956090b66de601649d7592580a2a6085a91380ccdfdfa054ff7451fa7529f", func := "forepeak/forepeaklaw10.VaultSizes", spec := "vaultSizes", unfollowed := true, recurses := true, apart := false, narrowed := true }
def VaultSizesUptoSaid : Prop := vaultSizesUptoRow.holds Try.pinned (OpenSpec.upto vaultSizesSpec)

end Rows
end Go.Proofs.Ytmlgkahadgpaiaa
