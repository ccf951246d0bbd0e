/-
  No cell of these rows narrows 'for every input' (looked for: loops, veiled, ifaces, maps, wideKeys, modest, calm, conditions, laid).
  DERIVED. THE GIVEN ROWS OF THIS SEAT. 9 by the template 'for every input the law returns true; each argument reads behind the call as it read before'; 0 by the template 'total and deterministic' (their statements: YtinommcocgnmlaaTotals.lean).
  GIVEN WITH THE SEED: the statements are not yours to turn. If you find one false, say at which input.
  Laid BY PROGRAM, IN A SANDBOX (cutbox-rows.mjs): the forced cells as the released guide's own fill.sh prints them over the translation 33fbe7452a755c40… (all of the seat's roots in one cut). By AI agents, Wed Nov 11 2026. No macro, syntax, notation, axiom, sorry.
-/
import Derived.Test.YtinommcocgnmlaaChecked
import GoSem.Claim
import GoSem.ClaimJoined
import GoSem.ClaimMapViews
import Derived.JoinedTies
import Derived.KernelRfl
namespace Go.Proofs.Ytinommcocgnmlaa
/- THE CELL 'sum', in the pinned program and in every row, IS THE sha256 OF THE DUMP (.gsa) THAT YtinommcocgnmlaaProg.lean LOADS. Nothing in Lean hashes anything: it is a label: what it is worth is what the hold of that sum in a sandbox is worth. -/
noncomputable def Try.pinned : Pinned := { name := "ytinommcocgnmlaa", sum := "33fbe7452a755c40cdba0b28fe8b77e82ae26557e720515a7e0d994fdc3e8348", checked := Try.checked }
namespace Rows
def none {H : Type} : Left H := { results := [], args := [] }

/-- 'forepeaklaw07.DiskPlays': WHATEVER THE INPUT: true; the input reads as it did. -/
def diskPlaysSpec : ChangeSpec := { name := "diskPlays", fn := fun _ => fun
  | [d1, d2] => { results := [.lit (.bool true)], args := [d1, d2] }
  | _ => none }
def diskPlaysRow : OpenClaim := { program := "ytinommcocgnmlaa", sum := "33fbe7452a755c40cdba0b28fe8b77e82ae26557e720515a7e0d994fdc3e8348", func := "forepeak/forepeaklaw07.DiskPlays", spec := "diskPlays", apart := false }
def DiskPlaysSaid : Prop := diskPlaysRow.holds Try.pinned (OpenSpec.ofChange diskPlaysSpec)

/-- ITS FALSE NEIGHBOUR: 'it returns false'. Refute it at one input. -/
def diskPlaysWrong : ChangeSpec := { name := "diskPlays", fn := fun _ => fun
  | [d1, d2] => { results := [.lit (.bool false)], args := [d1, d2] }
  | _ => none }
def DiskPlaysWrongFalsely : Prop := diskPlaysRow.holds Try.pinned (OpenSpec.ofChange diskPlaysWrong)

/-- 'forepeaklaw07.DiskKeeps': WHATEVER THE INPUT: true; the input reads as it did. -/
def diskKeepsSpec : ChangeSpec := { name := "diskKeeps", fn := fun _ => fun
  | [d] => { results := [.lit (.bool true)], args := [d] }
  | _ => none }
def diskKeepsRow : OpenClaim := { program := "ytinommcocgnmlaa", sum := "33fbe7452a755c40cdba0b28fe8b77e82ae26557e720515a7e0d994fdc3e8348", func := "forepeak/forepeaklaw07.DiskKeeps", spec := "diskKeeps", apart := false }
def DiskKeepsSaid : Prop := diskKeepsRow.holds Try.pinned (OpenSpec.ofChange diskKeepsSpec)

/-- ITS FALSE NEIGHBOUR: 'it returns false'. Refute it at one input. -/
def diskKeepsWrong : ChangeSpec := { name := "diskKeeps", fn := fun _ => fun
  | [d] => { results := [.lit (.bool false)], args := [d] }
  | _ => none }
def DiskKeepsWrongFalsely : Prop := diskKeepsRow.holds Try.pinned (OpenSpec.ofChange diskKeepsWrong)

/-- 'forepeaklaw18.TypingNodes': WHATEVER THE INPUT: true; the input reads as it did. -/
def typingNodesSpec : ChangeSpec := { name := "typingNodes", fn := fun _ => fun
  | [d1, d2] => { results := [.lit (.bool true)], args := [d1, d2] }
  | _ => none }
def typingNodesRow : OpenClaim := { program := "ytinommcocgnmlaa", sum := "33fbe7452a755c40cdba0b28fe8b77e82ae26557e720515a7e0d994fdc3e8348", func := "forepeak/forepeaklaw18.TypingNodes", spec := "typingNodes", apart := false }
def TypingNodesSaid : Prop := typingNodesRow.holds Try.pinned (OpenSpec.ofChange typingNodesSpec)

/-- ITS FALSE NEIGHBOUR: 'it returns false'. Refute it at one input. -/
def typingNodesWrong : ChangeSpec := { name := "typingNodes", fn := fun _ => fun
  | [d1, d2] => { results := [.lit (.bool false)], args := [d1, d2] }
  | _ => none }
def TypingNodesWrongFalsely : Prop := typingNodesRow.holds Try.pinned (OpenSpec.ofChange typingNodesWrong)

/-- 'forepeaklaw18.TypingTypes': WHATEVER THE INPUT: true; the input reads as it did. -/
def typingTypesSpec : ChangeSpec := { name := "typingTypes", fn := fun _ => fun
  | [d] => { results := [.lit (.bool true)], args := [d] }
  | _ => none }
def typingTypesRow : OpenClaim := { program := "ytinommcocgnmlaa", sum := "33fbe7452a755c40cdba0b28fe8b77e82ae26557e720515a7e0d994fdc3e8348", func := "forepeak/forepeaklaw18.TypingTypes", spec := "typingTypes", recurses := true, apart := false }
def TypingTypesSaid : Prop := typingTypesRow.holds Try.pinned (OpenSpec.ofChange typingTypesSpec)

/-- ITS FALSE NEIGHBOUR: 'it returns false'. Refute it at one input. -/
def typingTypesWrong : ChangeSpec := { name := "typingTypes", fn := fun _ => fun
  | [d] => { results := [.lit (.bool false)], args := [d] }
  | _ => none }
def TypingTypesWrongFalsely : Prop := typingTypesRow.holds Try.pinned (OpenSpec.ofChange typingTypesWrong)

/-- 'forepeaklaw24.FileTells': WHATEVER THE INPUT: true; the input reads as it did. -/
def fileTellsSpec : ChangeSpec := { name := "fileTells", fn := fun _ => fun
  | [d1, d2, d3] => { results := [.lit (.bool true)], args := [d1, d2, d3] }
  | _ => none }
def fileTellsRow : OpenClaim := { program := "ytinommcocgnmlaa", sum := "33fbe7452a755c40cdba0b28fe8b77e82ae26557e720515a7e0d994fdc3e8348", func := "forepeak/forepeaklaw24.FileTells", spec := "fileTells", inPlace := ["internal/abi.NoEscape", "internal/bytealg.MakeNoZero"], apart := false }
def FileTellsSaid : Prop := fileTellsRow.holds Try.pinned (OpenSpec.ofChange fileTellsSpec)

/-- ITS FALSE NEIGHBOUR: 'it returns false'. Refute it at one input. -/
def fileTellsWrong : ChangeSpec := { name := "fileTells", fn := fun _ => fun
  | [d1, d2, d3] => { results := [.lit (.bool false)], args := [d1, d2, d3] }
  | _ => none }
def FileTellsWrongFalsely : Prop := fileTellsRow.holds Try.pinned (OpenSpec.ofChange fileTellsWrong)

/-- 'forepeaklaw24.FilePieces': WHATEVER THE INPUT: true; the input reads as it did. -/
def filePiecesSpec : ChangeSpec := { name := "filePieces", fn := fun _ => fun
  | [d] => { results := [.lit (.bool true)], args := [d] }
  | _ => none }
def filePiecesRow : OpenClaim := { program := "ytinommcocgnmlaa", sum := "33fbe7452a755c40cdba0b28fe8b77e82ae26557e720515a7e0d994fdc3e8348", func := "forepeak/forepeaklaw24.FilePieces", spec := "filePieces", inPlace := ["internal/abi.NoEscape", "internal/bytealg.MakeNoZero"], apart := false }
def FilePiecesSaid : Prop := filePiecesRow.holds Try.pinned (OpenSpec.ofChange filePiecesSpec)

/-- ITS FALSE NEIGHBOUR: 'it returns false'. Refute it at one input. -/
def filePiecesWrong : ChangeSpec := { name := "filePieces", fn := fun _ => fun
  | [d] => { results := [.lit (.bool false)], args := [d] }
  | _ => none }
def FilePiecesWrongFalsely : Prop := filePiecesRow.holds Try.pinned (OpenSpec.ofChange filePiecesWrong)

/-- 'forepeaklaw18.TypingParts': WHATEVER THE INPUT: true; the input reads as it did. -/
def typingPartsSpec : ChangeSpec := { name := "typingParts", fn := fun _ => fun
  | [d] => { results := [.lit (.bool true)], args := [d] }
  | _ => none }
def typingPartsRow : OpenClaim := { program := "ytinommcocgnmlaa", sum := "33fbe7452a755c40cdba0b28fe8b77e82ae26557e720515a7e0d994fdc3e8348", func := "forepeak/forepeaklaw18.TypingParts", spec := "typingParts", apart := false }
def TypingPartsSaid : Prop := typingPartsRow.holds Try.pinned (OpenSpec.ofChange typingPartsSpec)

/-- ITS FALSE NEIGHBOUR: 'it returns false'. Refute it at one input. -/
def typingPartsWrong : ChangeSpec := { name := "typingParts", fn := fun _ => fun
  | [d] => { results := [.lit (.bool false)], args := [d] }
  | _ => none }
def TypingPartsWrongFalsely : Prop := typingPartsRow.holds Try.pinned (OpenSpec.ofChange typingPartsWrong)

/-- 'forepeaklaw07.DiskTears': WHATEVER THE INPUT: true; the input reads as it did. -/
def diskTearsSpec : ChangeSpec := { name := "diskTears", fn := fun _ => fun
  | [d1, d2, d3, d4] => { results := [.lit (.bool true)], args := [d1, d2, d3, d4] }
  | _ => none }
def diskTearsRow : OpenClaim := { program := "ytinommcocgnmlaa", sum := "33fbe7452a755c40cdba0b28fe8b77e82ae26557e720515a7e0d994fdc3e8348", func := "forepeak/forepeaklaw07.DiskTears", spec := "diskTears", apart := false }
def DiskTearsSaid : Prop := diskTearsRow.holds Try.pinned (OpenSpec.ofChange diskTearsSpec)

/-- ITS FALSE NEIGHBOUR: 'it returns false'. Refute it at one input. -/
def diskTearsWrong : ChangeSpec := { name := "diskTears", fn := fun _ => fun
  | [d1, d2, d3, d4] => { results := [.lit (.bool false)], args := [d1, d2, d3, d4] }
  | _ => none }
def DiskTearsWrongFalsely : Prop := diskTearsRow.holds Try.pinned (OpenSpec.ofChange diskTearsWrong)

/-- 'forepeaklaw07.DiskNobody': WHATEVER THE INPUT: true; the input reads as it did. -/
def diskNobodySpec : ChangeSpec := { name := "diskNobody", fn := fun _ => fun
  | [d] => { results := [.lit (.bool true)], args := [d] }
  | _ => none }
def diskNobodyRow : OpenClaim := { program := "ytinommcocgnmlaa", sum := "33fbe7452a755c40cdba0b28fe8b77e82ae26557e720515a7e0d994fdc3e8348", func := "forepeak/forepeaklaw07.DiskNobody", spec := "diskNobody", apart := false }
def DiskNobodySaid : Prop := diskNobodyRow.holds Try.pinned (OpenSpec.ofChange diskNobodySpec)

/-- ITS FALSE NEIGHBOUR: 'it returns false'. Refute it at one input. -/
def diskNobodyWrong : ChangeSpec := { name := "diskNobody", fn := fun _ => fun
  | [d] => { results := [.lit (.bool false)], args := [d] }
  | _ => none }
def DiskNobodyWrongFalsely : Prop := diskNobodyRow.holds Try.pinned (OpenSpec.ofChange diskNobodyWrong)

/- THE SECOND FORM. 'bulk': how many values and letters a reading holds, each counted each time it is reached (what is shared counts as often as it is met; a slice's spare places count too). A statement '..UptoSaid' is the law's where the arguments, and the package variables that the reading takes, are together of bulk at most 1048576: NARROWER than '..Said'. Prove '..Said' where nothing that the law and all that it calls make is longer than what came in: it says more and counts as full. Else prove '..UptoSaid'. A law counts once. -/
mutual
def uptoBulk {H : Type} : DataW H → Nat
  | .lit (.string bytes) => bytes.length + 1
  | .lit _ => 1
  | .nil => 1
  | .ptr d => uptoBulk d + 1
  | .slice elems spare => uptoBulkAll elems + uptoBulkAll spare + 1
  | .agg parts => uptoBulkAll parts + 1
  | .iface _ d => uptoBulk d + 1
  | .map entries => uptoBulkEntries entries + 1
  | .held _ => 1
def uptoBulkAll {H : Type} : List (DataW H) → Nat
  | [] => 0
  | d :: r => uptoBulk d + uptoBulkAll r
def uptoBulkEntries {H : Type} : List (Lit × DataW H) → Nat
  | [] => 0
  | x :: r => uptoBulkEntry x + uptoBulkEntries r
def uptoBulkEntry {H : Type} : Lit × DataW H → Nat
  | (.string bytes, d) => bytes.length + uptoBulk d + 1
  | (_, d) => uptoBulk d + 1
 end
def uptoSmall : (H : Type) → List (DataW H) → Bool := fun _ ds => decide (uptoBulkAll ds ≤ 1048576)
def OpenSpec.upto (s : _root_.Go.ChangeSpec) : _root_.Go.OpenSpec := { _root_.Go.OpenSpec.ofChange s with cond := some uptoSmall }

/-- 'forepeaklaw07.DiskPlays', WHERE WHAT IT READS IS OF BULK AT MOST 1048576: true; the input reads as it did. -/
def diskPlaysUptoRow : OpenClaim := { program := "ytinommcocgnmlaa", sum := "33fbe7452a755c40cdba0b28fe8b77e82ae26557e720515a7e0d994fdc3e8348", func := "forepeak/forepeaklaw07.DiskPlays", spec := "diskPlays", apart := false, narrowed := true }
def DiskPlaysUptoSaid : Prop := diskPlaysUptoRow.holds Try.pinned (OpenSpec.upto diskPlaysSpec)

/-- 'forepeaklaw07.DiskKeeps', WHERE WHAT IT READS IS OF BULK AT MOST 1048576: true; the input reads as it did. -/
def diskKeepsUptoRow : OpenClaim := { program := "ytinommcocgnmlaa", sum := "33fbe7452a755c40cdba0b28fe8b77e82ae26557e720515a7e0d994fdc3e8348", func := "forepeak/forepeaklaw07.DiskKeeps", spec := "diskKeeps", apart := false, narrowed := true }
def DiskKeepsUptoSaid : Prop := diskKeepsUptoRow.holds Try.pinned (OpenSpec.upto diskKeepsSpec)

/-- 'forepeaklaw18.TypingNodes', WHERE WHAT IT READS IS OF BULK AT MOST 1048576: true; the input reads as it did. -/
def typingNodesUptoRow : OpenClaim := { program := "ytinommcocgnmlaa", sum := "33fbe7452a755c40cdba0b28fe8b77e82ae26557e720515a7e0d994fdc3e8348", func := "forepeak/forepeaklaw18.TypingNodes", spec := "typingNodes", apart := false, narrowed := true }
def TypingNodesUptoSaid : Prop := typingNodesUptoRow.holds Try.pinned (OpenSpec.upto typingNodesSpec)

/-- 'forepeaklaw18.TypingTypes', WHERE WHAT IT READS IS OF BULK AT MOST 1048576: true; the input reads as it did. -/
def typingTypesUptoRow : OpenClaim := { program := "ytinommcocgnmlaa", sum := "33fbe7452a755c40cdba0b28fe8b77e82ae26557e720515a7e0d994fdc3e8348", func := "forepeak/forepeaklaw18.TypingTypes", spec := "typingTypes", recurses := true, apart := false, narrowed := true }
def TypingTypesUptoSaid : Prop := typingTypesUptoRow.holds Try.pinned (OpenSpec.upto typingTypesSpec)

/-- 'forepeaklaw24.FileTells', WHERE WHAT IT READS IS OF BULK AT MOST 1048576: true; the input reads as it did. -/
def fileTellsUptoRow : OpenClaim := { program := "ytinommcocgnmlaa", sum := "33fbe7452a755c40cdba0b28fe8b77e82ae26557e720515a7e0d994fdc3e8348", func := "forepeak/forepeaklaw24.FileTells", spec := "fileTells", inPlace := ["internal/abi.NoEscape", "internal/bytealg.MakeNoZero"], apart := false, narrowed := true }
def FileTellsUptoSaid : Prop := fileTellsUptoRow.holds Try.pinned (OpenSpec.upto fileTellsSpec)

/-- 'forepeaklaw24.FilePieces', WHERE WHAT IT READS IS OF BULK AT MOST 1048576: true; the input reads as it did. -/
def filePiecesUptoRow : OpenClaim := { program := "ytinommcocgnmlaa", sum := "33fbe7452a755c40cdba0b28fe8b77e82ae26557e720515a7e0d994fdc3e8348", func := "forepeak/forepeaklaw24.FilePieces", spec := "filePieces", inPlace := ["internal/abi.NoEscape", "internal/bytealg.MakeNoZero"], apart := false, narrowed := true }
def FilePiecesUptoSaid : Prop := filePiecesUptoRow.holds Try.pinned (OpenSpec.upto filePiecesSpec)

/-- 'forepeaklaw18.TypingParts', WHERE WHAT IT READS IS OF BULK AT MOST 1048576: true; the input reads as it did. -/
def typingPartsUptoRow : OpenClaim := { program := "ytinommcocgnmlaa", sum := "33fbe7452a755c40cdba0b28fe8b77e82ae26557e720515a7e0d994fdc3e8348", func := "forepeak/forepeaklaw18.TypingParts", spec := "typingParts", apart := false, narrowed := true }
def TypingPartsUptoSaid : Prop := typingPartsUptoRow.holds Try.pinned (OpenSpec.upto typingPartsSpec)

/-- 'forepeaklaw07.DiskTears', WHERE WHAT IT READS IS OF BULK AT MOST 1048576: true; the input reads as it did. -/
def diskTearsUptoRow : OpenClaim := { program := "ytinommcocgnmlaa", sum := "33fbe7452a755c40cdba0b28fe8b77e82ae26557e720515a7e0d994fdc3e8348", func := "forepeak/forepeaklaw07.DiskTears", spec := "diskTears", apart := false, narrowed := true }
def DiskTearsUptoSaid : Prop := diskTearsUptoRow.holds Try.pinned (OpenSpec.upto diskTearsSpec)

/-- 'forepeaklaw07.DiskNobody', WHERE WHAT IT READS IS OF BULK AT MOST 1048576: true; the input reads as it did. -/
def diskNobodyUptoRow : OpenClaim := { program := "ytinommcocgnmlaa", sum := "33fbe7452a755c40cdba0b28fe8b77e82ae26557e720515a7e0d994fdc3e8348", func := "forepeak/forepeaklaw07.DiskNobody", spec := "diskNobody", apart := false, narrowed := true }
def DiskNobodyUptoSaid : Prop := diskNobodyUptoRow.holds Try.pinned (OpenSpec.upto diskNobodySpec)

end Rows
end Go.Proofs.Ytinommcocgnmlaa
