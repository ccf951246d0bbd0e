/-
  No cell of these rows narrows 'for every input' (looked for: loops, veiled, ifaces, maps, wideKeys, modest, calm, conditions, laid).
  DERIVED. THE GIVEN ROWS OF THIS SEAT. 7 by the template 'for every input the law returns true; each argument reads behind the call as it read before'; 0 by the template 'total and deterministic' (their statements: YtdamljjbeaomoaaTotals.lean).
  GIVEN WITH THE SEED: the statements are not yours to turn. If you find one false, say at which input.
  Laid BY PROGRAM, IN A SANDBOX (cutbox-rows.mjs): the forced cells as the released guide's own fill.sh prints them over the translation 41c69429179d2107… (all of the seat's roots in one cut). By AI agents, Wed Nov 11 2026. No macro, syntax, notation, axiom, sorry.
-/
import Derived.Test.YtdamljjbeaomoaaChecked
import GoSem.Claim
import GoSem.ClaimJoined
import GoSem.ClaimMapViews
import Derived.JoinedTies
import Derived.KernelRfl
namespace Go.Proofs.Ytdamljjbeaomoaa
/- THE CELL 'sum', in the pinned program and in every row, IS THE sha256 OF THE DUMP (.gsa) THAT YtdamljjbeaomoaaProg.lean LOADS. Nothing in Lean hashes anything: it is a label: what it is worth is what the hold of that sum in a sandbox is worth. -/
noncomputable def Try.pinned : Pinned := { name := "ytdamljjbeaomoaa", sum := "41c69429179d210737c17ad08470e081cff2264c8979a81b67920bf4ee1c6e80", checked := Try.checked }
namespace Rows
def none {H : Type} : Left H := { results := [], args := [] }

/-- 'forepeaklaw03.CapsTells': WHATEVER THE INPUT: true; the input reads as it did. -/
def capsTellsSpec : ChangeSpec := { name := "capsTells", fn := fun _ => fun
  | [d1, d2, d3] => { results := [.lit (.bool true)], args := [d1, d2, d3] }
  | _ => none }
def capsTellsRow : OpenClaim := { program := "ytdamljjbeaomoaa", sum := "41c69429179d210737c17ad08470e081cff2264c8979a81b67920bf4ee1c6e80", func := "forepeak/forepeaklaw03.CapsTells", spec := "capsTells", apart := false }
def CapsTellsSaid : Prop := capsTellsRow.holds Try.pinned (OpenSpec.ofChange capsTellsSpec)

/-- ITS FALSE NEIGHBOUR: 'it returns false'. Refute it at one input. -/
def capsTellsWrong : ChangeSpec := { name := "capsTells", fn := fun _ => fun
  | [d1, d2, d3] => { results := [.lit (.bool false)], args := [d1, d2, d3] }
  | _ => none }
def CapsTellsWrongFalsely : Prop := capsTellsRow.holds Try.pinned (OpenSpec.ofChange capsTellsWrong)

/-- 'forepeaklaw03.CapsChanges': WHATEVER THE INPUT: true; the input reads as it did. -/
def capsChangesSpec : ChangeSpec := { name := "capsChanges", fn := fun _ => fun
  | [d1, d2, d3, d4] => { results := [.lit (.bool true)], args := [d1, d2, d3, d4] }
  | _ => none }
def capsChangesRow : OpenClaim := { program := "ytdamljjbeaomoaa", sum := "41c69429179d210737c17ad08470e081cff2264c8979a81b67920bf4ee1c6e80", func := "forepeak/forepeaklaw03.CapsChanges", spec := "capsChanges", apart := false }
def CapsChangesSaid : Prop := capsChangesRow.holds Try.pinned (OpenSpec.ofChange capsChangesSpec)

/-- ITS FALSE NEIGHBOUR: 'it returns false'. Refute it at one input. -/
def capsChangesWrong : ChangeSpec := { name := "capsChanges", fn := fun _ => fun
  | [d1, d2, d3, d4] => { results := [.lit (.bool false)], args := [d1, d2, d3, d4] }
  | _ => none }
def CapsChangesWrongFalsely : Prop := capsChangesRow.holds Try.pinned (OpenSpec.ofChange capsChangesWrong)

/-- 'forepeaklaw03.CapsMore': WHATEVER THE INPUT: true; the input reads as it did. -/
def capsMoreSpec : ChangeSpec := { name := "capsMore", fn := fun _ => fun
  | [d1, d2, d3, d4] => { results := [.lit (.bool true)], args := [d1, d2, d3, d4] }
  | _ => none }
def capsMoreRow : OpenClaim := { program := "ytdamljjbeaomoaa", sum := "41c69429179d210737c17ad08470e081cff2264c8979a81b67920bf4ee1c6e80", func := "forepeak/forepeaklaw03.CapsMore", spec := "capsMore", apart := false }
def CapsMoreSaid : Prop := capsMoreRow.holds Try.pinned (OpenSpec.ofChange capsMoreSpec)

/-- ITS FALSE NEIGHBOUR: 'it returns false'. Refute it at one input. -/
def capsMoreWrong : ChangeSpec := { name := "capsMore", fn := fun _ => fun
  | [d1, d2, d3, d4] => { results := [.lit (.bool false)], args := [d1, d2, d3, d4] }
  | _ => none }
def CapsMoreWrongFalsely : Prop := capsMoreRow.holds Try.pinned (OpenSpec.ofChange capsMoreWrong)

/-- 'forepeaklaw03.CapsByHand': WHATEVER THE INPUT: true; the input reads as it did. -/
def capsByHandSpec : ChangeSpec := { name := "capsByHand", fn := fun _ => fun
  | [d1, d2, d3] => { results := [.lit (.bool true)], args := [d1, d2, d3] }
  | _ => none }
def capsByHandRow : OpenClaim := { program := "ytdamljjbeaomoaa", sum := "41c69429179d210737c17ad08470e081cff2264c8979a81b67920bf4ee1c6e80", func := "forepeak/forepeaklaw03.CapsByHand", spec := "capsByHand", apart := false }
def CapsByHandSaid : Prop := capsByHandRow.holds Try.pinned (OpenSpec.ofChange capsByHandSpec)

/-- ITS FALSE NEIGHBOUR: 'it returns false'. Refute it at one input. -/
def capsByHandWrong : ChangeSpec := { name := "capsByHand", fn := fun _ => fun
  | [d1, d2, d3] => { results := [.lit (.bool false)], args := [d1, d2, d3] }
  | _ => none }
def CapsByHandWrongFalsely : Prop := capsByHandRow.holds Try.pinned (OpenSpec.ofChange capsByHandWrong)

/-- 'forepeaklaw06.CrcSums': WHATEVER THE INPUT: true; the input reads as it did. -/
def crcSumsSpec : ChangeSpec := { name := "crcSums", fn := fun _ => fun
  | [d] => { results := [.lit (.bool true)], args := [d] }
  | _ => none }
def crcSumsRow : OpenClaim := { program := "ytdamljjbeaomoaa", sum := "41c69429179d210737c17ad08470e081cff2264c8979a81b67920bf4ee1c6e80", func := "forepeak/forepeaklaw06.CrcSums", spec := "crcSums", apart := false }
def CrcSumsSaid : Prop := crcSumsRow.holds Try.pinned (OpenSpec.ofChange crcSumsSpec)

/-- ITS FALSE NEIGHBOUR: 'it returns false'. Refute it at one input. -/
def crcSumsWrong : ChangeSpec := { name := "crcSums", fn := fun _ => fun
  | [d] => { results := [.lit (.bool false)], args := [d] }
  | _ => none }
def CrcSumsWrongFalsely : Prop := crcSumsRow.holds Try.pinned (OpenSpec.ofChange crcSumsWrong)

/-- 'forepeaklaw06.CrcSeals': WHATEVER THE INPUT: true; the input reads as it did. -/
def crcSealsSpec : ChangeSpec := { name := "crcSeals", fn := fun _ => fun
  | [d] => { results := [.lit (.bool true)], args := [d] }
  | _ => none }
def crcSealsRow : OpenClaim := { program := "ytdamljjbeaomoaa", sum := "41c69429179d210737c17ad08470e081cff2264c8979a81b67920bf4ee1c6e80", func := "forepeak/forepeaklaw06.CrcSeals", spec := "crcSeals", apart := false }
def CrcSealsSaid : Prop := crcSealsRow.holds Try.pinned (OpenSpec.ofChange crcSealsSpec)

/-- ITS FALSE NEIGHBOUR: 'it returns false'. Refute it at one input. -/
def crcSealsWrong : ChangeSpec := { name := "crcSeals", fn := fun _ => fun
  | [d] => { results := [.lit (.bool false)], args := [d] }
  | _ => none }
def CrcSealsWrongFalsely : Prop := crcSealsRow.holds Try.pinned (OpenSpec.ofChange crcSealsWrong)

/-- 'forepeaklaw06.CrcTurned': WHATEVER THE INPUT: true; the input reads as it did. -/
def crcTurnedSpec : ChangeSpec := { name := "crcTurned", fn := fun _ => fun
  | [d1, d2, d3] => { results := [.lit (.bool true)], args := [d1, d2, d3] }
  | _ => none }
def crcTurnedRow : OpenClaim := { program := "ytdamljjbeaomoaa", sum := "41c69429179d210737c17ad08470e081cff2264c8979a81b67920bf4ee1c6e80", func := "forepeak/forepeaklaw06.CrcTurned", spec := "crcTurned", apart := false }
def CrcTurnedSaid : Prop := crcTurnedRow.holds Try.pinned (OpenSpec.ofChange crcTurnedSpec)

/-- ITS FALSE NEIGHBOUR: 'it returns false'. Refute it at one input. -/
def crcTurnedWrong : ChangeSpec := { name := "crcTurned", fn := fun _ => fun
  | [d1, d2, d3] => { results := [.lit (.bool false)], args := [d1, d2, d3] }
  | _ => none }
def CrcTurnedWrongFalsely : Prop := crcTurnedRow.holds Try.pinned (OpenSpec.ofChange crcTurnedWrong)

/- THE SECOND FORM. 'bulk': how many values and letters a reading holds, each counted each time it is reached (what is shared counts as often as it is met; a slice's spare places count too). A statement '..UptoSaid' is the law's where the arguments, and the package variables that the reading takes, are together of bulk at most 1048576: NARROWER than '..Said'. Prove '..Said' where nothing that the law and all that it calls make is longer than what came in: it says more and counts as full. Else prove '..UptoSaid'. A law counts once. -/
mutual
def uptoBulk {H : Type} : DataW H → Nat
  | .lit (.string bytes) => bytes.length + 1
  | .lit _ => 1
  | .nil => 1
  | .ptr d => uptoBulk d + 1
  | .slice elems spare => uptoBulkAll elems + uptoBulkAll spare + 1
  | .agg parts => uptoBulkAll parts + 1
  | .iface _ d => uptoBulk d + 1
  | .map entries => uptoBulkEntries entries + 1
  | .held _ => 1
def uptoBulkAll {H : Type} : List (DataW H) → Nat
  | [] => 0
  | d :: r => uptoBulk d + uptoBulkAll r
def uptoBulkEntries {H : Type} : List (Lit × DataW H) → Nat
  | [] => 0
  | x :: r => uptoBulkEntry x + uptoBulkEntries r
def uptoBulkEntry {H : Type} : Lit × DataW H → Nat
  | (.string bytes, d) => bytes.length + uptoBulk d + 1
  | (_, d) => uptoBulk d + 1
 end
def uptoSmall : (H : Type) → List (DataW H) → Bool := fun _ ds => decide (uptoBulkAll ds ≤ 1048576)
def OpenSpec.upto (s : _root_.Go.ChangeSpec) : _root_.Go.OpenSpec := { _root_.Go.OpenSpec.ofChange s with cond := some uptoSmall }

/-- 'forepeaklaw03.CapsTells', WHERE WHAT IT READS IS OF BULK AT MOST 1048576: true; the input reads as it did. -/
def capsTellsUptoRow : OpenClaim := { program := "ytdamljjbeaomoaa", sum := "41c69429179d210737c17ad08470e081cff2264c8979a81b67920bf4ee1c6e80", func := "forepeak/forepeaklaw03.CapsTells", spec := "capsTells", apart := false, narrowed := true }
def CapsTellsUptoSaid : Prop := capsTellsUptoRow.holds Try.pinned (OpenSpec.upto capsTellsSpec)

/-- 'forepeaklaw03.CapsChanges', WHERE WHAT IT READS IS OF BULK AT MOST 1048576: true; the input reads as it did. -/
def capsChangesUptoRow : OpenClaim := { program := "ytdamljjbeaomoaa", sum := "41c69429179d210737c17ad08470e081cff2264c8979a81b67920bf4ee1c6e80", func := "forepeak/forepeaklaw03.CapsChanges", spec := "capsChanges", apart := false, narrowed := true }
def CapsChangesUptoSaid : Prop := capsChangesUptoRow.holds Try.pinned (OpenSpec.upto capsChangesSpec)

/-- 'forepeaklaw03.CapsMore', WHERE WHAT IT READS IS OF BULK AT MOST 1048576: true; the input reads as it did. -/
def capsMoreUptoRow : OpenClaim := { program := "ytdamljjbeaomoaa", sum := "41c69429179d210737c17ad08470e081cff2264c8979a81b67920bf4ee1c6e80", func := "forepeak/forepeaklaw03.CapsMore", spec := "capsMore", apart := false, narrowed := true }
def CapsMoreUptoSaid : Prop := capsMoreUptoRow.holds Try.pinned (OpenSpec.upto capsMoreSpec)

/-- 'forepeaklaw03.CapsByHand', WHERE WHAT IT READS IS OF BULK AT MOST 1048576: true; the input reads as it did. -/
def capsByHandUptoRow : OpenClaim := { program := "ytdamljjbeaomoaa", sum := "41c69429179d210737c17ad08470e081cff2264c8979a81b67920bf4ee1c6e80", func := "forepeak/forepeaklaw03.CapsByHand", spec := "capsByHand", apart := false, narrowed := true }
def CapsByHandUptoSaid : Prop := capsByHandUptoRow.holds Try.pinned (OpenSpec.upto capsByHandSpec)

/-- 'forepeaklaw06.CrcSums', WHERE WHAT IT READS IS OF BULK AT MOST 1048576: true; the input reads as it did. -/
def crcSumsUptoRow : OpenClaim := { program := "ytdamljjbeaomoaa", sum := "41c69429179d210737c17ad08470e081cff2264c8979a81b67920bf4ee1c6e80", func := "forepeak/forepeaklaw06.CrcSums", spec := "crcSums", apart := false, narrowed := true }
def CrcSumsUptoSaid : Prop := crcSumsUptoRow.holds Try.pinned (OpenSpec.upto crcSumsSpec)

/-- 'forepeaklaw06.CrcSeals', WHERE WHAT IT READS IS OF BULK AT MOST 1048576: true; the input reads as it did. -/
def crcSealsUptoRow : OpenClaim := { program := "ytdamljjbeaomoaa", sum := "41c69429179d210737c17ad08470e081cff2264c8979a81b67920bf4ee1c6e80", func := "forepeak/forepeaklaw06.CrcSeals", spec := "crcSeals", apart := false, narrowed := true }
def CrcSealsUptoSaid : Prop := crcSealsUptoRow.holds Try.pinned (OpenSpec.upto crcSealsSpec)

/-- 'forepeaklaw06.CrcTurned', WHERE WHAT IT READS IS OF BULK AT MOST 1048576: true; the input reads as it did. -/
def crcTurnedUptoRow : OpenClaim := { program := "ytdamljjbeaomoaa", sum := "41c69429179d210737c17ad08470e081cff2264c8979a81b67920bf4ee1c6e80", func := "forepeak/forepeaklaw06.CrcTurned", spec := "crcTurned", apart := false, narrowed := true }
def CrcTurnedUptoSaid : Prop := crcTurnedUptoRow.holds Try.pinned (OpenSpec.upto crcTurnedSpec)

end Rows
end Go.Proofs.Ytdamljjbeaomoaa
