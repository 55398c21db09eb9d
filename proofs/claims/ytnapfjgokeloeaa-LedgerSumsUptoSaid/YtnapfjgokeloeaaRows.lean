/-
  No cell of these rows narrows 'for every input' (looked for: loops, veiled, ifaces, maps, wideKeys, modest, calm, conditions, laid).
  DERIVED. THE GIVEN ROWS OF THIS SEAT. 5 by the template 'for every input the law returns true; each argument reads behind the call as it read before'; 0 by the template 'total and deterministic' (their statements: YtnapfjgokeloeaaTotals.lean).
  GIVEN WITH THE SEED: the statements are not yours to turn. If you find one false, say at which input.
  Laid BY PROGRAM, IN A SANDBOX (cutbox-rows.mjs): the forced cells as the released guide's own fill.sh prints them over the translation 4af9944943d57fdd… (all of the seat's roots in one cut). By AI agents, Wed Nov 11 2026. No macro, syntax, notation, axiom, sorry.
-/
import Derived.Test.YtnapfjgokeloeaaChecked
import GoSem.Claim
import GoSem.ClaimJoined
import GoSem.ClaimMapViews
import Derived.JoinedTies
import Derived.KernelRfl
namespace Go.Proofs.Ytnapfjgokeloeaa
/- THE CELL 'sum', in the pinned program and in every row, IS THE sha256 OF THE DUMP (.gsa) THAT YtnapfjgokeloeaaProg.lean LOADS. Nothing in Lean hashes anything: it is a label: what it is worth is what the hold of that sum in a sandbox is worth. -/
noncomputable def Try.pinned : Pinned := { name := "ytnapfjgokeloeaa", sum := "4af9944943d57fddf29ad7a5ffe9a6059afd6693ca31940fe6ff7022479ba0c7", checked := Try.checked }
namespace Rows
def none {H : Type} : Left H := { results := [], args := [] }

/-- 'cabstandlaw23.LedgerSums': WHATEVER THE INPUT: true; the input reads as it did. -/
def ledgerSumsSpec : ChangeSpec := { name := "ledgerSums", fn := fun _ => fun
  | [d] => { results := [.lit (.bool true)], args := [d] }
  | _ => none }
def ledgerSumsRow : OpenClaim := { program := "ytnapfjgokeloeaa", sum := "4af9944943d57fddf29ad7a5ffe9a6059afd6693ca31940fe6ff7022479ba0c7", func := "cabstand/cabstandlaw23.LedgerSums", spec := "ledgerSums", inPlace := ["internal/bytealg.Compare"], unfollowed := true, recurses := true, plainKeys := false, apart := false }
def LedgerSumsSaid : Prop := ledgerSumsRow.holds Try.pinned (OpenSpec.ofChange ledgerSumsSpec)

/-- ITS FALSE NEIGHBOUR: 'it returns false'. Refute it at one input. -/
def ledgerSumsWrong : ChangeSpec := { name := "ledgerSums", fn := fun _ => fun
  | [d] => { results := [.lit (.bool false)], args := [d] }
  | _ => none }
def LedgerSumsWrongFalsely : Prop := ledgerSumsRow.holds Try.pinned (OpenSpec.ofChange ledgerSumsWrong)

/-- 'cabstandlaw23.LedgerSettled': WHATEVER THE INPUT: true; the input reads as it did. -/
def ledgerSettledSpec : ChangeSpec := { name := "ledgerSettled", fn := fun _ => fun
  | [d] => { results := [.lit (.bool true)], args := [d] }
  | _ => none }
def ledgerSettledRow : OpenClaim := { program := "ytnapfjgokeloeaa", sum := "4af9944943d57fddf29ad7a5ffe9a6059afd6693ca31940fe6ff7022479ba0c7", func := "cabstand/cabstandlaw23.LedgerSettled", spec := "ledgerSettled", inPlace := ["internal/bytealg.Compare"], unfollowed := true, recurses := true, plainKeys := false, apart := false }
def LedgerSettledSaid : Prop := ledgerSettledRow.holds Try.pinned (OpenSpec.ofChange ledgerSettledSpec)

/-- ITS FALSE NEIGHBOUR: 'it returns false'. Refute it at one input. -/
def ledgerSettledWrong : ChangeSpec := { name := "ledgerSettled", fn := fun _ => fun
  | [d] => { results := [.lit (.bool false)], args := [d] }
  | _ => none }
def LedgerSettledWrongFalsely : Prop := ledgerSettledRow.holds Try.pinned (OpenSpec.ofChange ledgerSettledWrong)

/-- 'cabstandlaw23.LedgerWhole': WHATEVER THE INPUT: true; the input reads as it did. -/
def ledgerWholeSpec : ChangeSpec := { name := "ledgerWhole", fn := fun _ => fun
  | [d1, d2] => { results := [.lit (.bool true)], args := [d1, d2] }
  | _ => none }
def ledgerWholeRow : OpenClaim := { program := "ytnapfjgokeloeaa", sum := "4af9944943d57fddf29ad7a5ffe9a6059afd6693ca31940fe6ff7022479ba0c7", func := "cabstand/cabstandlaw23.LedgerWhole", spec := "ledgerWhole", inPlace := ["internal/bytealg.Compare"], unfollowed := true, recurses := true, plainKeys := false, apart := false }
def LedgerWholeSaid : Prop := ledgerWholeRow.holds Try.pinned (OpenSpec.ofChange ledgerWholeSpec)

/-- ITS FALSE NEIGHBOUR: 'it returns false'. Refute it at one input. -/
def ledgerWholeWrong : ChangeSpec := { name := "ledgerWhole", fn := fun _ => fun
  | [d1, d2] => { results := [.lit (.bool false)], args := [d1, d2] }
  | _ => none }
def LedgerWholeWrongFalsely : Prop := ledgerWholeRow.holds Try.pinned (OpenSpec.ofChange ledgerWholeWrong)

/-- 'cabstandlaw23.LedgerAnew': WHATEVER THE INPUT: true; the input reads as it did. -/
def ledgerAnewSpec : ChangeSpec := { name := "ledgerAnew", fn := fun _ => fun
  | [d] => { results := [.lit (.bool true)], args := [d] }
  | _ => none }
def ledgerAnewRow : OpenClaim := { program := "ytnapfjgokeloeaa", sum := "4af9944943d57fddf29ad7a5ffe9a6059afd6693ca31940fe6ff7022479ba0c7", func := "cabstand/cabstandlaw23.LedgerAnew", spec := "ledgerAnew", inPlace := ["internal/bytealg.Compare"], unfollowed := true, recurses := true, plainKeys := false, apart := false }
def LedgerAnewSaid : Prop := ledgerAnewRow.holds Try.pinned (OpenSpec.ofChange ledgerAnewSpec)

/-- ITS FALSE NEIGHBOUR: 'it returns false'. Refute it at one input. -/
def ledgerAnewWrong : ChangeSpec := { name := "ledgerAnew", fn := fun _ => fun
  | [d] => { results := [.lit (.bool false)], args := [d] }
  | _ => none }
def LedgerAnewWrongFalsely : Prop := ledgerAnewRow.holds Try.pinned (OpenSpec.ofChange ledgerAnewWrong)

/-- 'cabstandlaw23.LedgerNames': WHATEVER THE INPUT: true; the input reads as it did. -/
def ledgerNamesSpec : ChangeSpec := { name := "ledgerNames", fn := fun _ => fun
  | [] => { results := [.lit (.bool true)], args := [] }
  | _ => none }
def ledgerNamesRow : OpenClaim := { program := "ytnapfjgokeloeaa", sum := "4af9944943d57fddf29ad7a5ffe9a6059afd6693ca31940fe6ff7022479ba0c7", func := "cabstand/cabstandlaw23.LedgerNames", spec := "ledgerNames", inPlace := ["internal/bytealg.Compare"], unfollowed := true, recurses := true, plainKeys := false, apart := false }
def LedgerNamesSaid : Prop := ledgerNamesRow.holds Try.pinned (OpenSpec.ofChange ledgerNamesSpec)

/-- ITS FALSE NEIGHBOUR: 'it returns false'. Refute it at one input. -/
def ledgerNamesWrong : ChangeSpec := { name := "ledgerNames", fn := fun _ => fun
  | [] => { results := [.lit (.bool false)], args := [] }
  | _ => none }
def LedgerNamesWrongFalsely : Prop := ledgerNamesRow.holds Try.pinned (OpenSpec.ofChange ledgerNamesWrong)

/- THE SECOND FORM. 'bulk': how many values and letters a reading holds, each counted each time it is reached (what is shared counts as often as it is met; a slice's spare places count too). A statement '..UptoSaid' is the law's where the arguments, and the package variables that the reading takes, are together of bulk at most 1048576: NARROWER than '..Said'. Prove '..Said' where nothing that the law and all that it calls make is longer than what came in: it says more and counts as full. Else prove '..UptoSaid'. A law counts once. -/
mutual
def uptoBulk {H : Type} : DataW H → Nat
  | .lit (.string bytes) => bytes.length + 1
  | .lit _ => 1
  | .nil => 1
  | .ptr d => uptoBulk d + 1
  | .slice elems spare => uptoBulkAll elems + uptoBulkAll spare + 1
  | .agg parts => uptoBulkAll parts + 1
  | .iface _ d => uptoBulk d + 1
  | .map entries => uptoBulkEntries entries + 1
  | .held _ => 1
def uptoBulkAll {H : Type} : List (DataW H) → Nat
  | [] => 0
  | d :: r => uptoBulk d + uptoBulkAll r
def uptoBulkEntries {H : Type} : List (Lit × DataW H) → Nat
  | [] => 0
  | x :: r => uptoBulkEntry x + uptoBulkEntries r
def uptoBulkEntry {H : Type} : Lit × DataW H → Nat
  | (.string bytes, d) => bytes.length + uptoBulk d + 1
  | (_, d) => uptoBulk d + 1
 end
def uptoSmall : (H : Type) → List (DataW H) → Bool := fun _ ds => decide (uptoBulkAll ds ≤ 1048576)
def OpenSpec.upto (s : _root_.Go.ChangeSpec) : _root_.Go.OpenSpec := { _root_.Go.OpenSpec.ofChange s with cond := some uptoSmall }

/-- 'cabstandlaw23.LedgerSums', WHERE WHAT IT READS IS OF BULK AT MOST 1048576: true; the input reads as it did. -/
def ledgerSumsUptoRow : OpenClaim := { program := "ytnapfjgokeloeaa", sum := "4af9944943d57fddf29ad7a5ffe9a6059afd6693ca31940fe6ff7022479ba0c7", func := "cabstand/cabstandlaw23.LedgerSums", spec := "ledgerSums", inPlace := ["internal/bytealg.Compare"], unfollowed := true, recurses := true, plainKeys := false, apart := false, narrowed := true }
def LedgerSumsUptoSaid : Prop := ledgerSumsUptoRow.holds Try.pinned (OpenSpec.upto ledgerSumsSpec)

/-- 'cabstandlaw23.LedgerSettled', WHERE WHAT IT READS IS OF BULK AT MOST 1048576: true; the input reads as it did. -/
def ledgerSettledUptoRow : OpenClaim := { program := "ytnapfjgokeloeaa", sum := "4af9944943d57fddf29ad7a5ffe9a6059afd6693ca31940fe6ff7022479ba0c7", func := "cabstand/cabstandlaw23.LedgerSettled", spec := "ledgerSettled", inPlace := ["internal/bytealg.Compare"], unfollowed := true, recurses := true, plainKeys := false, apart := false, narrowed := true }
def LedgerSettledUptoSaid : Prop := ledgerSettledUptoRow.holds Try.pinned (OpenSpec.upto ledgerSettledSpec)

/-- 'cabstandlaw23.LedgerWhole', WHERE WHAT IT READS IS OF BULK AT MOST 1048576: true; the input reads as it did. -/
def ledgerWholeUptoRow : OpenClaim := { program := "ytnapfjgokeloeaa", sum := "4af9944943d57fddf29ad7a5ffe9a6059afd6693ca31940fe6ff7022479ba0c7", func := "cabstand/cabstandlaw23.LedgerWhole", spec := "ledgerWhole", inPlace := ["internal/bytealg.Compare"], unfollowed := true, recurses := true, plainKeys := false, apart := false, narrowed := true }
def LedgerWholeUptoSaid : Prop := ledgerWholeUptoRow.holds Try.pinned (OpenSpec.upto ledgerWholeSpec)

/-- 'cabstandlaw23.LedgerAnew', WHERE WHAT IT READS IS OF BULK AT MOST 1048576: true; the input reads as it did. -/
def ledgerAnewUptoRow : OpenClaim := { program := "ytnapfjgokeloeaa", sum := "4af9944943d57fddf29ad7a5ffe9a6059afd6693ca31940fe6ff7022479ba0c7", func := "cabstand/cabstandlaw23.LedgerAnew", spec := "ledgerAnew", inPlace := ["internal/bytealg.Compare"], unfollowed := true, recurses := true, plainKeys := false, apart := false, narrowed := true }
def LedgerAnewUptoSaid : Prop := ledgerAnewUptoRow.holds Try.pinned (OpenSpec.upto ledgerAnewSpec)

/-- 'cabstandlaw23.LedgerNames', WHERE WHAT IT READS IS OF BULK AT MOST 1048576: true; the input reads as it did. -/
def ledgerNamesUptoRow : OpenClaim := { program := "ytnapfjgokeloeaa", sum := "4af9944943d57fddf29ad7a5ffe9a6059afd6693ca31940fe6ff7022479ba0c7", func := "cabstand/cabstandlaw23.LedgerNames", spec := "ledgerNames", inPlace := ["internal/bytealg.Compare"], unfollowed := true, recurses := true, plainKeys := false, apart := false, narrowed := true }
def LedgerNamesUptoSaid : Prop := ledgerNamesUptoRow.holds Try.pinned (OpenSpec.upto ledgerNamesSpec)

end Rows
end Go.Proofs.Ytnapfjgokeloeaa
