/-
  No cell of these rows narrows 'for every input' (looked for: loops, veiled, ifaces, maps, wideKeys, modest, calm, conditions, laid).
  DERIVED. THE GIVEN ROWS OF THIS SEAT. 7 by the template 'for every input the law returns true; each argument reads behind the call as it read before'; 0 by the template 'total and deterministic' (their statements: YtaiepkombpjjgaaTotals.lean).
  GIVEN WITH THE SEED: the statements are not yours to turn. If you find one false, say at which input.
  Laid BY PROGRAM, IN A SANDBOX (cutbox-rows.mjs): the forced cells as the released guide's own fill.sh prints them over the translation 5edbf54531a03914… (all of the seat's roots in one cut). By AI agents, Wed Nov 11 2026. No macro, syntax, notation, axiom, sorry.
-/
import Derived.Test.YtaiepkombpjjgaaChecked
import GoSem.Claim
import GoSem.ClaimJoined
import GoSem.ClaimMapViews
import Derived.JoinedTies
import Derived.KernelRfl
namespace Go.Proofs.Ytaiepkombpjjgaa
/- THE CELL 'sum', in the pinned program and in every row, IS THE sha256 OF THE DUMP (.gsa) THAT YtaiepkombpjjgaaProg.lean LOADS. Nothing in Lean hashes anything: it is a label: what it is worth is what the hold of that sum in a sandbox is worth. -/
noncomputable def Try.pinned : Pinned := { name := "ytaiepkombpjjgaa", sum := "5edbf54531a0391449d5c0548806f58349ea9317d891475a0af2caa2ff695373", checked := Try.checked }
namespace Rows
def none {H : Type} : Left H := { results := [], args := [] }

/-- 'cabstandlaw04.IdentNumbers': WHATEVER THE INPUT: true; the input reads as it did. -/
def identNumbersSpec : ChangeSpec := { name := "identNumbers", fn := fun _ => fun
  | [d1, d2, d3] => { results := [.lit (.bool true)], args := [d1, d2, d3] }
  | _ => none }
def identNumbersRow : OpenClaim := { program := "ytaiepkombpjjgaa", sum := "5edbf54531a0391449d5c0548806f58349ea9317d891475a0af2caa2ff695373", func := "cabstand/cabstandlaw04.IdentNumbers", spec := "identNumbers", inPlace := ["internal/bytealg.Compare"], plainKeys := false, apart := false }
def IdentNumbersSaid : Prop := identNumbersRow.holds Try.pinned (OpenSpec.ofChange identNumbersSpec)

/-- ITS FALSE NEIGHBOUR: 'it returns false'. Refute it at one input. -/
def identNumbersWrong : ChangeSpec := { name := "identNumbers", fn := fun _ => fun
  | [d1, d2, d3] => { results := [.lit (.bool false)], args := [d1, d2, d3] }
  | _ => none }
def IdentNumbersWrongFalsely : Prop := identNumbersRow.holds Try.pinned (OpenSpec.ofChange identNumbersWrong)

/-- 'cabstandlaw04.IdentForms': WHATEVER THE INPUT: true; the input reads as it did. -/
def identFormsSpec : ChangeSpec := { name := "identForms", fn := fun _ => fun
  | [d1, d2] => { results := [.lit (.bool true)], args := [d1, d2] }
  | _ => none }
def identFormsRow : OpenClaim := { program := "ytaiepkombpjjgaa", sum := "5edbf54531a0391449d5c0548806f58349ea9317d891475a0af2caa2ff695373", func := "cabstand/cabstandlaw04.IdentForms", spec := "identForms", plainKeys := false, apart := false }
def IdentFormsSaid : Prop := identFormsRow.holds Try.pinned (OpenSpec.ofChange identFormsSpec)

/-- ITS FALSE NEIGHBOUR: 'it returns false'. Refute it at one input. -/
def identFormsWrong : ChangeSpec := { name := "identForms", fn := fun _ => fun
  | [d1, d2] => { results := [.lit (.bool false)], args := [d1, d2] }
  | _ => none }
def IdentFormsWrongFalsely : Prop := identFormsRow.holds Try.pinned (OpenSpec.ofChange identFormsWrong)

/-- 'cabstandlaw04.IdentText': WHATEVER THE INPUT: true; the input reads as it did. -/
def identTextSpec : ChangeSpec := { name := "identText", fn := fun _ => fun
  | [d1, d2] => { results := [.lit (.bool true)], args := [d1, d2] }
  | _ => none }
def identTextRow : OpenClaim := { program := "ytaiepkombpjjgaa", sum := "5edbf54531a0391449d5c0548806f58349ea9317d891475a0af2caa2ff695373", func := "cabstand/cabstandlaw04.IdentText", spec := "identText", plainKeys := false, apart := false }
def IdentTextSaid : Prop := identTextRow.holds Try.pinned (OpenSpec.ofChange identTextSpec)

/-- ITS FALSE NEIGHBOUR: 'it returns false'. Refute it at one input. -/
def identTextWrong : ChangeSpec := { name := "identText", fn := fun _ => fun
  | [d1, d2] => { results := [.lit (.bool false)], args := [d1, d2] }
  | _ => none }
def IdentTextWrongFalsely : Prop := identTextRow.holds Try.pinned (OpenSpec.ofChange identTextWrong)

/-- 'cabstandlaw04.IdentOrder': WHATEVER THE INPUT: true; the input reads as it did. -/
def identOrderSpec : ChangeSpec := { name := "identOrder", fn := fun _ => fun
  | [d1, d2] => { results := [.lit (.bool true)], args := [d1, d2] }
  | _ => none }
def identOrderRow : OpenClaim := { program := "ytaiepkombpjjgaa", sum := "5edbf54531a0391449d5c0548806f58349ea9317d891475a0af2caa2ff695373", func := "cabstand/cabstandlaw04.IdentOrder", spec := "identOrder", inPlace := ["internal/bytealg.Compare"], plainKeys := false, apart := false }
def IdentOrderSaid : Prop := identOrderRow.holds Try.pinned (OpenSpec.ofChange identOrderSpec)

/-- ITS FALSE NEIGHBOUR: 'it returns false'. Refute it at one input. -/
def identOrderWrong : ChangeSpec := { name := "identOrder", fn := fun _ => fun
  | [d1, d2] => { results := [.lit (.bool false)], args := [d1, d2] }
  | _ => none }
def IdentOrderWrongFalsely : Prop := identOrderRow.holds Try.pinned (OpenSpec.ofChange identOrderWrong)

/-- 'cabstandlaw04.IdentPlays': WHATEVER THE INPUT: true; the input reads as it did. -/
def identPlaysSpec : ChangeSpec := { name := "identPlays", fn := fun _ => fun
  | [d] => { results := [.lit (.bool true)], args := [d] }
  | _ => none }
def identPlaysRow : OpenClaim := { program := "ytaiepkombpjjgaa", sum := "5edbf54531a0391449d5c0548806f58349ea9317d891475a0af2caa2ff695373", func := "cabstand/cabstandlaw04.IdentPlays", spec := "identPlays", inPlace := ["internal/bytealg.Compare"], unfollowed := true, recurses := true, plainKeys := false, apart := false }
def IdentPlaysSaid : Prop := identPlaysRow.holds Try.pinned (OpenSpec.ofChange identPlaysSpec)

/-- ITS FALSE NEIGHBOUR: 'it returns false'. Refute it at one input. -/
def identPlaysWrong : ChangeSpec := { name := "identPlays", fn := fun _ => fun
  | [d] => { results := [.lit (.bool false)], args := [d] }
  | _ => none }
def IdentPlaysWrongFalsely : Prop := identPlaysRow.holds Try.pinned (OpenSpec.ofChange identPlaysWrong)

/-- 'cabstandlaw04.IdentSets': WHATEVER THE INPUT: true; the input reads as it did. -/
def identSetsSpec : ChangeSpec := { name := "identSets", fn := fun _ => fun
  | [d1, d2] => { results := [.lit (.bool true)], args := [d1, d2] }
  | _ => none }
def identSetsRow : OpenClaim := { program := "ytaiepkombpjjgaa", sum := "5edbf54531a0391449d5c0548806f58349ea9317d891475a0af2caa2ff695373", func := "cabstand/cabstandlaw04.IdentSets", spec := "identSets", inPlace := ["internal/bytealg.Compare"], unfollowed := true, recurses := true, plainKeys := false, apart := false }
def IdentSetsSaid : Prop := identSetsRow.holds Try.pinned (OpenSpec.ofChange identSetsSpec)

/-- ITS FALSE NEIGHBOUR: 'it returns false'. Refute it at one input. -/
def identSetsWrong : ChangeSpec := { name := "identSets", fn := fun _ => fun
  | [d1, d2] => { results := [.lit (.bool false)], args := [d1, d2] }
  | _ => none }
def IdentSetsWrongFalsely : Prop := identSetsRow.holds Try.pinned (OpenSpec.ofChange identSetsWrong)

/-- 'cabstandlaw04.IdentNone': WHATEVER THE INPUT: true; the input reads as it did. -/
def identNoneSpec : ChangeSpec := { name := "identNone", fn := fun _ => fun
  | [d] => { results := [.lit (.bool true)], args := [d] }
  | _ => none }
def identNoneRow : OpenClaim := { program := "ytaiepkombpjjgaa", sum := "5edbf54531a0391449d5c0548806f58349ea9317d891475a0af2caa2ff695373", func := "cabstand/cabstandlaw04.IdentNone", spec := "identNone", inPlace := ["internal/bytealg.Compare"], unfollowed := true, recurses := true, plainKeys := false, apart := false }
def IdentNoneSaid : Prop := identNoneRow.holds Try.pinned (OpenSpec.ofChange identNoneSpec)

/-- ITS FALSE NEIGHBOUR: 'it returns false'. Refute it at one input. -/
def identNoneWrong : ChangeSpec := { name := "identNone", fn := fun _ => fun
  | [d] => { results := [.lit (.bool false)], args := [d] }
  | _ => none }
def IdentNoneWrongFalsely : Prop := identNoneRow.holds Try.pinned (OpenSpec.ofChange identNoneWrong)

/- THE SECOND FORM. 'bulk': how many values and letters a reading holds, each counted each time it is reached (what is shared counts as often as it is met; a slice's spare places count too). A statement '..UptoSaid' is the law's where the arguments, and the package variables that the reading takes, are together of bulk at most 1048576: NARROWER than '..Said'. Prove '..Said' where nothing that the law and all that it calls make is longer than what came in: it says more and counts as full. Else prove '..UptoSaid'. A law counts once. -/
mutual
def uptoBulk {H : Type} : DataW H → Nat
  | .lit (.string bytes) => bytes.length + 1
  | .lit _ => 1
  | .nil => 1
  | .ptr d => uptoBulk d + 1
  | .slice elems spare => uptoBulkAll elems + uptoBulkAll spare + 1
  | .agg parts => uptoBulkAll parts + 1
  | .iface _ d => uptoBulk d + 1
  | .map entries => uptoBulkEntries entries + 1
  | .held _ => 1
def uptoBulkAll {H : Type} : List (DataW H) → Nat
  | [] => 0
  | d :: r => uptoBulk d + uptoBulkAll r
def uptoBulkEntries {H : Type} : List (Lit × DataW H) → Nat
  | [] => 0
  | x :: r => uptoBulkEntry x + uptoBulkEntries r
def uptoBulkEntry {H : Type} : Lit × DataW H → Nat
  | (.string bytes, d) => bytes.length + uptoBulk d + 1
  | (_, d) => uptoBulk d + 1
 end
def uptoSmall : (H : Type) → List (DataW H) → Bool := fun _ ds => decide (uptoBulkAll ds ≤ 1048576)
def OpenSpec.upto (s : _root_.Go.ChangeSpec) : _root_.Go.OpenSpec := { _root_.Go.OpenSpec.ofChange s with cond := some uptoSmall }

/-- 'cabstandlaw04.IdentNumbers', WHERE WHAT IT READS IS OF BULK AT MOST 1048576: true; the input reads as it did. -/
def identNumbersUptoRow : OpenClaim := { program := "ytaiepkombpjjgaa", sum := "5edbf54531a0391449d5c0548806f58349ea9317d891475a0af2caa2ff695373", func := "cabstand/cabstandlaw04.IdentNumbers", spec := "identNumbers", inPlace := ["internal/bytealg.Compare"], plainKeys := false, apart := false, narrowed := true }
def IdentNumbersUptoSaid : Prop := identNumbersUptoRow.holds Try.pinned (OpenSpec.upto identNumbersSpec)

/-- 'cabstandlaw04.IdentForms', WHERE WHAT IT READS IS OF BULK AT MOST 1048576: true; the input reads as it did. -/
def identFormsUptoRow : OpenClaim := { program := "ytaiepkombpjjgaa", sum := "5edbf54531a0391449d5c0548806f58349ea9317d891475a0af2caa2ff695373", func := "cabstand/cabstandlaw04.IdentForms", spec := "identForms", plainKeys := false, apart := false, narrowed := true }
def IdentFormsUptoSaid : Prop := identFormsUptoRow.holds Try.pinned (OpenSpec.upto identFormsSpec)

/-- 'cabstandlaw04.IdentText', WHERE WHAT IT READS IS OF BULK AT MOST 1048576: true; the input reads as it did. -/
def identTextUptoRow : OpenClaim := { program := "ytaiepkombpjjgaa", sum := "5edbf54531a0391449d5c0548806f58349ea9317d891475a0af2caa2ff695373", func := "cabstand/cabstandlaw04.IdentText", spec := "identText", plainKeys := false, apart := false, narrowed := true }
def IdentTextUptoSaid : Prop := identTextUptoRow.holds Try.pinned (OpenSpec.upto identTextSpec)

/-- 'cabstandlaw04.IdentOrder', WHERE WHAT IT READS IS OF BULK AT MOST 1048576: true; the input reads as it did. -/
def identOrderUptoRow : OpenClaim := { program := "ytaiepkombpjjgaa", sum := "5edbf54531a0391449d5c0548806f58349ea9317d891475a0af2caa2ff695373", func := "cabstand/cabstandlaw04.IdentOrder", spec := "identOrder", inPlace := ["internal/bytealg.Compare"], plainKeys := false, apart := false, narrowed := true }
def IdentOrderUptoSaid : Prop := identOrderUptoRow.holds Try.pinned (OpenSpec.upto identOrderSpec)

/-- 'cabstandlaw04.IdentPlays', WHERE WHAT IT READS IS OF BULK AT MOST 1048576: true; the input reads as it did. -/
def identPlaysUptoRow : OpenClaim := { program := "ytaiepkombpjjgaa", sum := "5edbf54531a0391449d5c0548806f58349ea9317d891475a0af2caa2ff695373", func := "cabstand/cabstandlaw04.IdentPlays", spec := "identPlays", inPlace := ["internal/bytealg.Compare"], unfollowed := true, recurses := true, plainKeys := false, apart := false, narrowed := true }
def IdentPlaysUptoSaid : Prop := identPlaysUptoRow.holds Try.pinned (OpenSpec.upto identPlaysSpec)

/-- 'cabstandlaw04.IdentSets', WHERE WHAT IT READS IS OF BULK AT MOST 1048576: true; the input reads as it did. -/
def identSetsUptoRow : OpenClaim := { program := "ytaiepkombpjjgaa", sum := "5edbf54531a0391449d5c0548806f58349ea9317d891475a0af2caa2ff695373", func := "cabstand/cabstandlaw04.IdentSets", spec := "identSets", inPlace := ["internal/bytealg.Compare"], unfollowed := true, recurses := true, plainKeys := false, apart := false, narrowed := true }
def IdentSetsUptoSaid : Prop := identSetsUptoRow.holds Try.pinned (OpenSpec.upto identSetsSpec)

/-- 'cabstandlaw04.IdentNone', WHERE WHAT IT READS IS OF BULK AT MOST 1048576: true; the input reads as it did. -/
def identNoneUptoRow : OpenClaim := { program := "ytaiepkombpjjgaa", sum := "5edbf54531a0391449d5c0548806f58349ea9317d891475a0af2caa2ff695373", func := "cabstand/cabstandlaw04.IdentNone", spec := "identNone", inPlace := ["internal/bytealg.Compare"], unfollowed := true, recurses := true, plainKeys := false, apart := false, narrowed := true }
def IdentNoneUptoSaid : Prop := identNoneUptoRow.holds Try.pinned (OpenSpec.upto identNoneSpec)

end Rows
end Go.Proofs.Ytaiepkombpjjgaa
