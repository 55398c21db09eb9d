/-
  No cell of these rows narrows 'for every input' (looked for: loops, veiled, ifaces, maps, wideKeys, modest, calm, conditions, laid).
  DERIVED. THE GIVEN ROWS OF THIS SEAT. 3 by the template 'for every input the law returns true; each argument reads behind the call as it read before'; 0 by the template 'total and deterministic' (their statements: YtjhomkdnhdhffaaGreatTotals.lean).
  GIVEN WITH THE SEED: the statements are not yours to turn. If you find one false, say at which input.
  Laid BY PROGRAM, IN A SANDBOX (cutbox-rows.mjs): the forced cells as the released guide's own fill.sh prints them over the translation da1839f8f37cf6f3… (all of the seat's roots in one cut). By AI agents, Wed Nov 11 2026. No macro, syntax, notation, axiom, sorry.
-/
import Derived.Test.YtjhomkdnhdhffaaGreatChecked
import GoSem.Claim
import GoSem.ClaimJoined
import GoSem.ClaimMapViews
import Derived.JoinedTies
import Derived.KernelRfl
namespace Go.Proofs.YtjhomkdnhdhffaaGreat
/- THE CELL 'sum', in the pinned program and in every row, IS THE sha256 OF THE DUMP (.gsa) THAT YtjhomkdnhdhffaaGreatProg.lean LOADS. Nothing in Lean hashes anything: it is a label: what it is worth is what the hold of that sum in a sandbox is worth. -/
noncomputable def Tryz.pinned : Pinned := { name := "ytjhomkdnhdhffaagreat", sum := "da1839f8f37cf6f353a24258039c439831d7bc1c6c7a223d292e5b177b606e33", checked := Tryz.checked }
namespace Rows
def none {H : Type} : Left H := { results := [], args := [] }

/-- 'cabstandlaw19.CoverParts': WHATEVER THE INPUT: true; the input reads as it did. -/
def coverPartsSpec : ChangeSpec := { name := "coverParts", fn := fun _ => fun
  | [d] => { results := [.lit (.bool true)], args := [d] }
  | _ => none }
def coverPartsRow : OpenClaim := { program := "ytjhomkdnhdhffaagreat", sum := "da1839f8f37cf6f353a24258039c439831d7bc1c6c7a223d292e5b177b606e33", func := "cabstand/cabstandlaw19.CoverParts", spec := "coverParts", unfollowed := true, recurses := true, apart := false }
def CoverPartsSaid : Prop := coverPartsRow.holds Tryz.pinned (OpenSpec.ofChange coverPartsSpec)

/-- ITS FALSE NEIGHBOUR: 'it returns false'. Refute it at one input. -/
def coverPartsWrong : ChangeSpec := { name := "coverParts", fn := fun _ => fun
  | [d] => { results := [.lit (.bool false)], args := [d] }
  | _ => none }
def CoverPartsWrongFalsely : Prop := coverPartsRow.holds Tryz.pinned (OpenSpec.ofChange coverPartsWrong)

/-- 'cabstandlaw19.CoverCovers': WHATEVER THE INPUT: true; the input reads as it did. -/
def coverCoversSpec : ChangeSpec := { name := "coverCovers", fn := fun _ => fun
  | [d] => { results := [.lit (.bool true)], args := [d] }
  | _ => none }
def coverCoversRow : OpenClaim := { program := "ytjhomkdnhdhffaagreat", sum := "da1839f8f37cf6f353a24258039c439831d7bc1c6c7a223d292e5b177b606e33", func := "cabstand/cabstandlaw19.CoverCovers", spec := "coverCovers", unfollowed := true, recurses := true, apart := false }
def CoverCoversSaid : Prop := coverCoversRow.holds Tryz.pinned (OpenSpec.ofChange coverCoversSpec)

/-- ITS FALSE NEIGHBOUR: 'it returns false'. Refute it at one input. -/
def coverCoversWrong : ChangeSpec := { name := "coverCovers", fn := fun _ => fun
  | [d] => { results := [.lit (.bool false)], args := [d] }
  | _ => none }
def CoverCoversWrongFalsely : Prop := coverCoversRow.holds Tryz.pinned (OpenSpec.ofChange coverCoversWrong)

/-- 'cabstandlaw19.CoverMost': WHATEVER THE INPUT: true; the input reads as it did. -/
def coverMostSpec : ChangeSpec := { name := "coverMost", fn := fun _ => fun
  | [d] => { results := [.lit (.bool true)], args := [d] }
  | _ => none }
def coverMostRow : OpenClaim := { program := "ytjhomkdnhdhffaagreat", sum := "da1839f8f37cf6f353a24258039c439831d7bc1c6c7a223d292e5b177b606e33", func := "cabstand/cabstandlaw19.CoverMost", spec := "coverMost", unfollowed := true, recurses := true, apart := false }
def CoverMostSaid : Prop := coverMostRow.holds Tryz.pinned (OpenSpec.ofChange coverMostSpec)

/-- ITS FALSE NEIGHBOUR: 'it returns false'. Refute it at one input. -/
def coverMostWrong : ChangeSpec := { name := "coverMost", fn := fun _ => fun
  | [d] => { results := [.lit (.bool false)], args := [d] }
  | _ => none }
def CoverMostWrongFalsely : Prop := coverMostRow.holds Tryz.pinned (OpenSpec.ofChange coverMostWrong)

/- THE SECOND FORM. 'bulk': how many values and letters a reading holds, each counted each time it is reached (what is shared counts as often as it is met; a slice's spare places count too). A statement '..UptoSaid' is the law's where the arguments, and the package variables that the reading takes, are together of bulk at most 1048576: NARROWER than '..Said'. Prove '..Said' where nothing that the law and all that it calls make is longer than what came in: it says more and counts as full. Else prove '..UptoSaid'. A law counts once. -/
mutual
def uptoBulk {H : Type} : DataW H → Nat
  | .lit (.string bytes) => bytes.length + 1
  | .lit _ => 1
  | .nil => 1
  | .ptr d => uptoBulk d + 1
  | .slice elems spare => uptoBulkAll elems + uptoBulkAll spare + 1
  | .agg parts => uptoBulkAll parts + 1
  | .iface _ d => uptoBulk d + 1
  | .map entries => uptoBulkEntries entries + 1
  | .held _ => 1
def uptoBulkAll {H : Type} : List (DataW H) → Nat
  | [] => 0
  | d :: r => uptoBulk d + uptoBulkAll r
def uptoBulkEntries {H : Type} : List (Lit × DataW H) → Nat
  | [] => 0
  | x :: r => uptoBulkEntry x + uptoBulkEntries r
def uptoBulkEntry {H : Type} : Lit × DataW H → Nat
  | (.string bytes, d) => bytes.length + uptoBulk d + 1
  | (_, d) => uptoBulk d + 1
 end
def uptoSmall : (H : Type) → List (DataW H) → Bool := fun _ ds => decide (uptoBulkAll ds ≤ 1048576)
def OpenSpec.upto (s : _root_.Go.ChangeSpec) : _root_.Go.OpenSpec := { _root_.Go.OpenSpec.ofChange s with cond := some uptoSmall }

/-- 'cabstandlaw19.CoverParts', WHERE WHAT IT READS IS OF BULK AT MOST 1048576: true; the input reads as it did. -/
def coverPartsUptoRow : OpenClaim := { program := "ytjhomkdnhdhffaagreat", sum := "da1839f8f37cf6f353a24258039c439831d7bc1c6c7a223d292e5b177b606e33", func := "cabstand/cabstandlaw19.CoverParts", spec := "coverParts", unfollowed := true, recurses := true, apart := false, narrowed := true }
def CoverPartsUptoSaid : Prop := coverPartsUptoRow.holds Tryz.pinned (OpenSpec.upto coverPartsSpec)

/-- 'cabstandlaw19.CoverCovers', WHERE WHAT IT READS IS OF BULK AT MOST 1048576: true; the input reads as it did. -/
def coverCoversUptoRow : OpenClaim := { program := "ytjhomkdnhdhffaagreat", sum := "da1839f8f37cf6f353a24258039c439831d7bc1c6c7a223d292e5b177b606e33", func := "cabstand/cabstandlaw19.CoverCovers", spec := "coverCovers", unfollowed := true, recurses := true, apart := false, narrowed := true }
def CoverCoversUptoSaid : Prop := coverCoversUptoRow.holds Tryz.pinned (OpenSpec.upto coverCoversSpec)

/-- 'cabstandlaw19.CoverMost', WHERE WHAT IT READS IS OF BULK AT MOST 1048576: true; the input reads as it did. -/
def coverMostUptoRow : OpenClaim := { program := "ytjhomkdnhdhffaagreat", sum := "da1839f8f37cf6f353a24258039c439831d7bc1c6c7a223d292e5b177b606e33", func := "cabstand/cabstandlaw19.CoverMost", spec := "coverMost", unfollowed := true, recurses := true, apart := false, narrowed := true }
def CoverMostUptoSaid : Prop := coverMostUptoRow.holds Tryz.pinned (OpenSpec.upto coverMostSpec)

end Rows
end Go.Proofs.YtjhomkdnhdhffaaGreat
