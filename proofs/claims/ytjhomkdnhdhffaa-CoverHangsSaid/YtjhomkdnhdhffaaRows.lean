/-
  No cell of these rows narrows 'for every input' (looked for: loops, veiled, ifaces, maps, wideKeys, modest, calm, conditions, laid).
  DERIVED. THE GIVEN ROWS OF THIS SEAT. 4 by the template 'for every input the law returns true; each argument reads behind the call as it read before'; 0 by the template 'total and deterministic' (their statements: YtjhomkdnhdhffaaTotals.lean).
  GIVEN WITH THE SEED: the statements are not yours to turn. If you find one false, say at which input.
  Laid BY PROGRAM, IN A SANDBOX (cutbox-rows.mjs): the forced cells as the released guide's own fill.sh prints them over the translation 57600fa7bca72fb5… (all of the seat's roots in one cut). By AI agents, Wed Nov 11 2026. No macro, syntax, notation, axiom, sorry.
-/
import Derived.Test.YtjhomkdnhdhffaaChecked
import GoSem.Claim
import GoSem.ClaimJoined
import GoSem.ClaimMapViews
import Derived.JoinedTies
import Derived.KernelRfl
namespace Go.Proofs.Ytjhomkdnhdhffaa
/- THE CELL 'sum', in the pinned program and in every row, IS THE sha256 OF THE DUMP (.gsa) THAT YtjhomkdnhdhffaaProg.lean LOADS. Nothing in Lean hashes anything: it is a label: what it is worth is what the hold of that sum in a sandbox is worth. -/
noncomputable def Try.pinned : Pinned := { name := "ytjhomkdnhdhffaa", sum := "57600fa7bca72fb531729439aa06c06d7173c04d49719252a7fd23646146f176", checked := Try.checked }
namespace Rows
def none {H : Type} : Left H := { results := [], args := [] }

/-- 'cabstandlaw19.CoverKoenig': WHATEVER THE INPUT: true; the input reads as it did. -/
def coverKoenigSpec : ChangeSpec := { name := "coverKoenig", fn := fun _ => fun
  | [d] => { results := [.lit (.bool true)], args := [d] }
  | _ => none }
def coverKoenigRow : OpenClaim := { program := "ytjhomkdnhdhffaa", sum := "57600fa7bca72fb531729439aa06c06d7173c04d49719252a7fd23646146f176", func := "cabstand/cabstandlaw19.CoverKoenig", spec := "coverKoenig", unfollowed := true, recurses := true, apart := false }
def CoverKoenigSaid : Prop := coverKoenigRow.holds Try.pinned (OpenSpec.ofChange coverKoenigSpec)

/-- ITS FALSE NEIGHBOUR: 'it returns false'. Refute it at one input. -/
def coverKoenigWrong : ChangeSpec := { name := "coverKoenig", fn := fun _ => fun
  | [d] => { results := [.lit (.bool false)], args := [d] }
  | _ => none }
def CoverKoenigWrongFalsely : Prop := coverKoenigRow.holds Try.pinned (OpenSpec.ofChange coverKoenigWrong)

/-- 'cabstandlaw19.CoverLeast': WHATEVER THE INPUT: true; the input reads as it did. -/
def coverLeastSpec : ChangeSpec := { name := "coverLeast", fn := fun _ => fun
  | [d1, d2] => { results := [.lit (.bool true)], args := [d1, d2] }
  | _ => none }
def coverLeastRow : OpenClaim := { program := "ytjhomkdnhdhffaa", sum := "57600fa7bca72fb531729439aa06c06d7173c04d49719252a7fd23646146f176", func := "cabstand/cabstandlaw19.CoverLeast", spec := "coverLeast", unfollowed := true, recurses := true, apart := false }
def CoverLeastSaid : Prop := coverLeastRow.holds Try.pinned (OpenSpec.ofChange coverLeastSpec)

/-- ITS FALSE NEIGHBOUR: 'it returns false'. Refute it at one input. -/
def coverLeastWrong : ChangeSpec := { name := "coverLeast", fn := fun _ => fun
  | [d1, d2] => { results := [.lit (.bool false)], args := [d1, d2] }
  | _ => none }
def CoverLeastWrongFalsely : Prop := coverLeastRow.holds Try.pinned (OpenSpec.ofChange coverLeastWrong)

/-- 'cabstandlaw19.CoverWeights': WHATEVER THE INPUT: true; the input reads as it did. -/
def coverWeightsSpec : ChangeSpec := { name := "coverWeights", fn := fun _ => fun
  | [d1, d2] => { results := [.lit (.bool true)], args := [d1, d2] }
  | _ => none }
def coverWeightsRow : OpenClaim := { program := "ytjhomkdnhdhffaa", sum := "57600fa7bca72fb531729439aa06c06d7173c04d49719252a7fd23646146f176", func := "cabstand/cabstandlaw19.CoverWeights", spec := "coverWeights", unfollowed := true, recurses := true, apart := false }
def CoverWeightsSaid : Prop := coverWeightsRow.holds Try.pinned (OpenSpec.ofChange coverWeightsSpec)

/-- ITS FALSE NEIGHBOUR: 'it returns false'. Refute it at one input. -/
def coverWeightsWrong : ChangeSpec := { name := "coverWeights", fn := fun _ => fun
  | [d1, d2] => { results := [.lit (.bool false)], args := [d1, d2] }
  | _ => none }
def CoverWeightsWrongFalsely : Prop := coverWeightsRow.holds Try.pinned (OpenSpec.ofChange coverWeightsWrong)

/-- 'cabstandlaw19.CoverHangs': WHATEVER THE INPUT: true; the input reads as it did. -/
def coverHangsSpec : ChangeSpec := { name := "coverHangs", fn := fun _ => fun
  | [d] => { results := [.lit (.bool true)], args := [d] }
  | _ => none }
def coverHangsRow : OpenClaim := { program := "ytjhomkdnhdhffaa", sum := "57600fa7bca72fb531729439aa06c06d7173c04d49719252a7fd23646146f176", func := "cabstand/cabstandlaw19.CoverHangs", spec := "coverHangs", unfollowed := true, recurses := true, apart := false }
def CoverHangsSaid : Prop := coverHangsRow.holds Try.pinned (OpenSpec.ofChange coverHangsSpec)

/-- ITS FALSE NEIGHBOUR: 'it returns false'. Refute it at one input. -/
def coverHangsWrong : ChangeSpec := { name := "coverHangs", fn := fun _ => fun
  | [d] => { results := [.lit (.bool false)], args := [d] }
  | _ => none }
def CoverHangsWrongFalsely : Prop := coverHangsRow.holds Try.pinned (OpenSpec.ofChange coverHangsWrong)

/- THE SECOND FORM. 'bulk': how many values and letters a reading holds, each counted each time it is reached (what is shared counts as often as it is met; a slice's spare places count too). A statement '..UptoSaid' is the law's where the arguments, and the package variables that the reading takes, are together of bulk at most 1048576: NARROWER than '..Said'. Prove '..Said' where nothing that the law and all that it calls make is longer than what came in: it says more and counts as full. Else prove '..UptoSaid'. A law counts once. -/
mutual
def uptoBulk {H : Type} : DataW H → Nat
  | .lit (.string bytes) => bytes.length + 1
  | .lit _ => 1
  | .nil => 1
  | .ptr d => uptoBulk d + 1
  | .slice elems spare => uptoBulkAll elems + uptoBulkAll spare + 1
  | .agg parts => uptoBulkAll parts + 1
  | .iface _ d => uptoBulk d + 1
  | .map entries => uptoBulkEntries entries + 1
  | .held _ => 1
def uptoBulkAll {H : Type} : List (DataW H) → Nat
  | [] => 0
  | d :: r => uptoBulk d + uptoBulkAll r
def uptoBulkEntries {H : Type} : List (Lit × DataW H) → Nat
  | [] => 0
  | x :: r => uptoBulkEntry x + uptoBulkEntries r
def uptoBulkEntry {H : Type} : Lit × DataW H → Nat
  | (.string bytes, d) => bytes.length + uptoBulk d + 1
  | (_, d) => uptoBulk d + 1
 end
def uptoSmall : (H : Type) → List (DataW H) → Bool := fun _ ds => decide (uptoBulkAll ds ≤ 1048576)
def OpenSpec.upto (s : _root_.Go.ChangeSpec) : _root_.Go.OpenSpec := { _root_.Go.OpenSpec.ofChange s with cond := some uptoSmall }

/-- 'cabstandlaw19.CoverKoenig', WHERE WHAT IT READS IS OF BULK AT MOST 1048576: true; the input reads as it did. -/
def coverKoenigUptoRow : OpenClaim := { program := "ytjhomkdnhdhffaa", sum := "57600fa7bca72fb531729439aa06c06d7173c04d49719252a7fd23646146f176", func := "cabstand/cabstandlaw19.CoverKoenig", spec := "coverKoenig", unfollowed := true, recurses := true, apart := false, narrowed := true }
def CoverKoenigUptoSaid : Prop := coverKoenigUptoRow.holds Try.pinned (OpenSpec.upto coverKoenigSpec)

/-- 'cabstandlaw19.CoverLeast', WHERE WHAT IT READS IS OF BULK AT MOST 1048576: true; the input reads as it did. -/
def coverLeastUptoRow : OpenClaim := { program := "ytjhomkdnhdhffaa", sum := "57600fa7bca72fb531729439aa06c06d7173c04d49719252a7fd23646146f176", func := "cabstand/cabstandlaw19.CoverLeast", spec := "coverLeast", unfollowed := true, recurses := true, apart := false, narrowed := true }
def CoverLeastUptoSaid : Prop := coverLeastUptoRow.holds Try.pinned (OpenSpec.upto coverLeastSpec)

/-- 'cabstandlaw19.CoverWeights', WHERE WHAT IT READS IS OF BULK AT MOST 1048576: true; the input reads as it did. -/
def coverWeightsUptoRow : OpenClaim := { program := "ytjhomkdnhdhffaa", sum := "57600fa7bca72fb531729439aa06c06d7173c04d49719252a7fd23646146f176", func := "cabstand/cabstandlaw19.CoverWeights", spec := "coverWeights", unfollowed := true, recurses := true, apart := false, narrowed := true }
def CoverWeightsUptoSaid : Prop := coverWeightsUptoRow.holds Try.pinned (OpenSpec.upto coverWeightsSpec)

/-- 'cabstandlaw19.CoverHangs', WHERE WHAT IT READS IS OF BULK AT MOST 1048576: true; the input reads as it did. -/
def coverHangsUptoRow : OpenClaim := { program := "ytjhomkdnhdhffaa", sum := "57600fa7bca72fb531729439aa06c06d7173c04d49719252a7fd23646146f176", func := "cabstand/cabstandlaw19.CoverHangs", spec := "coverHangs", unfollowed := true, recurses := true, apart := false, narrowed := true }
def CoverHangsUptoSaid : Prop := coverHangsUptoRow.holds Try.pinned (OpenSpec.upto coverHangsSpec)

end Rows
end Go.Proofs.Ytjhomkdnhdhffaa
