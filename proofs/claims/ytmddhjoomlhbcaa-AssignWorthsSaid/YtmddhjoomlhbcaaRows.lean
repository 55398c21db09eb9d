/-
  No cell of these rows narrows 'for every input' (looked for: loops, veiled, ifaces, maps, wideKeys, modest, calm, conditions, laid).
  DERIVED. THE GIVEN ROWS OF THIS SEAT. 10 by the template 'for every input the law returns true; each argument reads behind the call as it read before'; 0 by the template 'total and deterministic' (their statements: YtmddhjoomlhbcaaTotals.lean).
  GIVEN WITH THE SEED: the statements are not yours to turn. If you find one false, say at which input.
  Laid BY PROGRAM, IN A SANDBOX (cutbox-rows.mjs): the forced cells as the released guide's own fill.sh prints them over the translation 5185b01874c7eb5f… (all of the seat's roots in one cut). By AI agents, Wed Nov 11 2026. No macro, syntax, notation, axiom, sorry.
-/
import Derived.Test.YtmddhjoomlhbcaaChecked
import GoSem.Claim
import GoSem.ClaimJoined
import GoSem.ClaimMapViews
import Derived.JoinedTies
import Derived.KernelRfl
namespace Go.Proofs.Ytmddhjoomlhbcaa
/- THE CELL 'sum', in the pinned program and in every row, IS THE sha256 OF THE DUMP (.gsa) THAT YtmddhjoomlhbcaaProg.lean LOADS. Nothing in Lean hashes anything: it is a label: what it is worth is what the hold of that sum in a sandbox is worth. -/
noncomputable def Try.pinned : Pinned := { name := "ytmddhjoomlhbcaa", sum := "5185b01874c7eb5f3b37ff3c68c966b0426992adb0bfbbbdda64cbc3b5332b56", checked := Try.checked }
namespace Rows
def none {H : Type} : Left H := { results := [], args := [] }

/-- 'cabstandlaw17.AssignWorths': WHATEVER THE INPUT: true; the input reads as it did. -/
def assignWorthsSpec : ChangeSpec := { name := "assignWorths", fn := fun _ => fun
  | [d1, d2] => { results := [.lit (.bool true)], args := [d1, d2] }
  | _ => none }
def assignWorthsRow : OpenClaim := { program := "ytmddhjoomlhbcaa", sum := "5185b01874c7eb5f3b37ff3c68c966b0426992adb0bfbbbdda64cbc3b5332b56", func := "cabstand/cabstandlaw17.AssignWorths", spec := "assignWorths", unfollowed := true, recurses := true, apart := false }
def AssignWorthsSaid : Prop := assignWorthsRow.holds Try.pinned (OpenSpec.ofChange assignWorthsSpec)

/-- ITS FALSE NEIGHBOUR: 'it returns false'. Refute it at one input. -/
def assignWorthsWrong : ChangeSpec := { name := "assignWorths", fn := fun _ => fun
  | [d1, d2] => { results := [.lit (.bool false)], args := [d1, d2] }
  | _ => none }
def AssignWorthsWrongFalsely : Prop := assignWorthsRow.holds Try.pinned (OpenSpec.ofChange assignWorthsWrong)

/-- 'cabstandlaw17.AssignShows': WHATEVER THE INPUT: true; the input reads as it did. -/
def assignShowsSpec : ChangeSpec := { name := "assignShows", fn := fun _ => fun
  | [d] => { results := [.lit (.bool true)], args := [d] }
  | _ => none }
def assignShowsRow : OpenClaim := { program := "ytmddhjoomlhbcaa", sum := "5185b01874c7eb5f3b37ff3c68c966b0426992adb0bfbbbdda64cbc3b5332b56", func := "cabstand/cabstandlaw17.AssignShows", spec := "assignShows", unfollowed := true, recurses := true, apart := false }
def AssignShowsSaid : Prop := assignShowsRow.holds Try.pinned (OpenSpec.ofChange assignShowsSpec)

/-- ITS FALSE NEIGHBOUR: 'it returns false'. Refute it at one input. -/
def assignShowsWrong : ChangeSpec := { name := "assignShows", fn := fun _ => fun
  | [d] => { results := [.lit (.bool false)], args := [d] }
  | _ => none }
def AssignShowsWrongFalsely : Prop := assignShowsRow.holds Try.pinned (OpenSpec.ofChange assignShowsWrong)

/-- 'cabstandlaw17.AssignLeast': WHATEVER THE INPUT: true; the input reads as it did. -/
def assignLeastSpec : ChangeSpec := { name := "assignLeast", fn := fun _ => fun
  | [d1, d2] => { results := [.lit (.bool true)], args := [d1, d2] }
  | _ => none }
def assignLeastRow : OpenClaim := { program := "ytmddhjoomlhbcaa", sum := "5185b01874c7eb5f3b37ff3c68c966b0426992adb0bfbbbdda64cbc3b5332b56", func := "cabstand/cabstandlaw17.AssignLeast", spec := "assignLeast", unfollowed := true, recurses := true, apart := false }
def AssignLeastSaid : Prop := assignLeastRow.holds Try.pinned (OpenSpec.ofChange assignLeastSpec)

/-- ITS FALSE NEIGHBOUR: 'it returns false'. Refute it at one input. -/
def assignLeastWrong : ChangeSpec := { name := "assignLeast", fn := fun _ => fun
  | [d1, d2] => { results := [.lit (.bool false)], args := [d1, d2] }
  | _ => none }
def AssignLeastWrongFalsely : Prop := assignLeastRow.holds Try.pinned (OpenSpec.ofChange assignLeastWrong)

/-- 'cabstandlaw17.AssignEnds': WHATEVER THE INPUT: true; the input reads as it did. -/
def assignEndsSpec : ChangeSpec := { name := "assignEnds", fn := fun _ => fun
  | [d1, d2, d3] => { results := [.lit (.bool true)], args := [d1, d2, d3] }
  | _ => none }
def assignEndsRow : OpenClaim := { program := "ytmddhjoomlhbcaa", sum := "5185b01874c7eb5f3b37ff3c68c966b0426992adb0bfbbbdda64cbc3b5332b56", func := "cabstand/cabstandlaw17.AssignEnds", spec := "assignEnds", unfollowed := true, recurses := true, apart := false }
def AssignEndsSaid : Prop := assignEndsRow.holds Try.pinned (OpenSpec.ofChange assignEndsSpec)

/-- ITS FALSE NEIGHBOUR: 'it returns false'. Refute it at one input. -/
def assignEndsWrong : ChangeSpec := { name := "assignEnds", fn := fun _ => fun
  | [d1, d2, d3] => { results := [.lit (.bool false)], args := [d1, d2, d3] }
  | _ => none }
def AssignEndsWrongFalsely : Prop := assignEndsRow.holds Try.pinned (OpenSpec.ofChange assignEndsWrong)

/-- 'cabstandlaw17.AssignWithout': WHATEVER THE INPUT: true; the input reads as it did. -/
def assignWithoutSpec : ChangeSpec := { name := "assignWithout", fn := fun _ => fun
  | [d1, d2] => { results := [.lit (.bool true)], args := [d1, d2] }
  | _ => none }
def assignWithoutRow : OpenClaim := { program := "ytmddhjoomlhbcaa", sum := "5185b01874c7eb5f3b37ff3c68c966b0426992adb0bfbbbdda64cbc3b5332b56", func := "cabstand/cabstandlaw17.AssignWithout", spec := "assignWithout", unfollowed := true, recurses := true, apart := false }
def AssignWithoutSaid : Prop := assignWithoutRow.holds Try.pinned (OpenSpec.ofChange assignWithoutSpec)

/-- ITS FALSE NEIGHBOUR: 'it returns false'. Refute it at one input. -/
def assignWithoutWrong : ChangeSpec := { name := "assignWithout", fn := fun _ => fun
  | [d1, d2] => { results := [.lit (.bool false)], args := [d1, d2] }
  | _ => none }
def AssignWithoutWrongFalsely : Prop := assignWithoutRow.holds Try.pinned (OpenSpec.ofChange assignWithoutWrong)

/-- 'cabstandlaw17.AssignColumn': WHATEVER THE INPUT: true; the input reads as it did. -/
def assignColumnSpec : ChangeSpec := { name := "assignColumn", fn := fun _ => fun
  | [d1, d2] => { results := [.lit (.bool true)], args := [d1, d2] }
  | _ => none }
def assignColumnRow : OpenClaim := { program := "ytmddhjoomlhbcaa", sum := "5185b01874c7eb5f3b37ff3c68c966b0426992adb0bfbbbdda64cbc3b5332b56", func := "cabstand/cabstandlaw17.AssignColumn", spec := "assignColumn", unfollowed := true, recurses := true, apart := false }
def AssignColumnSaid : Prop := assignColumnRow.holds Try.pinned (OpenSpec.ofChange assignColumnSpec)

/-- ITS FALSE NEIGHBOUR: 'it returns false'. Refute it at one input. -/
def assignColumnWrong : ChangeSpec := { name := "assignColumn", fn := fun _ => fun
  | [d1, d2] => { results := [.lit (.bool false)], args := [d1, d2] }
  | _ => none }
def AssignColumnWrongFalsely : Prop := assignColumnRow.holds Try.pinned (OpenSpec.ofChange assignColumnWrong)

/-- 'cabstandlaw17.AssignRow': WHATEVER THE INPUT: true; the input reads as it did. -/
def assignRowSpec : ChangeSpec := { name := "assignRow", fn := fun _ => fun
  | [d1, d2] => { results := [.lit (.bool true)], args := [d1, d2] }
  | _ => none }
def assignRowRow : OpenClaim := { program := "ytmddhjoomlhbcaa", sum := "5185b01874c7eb5f3b37ff3c68c966b0426992adb0bfbbbdda64cbc3b5332b56", func := "cabstand/cabstandlaw17.AssignRow", spec := "assignRow", unfollowed := true, recurses := true, apart := false }
def AssignRowSaid : Prop := assignRowRow.holds Try.pinned (OpenSpec.ofChange assignRowSpec)

/-- ITS FALSE NEIGHBOUR: 'it returns false'. Refute it at one input. -/
def assignRowWrong : ChangeSpec := { name := "assignRow", fn := fun _ => fun
  | [d1, d2] => { results := [.lit (.bool false)], args := [d1, d2] }
  | _ => none }
def AssignRowWrongFalsely : Prop := assignRowRow.holds Try.pinned (OpenSpec.ofChange assignRowWrong)

/-- 'cabstandlaw17.AssignScaled': WHATEVER THE INPUT: true; the input reads as it did. -/
def assignScaledSpec : ChangeSpec := { name := "assignScaled", fn := fun _ => fun
  | [d1, d2] => { results := [.lit (.bool true)], args := [d1, d2] }
  | _ => none }
def assignScaledRow : OpenClaim := { program := "ytmddhjoomlhbcaa", sum := "5185b01874c7eb5f3b37ff3c68c966b0426992adb0bfbbbdda64cbc3b5332b56", func := "cabstand/cabstandlaw17.AssignScaled", spec := "assignScaled", unfollowed := true, recurses := true, apart := false }
def AssignScaledSaid : Prop := assignScaledRow.holds Try.pinned (OpenSpec.ofChange assignScaledSpec)

/-- ITS FALSE NEIGHBOUR: 'it returns false'. Refute it at one input. -/
def assignScaledWrong : ChangeSpec := { name := "assignScaled", fn := fun _ => fun
  | [d1, d2] => { results := [.lit (.bool false)], args := [d1, d2] }
  | _ => none }
def AssignScaledWrongFalsely : Prop := assignScaledRow.holds Try.pinned (OpenSpec.ofChange assignScaledWrong)

/-- 'cabstandlaw17.AssignBeside': WHATEVER THE INPUT: true; the input reads as it did. -/
def assignBesideSpec : ChangeSpec := { name := "assignBeside", fn := fun _ => fun
  | [d1, d2] => { results := [.lit (.bool true)], args := [d1, d2] }
  | _ => none }
def assignBesideRow : OpenClaim := { program := "ytmddhjoomlhbcaa", sum := "5185b01874c7eb5f3b37ff3c68c966b0426992adb0bfbbbdda64cbc3b5332b56", func := "cabstand/cabstandlaw17.AssignBeside", spec := "assignBeside", unfollowed := true, recurses := true, apart := false }
def AssignBesideSaid : Prop := assignBesideRow.holds Try.pinned (OpenSpec.ofChange assignBesideSpec)

/-- ITS FALSE NEIGHBOUR: 'it returns false'. Refute it at one input. -/
def assignBesideWrong : ChangeSpec := { name := "assignBeside", fn := fun _ => fun
  | [d1, d2] => { results := [.lit (.bool false)], args := [d1, d2] }
  | _ => none }
def AssignBesideWrongFalsely : Prop := assignBesideRow.holds Try.pinned (OpenSpec.ofChange assignBesideWrong)

/-- 'cabstandlaw17.AssignNames': WHATEVER THE INPUT: true; the input reads as it did. -/
def assignNamesSpec : ChangeSpec := { name := "assignNames", fn := fun _ => fun
  | [] => { results := [.lit (.bool true)], args := [] }
  | _ => none }
def assignNamesRow : OpenClaim := { program := "ytmddhjoomlhbcaa", sum := "5185b01874c7eb5f3b37ff3c68c966b0426992adb0bfbbbdda64cbc3b5332b56", func := "cabstand/cabstandlaw17.AssignNames", spec := "assignNames", unfollowed := true, recurses := true, apart := false }
def AssignNamesSaid : Prop := assignNamesRow.holds Try.pinned (OpenSpec.ofChange assignNamesSpec)

/-- ITS FALSE NEIGHBOUR: 'it returns false'. Refute it at one input. -/
def assignNamesWrong : ChangeSpec := { name := "assignNames", fn := fun _ => fun
  | [] => { results := [.lit (.bool false)], args := [] }
  | _ => none }
def AssignNamesWrongFalsely : Prop := assignNamesRow.holds Try.pinned (OpenSpec.ofChange assignNamesWrong)

/- THE SECOND FORM. 'bulk': how many values and letters a reading holds, each counted each time it is reached (what is shared counts as often as it is met; a slice's spare places count too). A statement '..UptoSaid' is the law's where the arguments, and the package variables that the reading takes, are together of bulk at most 1048576: NARROWER than '..Said'. Prove '..Said' where nothing that the law and all that it calls make is longer than what came in: it says more and counts as full. Else prove '..UptoSaid'. A law counts once. -/
mutual
def uptoBulk {H : Type} : DataW H → Nat
  | .lit (.string bytes) => bytes.length + 1
  | .lit _ => 1
  | .nil => 1
  | .ptr d => uptoBulk d + 1
  | .slice elems spare => uptoBulkAll elems + uptoBulkAll spare + 1
  | .agg parts => uptoBulkAll parts + 1
  | .iface _ d => uptoBulk d + 1
  | .map entries => uptoBulkEntries entries + 1
  | .held _ => 1
def uptoBulkAll {H : Type} : List (DataW H) → Nat
  | [] => 0
  | d :: r => uptoBulk d + uptoBulkAll r
def uptoBulkEntries {H : Type} : List (Lit × DataW H) → Nat
  | [] => 0
  | x :: r => uptoBulkEntry x + uptoBulkEntries r
def uptoBulkEntry {H : Type} : Lit × DataW H → Nat
  | (.string bytes, d) => bytes.length + uptoBulk d + 1
  | (_, d) => uptoBulk d + 1
 end
def uptoSmall : (H : Type) → List (DataW H) → Bool := fun _ ds => decide (uptoBulkAll ds ≤ 1048576)
def OpenSpec.upto (s : _root_.Go.ChangeSpec) : _root_.Go.OpenSpec := { _root_.Go.OpenSpec.ofChange s with cond := some uptoSmall }

/-- 'cabstandlaw17.AssignWorths', WHERE WHAT IT READS IS OF BULK AT MOST 1048576: true; the input reads as it did. -/
def assignWorthsUptoRow : OpenClaim := { program := "ytmddhjoomlhbcaa", sum := "5185b01874c7eb5f3b37ff3c68c966b0426992adb0bfbbbdda64cbc3b5332b56", func := "cabstand/cabstandlaw17.AssignWorths", spec := "assignWorths", unfollowed := true, recurses := true, apart := false, narrowed := true }
def AssignWorthsUptoSaid : Prop := assignWorthsUptoRow.holds Try.pinned (OpenSpec.upto assignWorthsSpec)

/-- 'cabstandlaw17.AssignShows', WHERE WHAT IT READS IS OF BULK AT MOST 1048576: true; the input reads as it did. -/
def assignShowsUptoRow : OpenClaim := { program := "ytmddhjoomlhbcaa", sum := "5185b01874c7eb5f3b37ff3c68c966b0426992adb0bfbbbdda64cbc3b5332b56", func := "cabstand/cabstandlaw17.AssignShows", spec := "assignShows", unfollowed := true, recurses := true, apart := false, narrowed := true }
def AssignShowsUptoSaid : Prop := assignShowsUptoRow.holds Try.pinned (OpenSpec.upto assignShowsSpec)

/-- 'cabstandlaw17.AssignLeast', WHERE WHAT IT READS IS OF BULK AT MOST 1048576: true; the input reads as it did. -/
def assignLeastUptoRow : OpenClaim := { program := "ytmddhjoomlhbcaa", sum := "5185b01874c7eb5f3b37ff3c68c966b0426992adb0bfbbbdda64cbc3b5332b56", func := "cabstand/cabstandlaw17.AssignLeast", spec := "assignLeast", unfollowed := true, recurses := true, apart := false, narrowed := true }
def AssignLeastUptoSaid : Prop := assignLeastUptoRow.holds Try.pinned (OpenSpec.upto assignLeastSpec)

/-- 'cabstandlaw17.AssignEnds', WHERE WHAT IT READS IS OF BULK AT MOST 1048576: true; the input reads as it did. -/
def assignEndsUptoRow : OpenClaim := { program := "ytmddhjoomlhbcaa", sum := "5185b01874c7eb5f3b37ff3c68c966b0426992adb0bfbbbdda64cbc3b5332b56", func := "cabstand/cabstandlaw17.AssignEnds", spec := "assignEnds", unfollowed := true, recurses := true, apart := false, narrowed := true }
def AssignEndsUptoSaid : Prop := assignEndsUptoRow.holds Try.pinned (OpenSpec.upto assignEndsSpec)

/-- 'cabstandlaw17.AssignWithout', WHERE WHAT IT READS IS OF BULK AT MOST 1048576: true; the input reads as it did. -/
def assignWithoutUptoRow : OpenClaim := { program := "ytmddhjoomlhbcaa", sum := "5185b01874c7eb5f3b37ff3c68c966b0426992adb0bfbbbdda64cbc3b5332b56", func := "cabstand/cabstandlaw17.AssignWithout", spec := "assignWithout", unfollowed := true, recurses := true, apart := false, narrowed := true }
def AssignWithoutUptoSaid : Prop := assignWithoutUptoRow.holds Try.pinned (OpenSpec.upto assignWithoutSpec)

/-- 'cabstandlaw17.AssignColumn', WHERE WHAT IT READS IS OF BULK AT MOST 1048576: true; the input reads as it did. -/
def assignColumnUptoRow : OpenClaim := { program := "ytmddhjoomlhbcaa", sum := "5185b01874c7eb5f3b37ff3c68c966b0426992adb0bfbbbdda64cbc3b5332b56", func := "cabstand/cabstandlaw17.AssignColumn", spec := "assignColumn", unfollowed := true, recurses := true, apart := false, narrowed := true }
def AssignColumnUptoSaid : Prop := assignColumnUptoRow.holds Try.pinned (OpenSpec.upto assignColumnSpec)

/-- 'cabstandlaw17.AssignRow', WHERE WHAT IT READS IS OF BULK AT MOST 1048576: true; the input reads as it did. -/
def assignRowUptoRow : OpenClaim := { program := "ytmddhjoomlhbcaa", sum := "5185b01874c7eb5f3b37ff3c68c966b0426992adb0bfbbbdda64cbc3b5332b56", func := "cabstand/cabstandlaw17.AssignRow", spec := "assignRow", unfollowed := true, recurses := true, apart := false, narrowed := true }
def AssignRowUptoSaid : Prop := assignRowUptoRow.holds Try.pinned (OpenSpec.upto assignRowSpec)

/-- 'cabstandlaw17.AssignScaled', WHERE WHAT IT READS IS OF BULK AT MOST 1048576: true; the input reads as it did. -/
def assignScaledUptoRow : OpenClaim := { program := "ytmddhjoomlhbcaa", sum := "5185b01874c7eb5f3b37ff3c68c966b0426992adb0bfbbbdda64cbc3b5332b56", func := "cabstand/cabstandlaw17.AssignScaled", spec := "assignScaled", unfollowed := true, recurses := true, apart := false, narrowed := true }
def AssignScaledUptoSaid : Prop := assignScaledUptoRow.holds Try.pinned (OpenSpec.upto assignScaledSpec)

/-- 'cabstandlaw17.AssignBeside', WHERE WHAT IT READS IS OF BULK AT MOST 1048576: true; the input reads as it did. -/
def assignBesideUptoRow : OpenClaim := { program := "ytmddhjoomlhbcaa", sum := "5185b01874c7eb5f3b37ff3c68c966b0426992adb0bfbbbdda64cbc3b5332b56", func := "cabstand/cabstandlaw17.AssignBeside", spec := "assignBeside", unfollowed := true, recurses := true, apart := false, narrowed := true }
def AssignBesideUptoSaid : Prop := assignBesideUptoRow.holds Try.pinned (OpenSpec.upto assignBesideSpec)

/-- 'cabstandlaw17.AssignNames', WHERE WHAT IT READS IS OF BULK AT MOST 1048576: true; the input reads as it did. -/
def assignNamesUptoRow : OpenClaim := { program := "ytmddhjoomlhbcaa", sum := "5185b01874c7eb5f3b37ff3c68c966b0426992adb0bfbbbdda64cbc3b5332b56", func := "cabstand/cabstandlaw17.AssignNames", spec := "assignNames", unfollowed := true, recurses := true, apart := false, narrowed := true }
def AssignNamesUptoSaid : Prop := assignNamesUptoRow.holds Try.pinned (OpenSpec.upto assignNamesSpec)

end Rows
end Go.Proofs.Ytmddhjoomlhbcaa
