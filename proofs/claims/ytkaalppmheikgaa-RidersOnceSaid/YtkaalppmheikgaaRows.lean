/-
  No cell of these rows narrows 'for every input' (looked for: loops, veiled, ifaces, maps, wideKeys, modest, calm, conditions, laid).
  DERIVED. THE GIVEN ROWS OF THIS SEAT. 5 by the template 'for every input the law returns true; each argument reads behind the call as it read before'; 0 by the template 'total and deterministic' (their statements: YtkaalppmheikgaaTotals.lean).
  GIVEN WITH THE SEED: the statements are not yours to turn. If you find one false, say at which input.
  Laid BY PROGRAM, IN A SANDBOX (cutbox-rows.mjs): the forced cells as the released guide's own fill.sh prints them over the translation dcae98f4e8aa3ab8… (all of the seat's roots in one cut). By AI agents, Wed Nov 11 2026. No macro, syntax, notation, axiom, sorry.
-/
import Derived.Test.YtkaalppmheikgaaChecked
import GoSem.Claim
import GoSem.ClaimJoined
import GoSem.ClaimMapViews
import Derived.JoinedTies
import Derived.KernelRfl
namespace Go.Proofs.Ytkaalppmheikgaa
/- THE CELL 'sum', in the pinned program and in every row, IS THE sha256 OF THE DUMP (.gsa) THAT YtkaalppmheikgaaProg.lean LOADS. Nothing in Lean hashes anything: it is a label: what it is worth is what the hold of that sum in a sandbox is worth. -/
noncomputable def Try.pinned : Pinned := { name := "ytkaalppmheikgaa", sum := "dcae98f4e8aa3ab86f894e9bf4c8bf4fb0190ca631842e30a9b5bb496a1c91e5", checked := Try.checked }
namespace Rows
def none {H : Type} : Left H := { results := [], args := [] }

/-- 'cabstandlaw14.RidersOnce': WHATEVER THE INPUT: true; the input reads as it did. -/
def ridersOnceSpec : ChangeSpec := { name := "ridersOnce", fn := fun _ => fun
  | [d1, d2] => { results := [.lit (.bool true)], args := [d1, d2] }
  | _ => none }
def ridersOnceRow : OpenClaim := { program := "ytkaalppmheikgaa", sum := "dcae98f4e8aa3ab86f894e9bf4c8bf4fb0190ca631842e30a9b5bb496a1c91e5", func := "cabstand/cabstandlaw14.RidersOnce", spec := "ridersOnce", inPlace := ["internal/bytealg.Compare"], unfollowed := true, recurses := true, plainKeys := false, apart := false }
def RidersOnceSaid : Prop := ridersOnceRow.holds Try.pinned (OpenSpec.ofChange ridersOnceSpec)

/-- ITS FALSE NEIGHBOUR: 'it returns false'. Refute it at one input. -/
def ridersOnceWrong : ChangeSpec := { name := "ridersOnce", fn := fun _ => fun
  | [d1, d2] => { results := [.lit (.bool false)], args := [d1, d2] }
  | _ => none }
def RidersOnceWrongFalsely : Prop := ridersOnceRow.holds Try.pinned (OpenSpec.ofChange ridersOnceWrong)

/-- 'cabstandlaw14.RidersFull': WHATEVER THE INPUT: true; the input reads as it did. -/
def ridersFullSpec : ChangeSpec := { name := "ridersFull", fn := fun _ => fun
  | [d1, d2, d3, d4, d5] => { results := [.lit (.bool true)], args := [d1, d2, d3, d4, d5] }
  | _ => none }
def ridersFullRow : OpenClaim := { program := "ytkaalppmheikgaa", sum := "dcae98f4e8aa3ab86f894e9bf4c8bf4fb0190ca631842e30a9b5bb496a1c91e5", func := "cabstand/cabstandlaw14.RidersFull", spec := "ridersFull", inPlace := ["internal/bytealg.Compare"], unfollowed := true, recurses := true, plainKeys := false, apart := false }
def RidersFullSaid : Prop := ridersFullRow.holds Try.pinned (OpenSpec.ofChange ridersFullSpec)

/-- ITS FALSE NEIGHBOUR: 'it returns false'. Refute it at one input. -/
def ridersFullWrong : ChangeSpec := { name := "ridersFull", fn := fun _ => fun
  | [d1, d2, d3, d4, d5] => { results := [.lit (.bool false)], args := [d1, d2, d3, d4, d5] }
  | _ => none }
def RidersFullWrongFalsely : Prop := ridersFullRow.holds Try.pinned (OpenSpec.ofChange ridersFullWrong)

/-- 'cabstandlaw14.RidersTimes': WHATEVER THE INPUT: true; the input reads as it did. -/
def ridersTimesSpec : ChangeSpec := { name := "ridersTimes", fn := fun _ => fun
  | [d1, d2, d3] => { results := [.lit (.bool true)], args := [d1, d2, d3] }
  | _ => none }
def ridersTimesRow : OpenClaim := { program := "ytkaalppmheikgaa", sum := "dcae98f4e8aa3ab86f894e9bf4c8bf4fb0190ca631842e30a9b5bb496a1c91e5", func := "cabstand/cabstandlaw14.RidersTimes", spec := "ridersTimes", inPlace := ["internal/bytealg.Compare"], unfollowed := true, recurses := true, plainKeys := false, apart := false }
def RidersTimesSaid : Prop := ridersTimesRow.holds Try.pinned (OpenSpec.ofChange ridersTimesSpec)

/-- ITS FALSE NEIGHBOUR: 'it returns false'. Refute it at one input. -/
def ridersTimesWrong : ChangeSpec := { name := "ridersTimes", fn := fun _ => fun
  | [d1, d2, d3] => { results := [.lit (.bool false)], args := [d1, d2, d3] }
  | _ => none }
def RidersTimesWrongFalsely : Prop := ridersTimesRow.holds Try.pinned (OpenSpec.ofChange ridersTimesWrong)

/-- 'cabstandlaw14.RidersNames': WHATEVER THE INPUT: true; the input reads as it did. -/
def ridersNamesSpec : ChangeSpec := { name := "ridersNames", fn := fun _ => fun
  | [] => { results := [.lit (.bool true)], args := [] }
  | _ => none }
def ridersNamesRow : OpenClaim := { program := "ytkaalppmheikgaa", sum := "dcae98f4e8aa3ab86f894e9bf4c8bf4fb0190ca631842e30a9b5bb496a1c91e5", func := "cabstand/cabstandlaw14.RidersNames", spec := "ridersNames", inPlace := ["internal/bytealg.Compare"], unfollowed := true, recurses := true, plainKeys := false, apart := false }
def RidersNamesSaid : Prop := ridersNamesRow.holds Try.pinned (OpenSpec.ofChange ridersNamesSpec)

/-- ITS FALSE NEIGHBOUR: 'it returns false'. Refute it at one input. -/
def ridersNamesWrong : ChangeSpec := { name := "ridersNames", fn := fun _ => fun
  | [] => { results := [.lit (.bool false)], args := [] }
  | _ => none }
def RidersNamesWrongFalsely : Prop := ridersNamesRow.holds Try.pinned (OpenSpec.ofChange ridersNamesWrong)

/-- 'cabstandlaw14.RidersGoOn': WHATEVER THE INPUT: true; the input reads as it did. -/
def ridersGoOnSpec : ChangeSpec := { name := "ridersGoOn", fn := fun _ => fun
  | [d1, d2, d3] => { results := [.lit (.bool true)], args := [d1, d2, d3] }
  | _ => none }
def ridersGoOnRow : OpenClaim := { program := "ytkaalppmheikgaa", sum := "dcae98f4e8aa3ab86f894e9bf4c8bf4fb0190ca631842e30a9b5bb496a1c91e5", func := "cabstand/cabstandlaw14.RidersGoOn", spec := "ridersGoOn", inPlace := ["internal/bytealg.Compare"], unfollowed := true, recurses := true, plainKeys := false, apart := false }
def RidersGoOnSaid : Prop := ridersGoOnRow.holds Try.pinned (OpenSpec.ofChange ridersGoOnSpec)

/-- ITS FALSE NEIGHBOUR: 'it returns false'. Refute it at one input. -/
def ridersGoOnWrong : ChangeSpec := { name := "ridersGoOn", fn := fun _ => fun
  | [d1, d2, d3] => { results := [.lit (.bool false)], args := [d1, d2, d3] }
  | _ => none }
def RidersGoOnWrongFalsely : Prop := ridersGoOnRow.holds Try.pinned (OpenSpec.ofChange ridersGoOnWrong)

/- THE SECOND FORM. 'bulk': how many values and letters a reading holds, each counted each time it is reached (what is shared counts as often as it is met; a slice's spare places count too). A statement '..UptoSaid' is the law's where the arguments, and the package variables that the reading takes, are together of bulk at most 1048576: NARROWER than '..Said'. Prove '..Said' where nothing that the law and all that it calls make is longer than what came in: it says more and counts as full. Else prove '..UptoSaid'. A law counts once. -/
mutual
def uptoBulk {H : Type} : DataW H → Nat
  | .lit (.string bytes) => bytes.length + 1
  | .lit _ => 1
  | .nil => 1
  | .ptr d => uptoBulk d + 1
  | .slice elems spare => uptoBulkAll elems + uptoBulkAll spare + 1
  | .agg parts => uptoBulkAll parts + 1
  | .iface _ d => uptoBulk d + 1
  | .map entries => uptoBulkEntries entries + 1
  | .held _ => 1
def uptoBulkAll {H : Type} : List (DataW H) → Nat
  | [] => 0
  | d :: r => uptoBulk d + uptoBulkAll r
def uptoBulkEntries {H : Type} : List (Lit × DataW H) → Nat
  | [] => 0
  | x :: r => uptoBulkEntry x + uptoBulkEntries r
def uptoBulkEntry {H : Type} : Lit × DataW H → Nat
  | (.string bytes, d) => bytes.length + uptoBulk d + 1
  | (_, d) => uptoBulk d + 1
 end
def uptoSmall : (H : Type) → List (DataW H) → Bool := fun _ ds => decide (uptoBulkAll ds ≤ 1048576)
def OpenSpec.upto (s : _root_.Go.ChangeSpec) : _root_.Go.OpenSpec := { _root_.Go.OpenSpec.ofChange s with cond := some uptoSmall }

/-- 'cabstandlaw14.RidersOnce', WHERE WHAT IT READS IS OF BULK AT MOST 1048576: true; the input reads as it did. -/
def ridersOnceUptoRow : OpenClaim := { program := "ytkaalppmheikgaa", sum := "dcae98f4e8aa3ab86f894e9bf4c8bf4fb0190ca631842e30a9b5bb496a1c91e5", func := "cabstand/cabstandlaw14.RidersOnce", spec := "ridersOnce", inPlace := ["internal/bytealg.Compare"], unfollowed := true, recurses := true, plainKeys := false, apart := false, narrowed := true }
def RidersOnceUptoSaid : Prop := ridersOnceUptoRow.holds Try.pinned (OpenSpec.upto ridersOnceSpec)

/-- 'cabstandlaw14.RidersFull', WHERE WHAT IT READS IS OF BULK AT MOST 1048576: true; the input reads as it did. -/
def ridersFullUptoRow : OpenClaim := { program := "ytkaalppmheikgaa", sum := "dcae98f4e8aa3ab86f894e9bf4c8bf4fb0190ca631842e30a9b5bb496a1c91e5", func := "cabstand/cabstandlaw14.RidersFull", spec := "ridersFull", inPlace := ["internal/bytealg.Compare"], unfollowed := true, recurses := true, plainKeys := false, apart := false, narrowed := true }
def RidersFullUptoSaid : Prop := ridersFullUptoRow.holds Try.pinned (OpenSpec.upto ridersFullSpec)

/-- 'cabstandlaw14.RidersTimes', WHERE WHAT IT READS IS OF BULK AT MOST 1048576: true; the input reads as it did. -/
def ridersTimesUptoRow : OpenClaim := { program := "ytkaalppmheikgaa", sum := "dcae98f4e8aa3ab86f894e9bf4c8bf4fb0190ca631842e30a9b5bb496a1c91e5", func := "cabstand/cabstandlaw14.RidersTimes", spec := "ridersTimes", inPlace := ["internal/bytealg.Compare"], unfollowed := true, recurses := true, plainKeys := false, apart := false, narrowed := true }
def RidersTimesUptoSaid : Prop := ridersTimesUptoRow.holds Try.pinned (OpenSpec.upto ridersTimesSpec)

/-- 'cabstandlaw14.RidersNames', WHERE WHAT IT READS IS OF BULK AT MOST 1048576: true; the input reads as it did. -/
def ridersNamesUptoRow : OpenClaim := { program := "ytkaalppmheikgaa", sum := "dcae98f4e8aa3ab86f894e9bf4c8bf4fb0190ca631842e30a9b5bb496a1c91e5", func := "cabstand/cabstandlaw14.RidersNames", spec := "ridersNames", inPlace := ["internal/bytealg.Compare"], unfollowed := true, recurses := true, plainKeys := false, apart := false, narrowed := true }
def RidersNamesUptoSaid : Prop := ridersNamesUptoRow.holds Try.pinned (OpenSpec.upto ridersNamesSpec)

/-- 'cabstandlaw14.RidersGoOn', WHERE WHAT IT READS IS OF BULK AT MOST 1048576: true; the input reads as it did. -/
def ridersGoOnUptoRow : OpenClaim := { program := "ytkaalppmheikgaa", sum := "dcae98f4e8aa3ab86f894e9bf4c8bf4fb0190ca631842e30a9b5bb496a1c91e5", func := "cabstand/cabstandlaw14.RidersGoOn", spec := "ridersGoOn", inPlace := ["internal/bytealg.Compare"], unfollowed := true, recurses := true, plainKeys := false, apart := false, narrowed := true }
def RidersGoOnUptoSaid : Prop := ridersGoOnUptoRow.holds Try.pinned (OpenSpec.upto ridersGoOnSpec)

end Rows
end Go.Proofs.Ytkaalppmheikgaa
