/- The heap: a new one. -/
import Derived.Test.YtkaalppmheikgaaHpPu
namespace Go.Proofs.Ytkaalppmheikgaa
open Go.RowKit

set_option maxRecDepth 100000 in
theorem hnew_any (w : World) : Calls Try.prog 37 #[lessV] w fun e w' => e = .returned (.pointer (some ⟨w.heap.size + 1, 0, none⟩)) ∧ HpAt w' (w.heap.size + 1) w.heap.size [] (.slice none 0 0) [] 0 ∧ Below w.heap.size w w' := by
  have hmm := @run_makeMap Try.prog
  go_enter Try.func37, Try.ntmps37
  go_wp2
  go_ret
  refine ⟨rfl, ⟨heap2_new _ _ _ _, (MapIs.new w).same (Below.heap_alloc _ _ _ (by simp)), Row.nil _ _ _ _, ?_⟩, ((Below.refl _ _).alloc (Nat.le_refl _) _).alloc (by simp) _⟩
  intro x i
  simp [lkp]
end Go.Proofs.Ytkaalppmheikgaa
