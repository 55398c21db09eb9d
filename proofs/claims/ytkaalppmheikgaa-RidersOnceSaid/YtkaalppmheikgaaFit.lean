/- The settings' bounds. -/
import Derived.Test.YtkaalppmheikgaaHpPu
namespace Go.Proofs.Ytkaalppmheikgaa
open Go.RowKit

theorem among_any (a n : Int) (w : World) : Calls Try.prog 47 #[.int .i64 a, .int .i64 n] w fun e w' => e = .returned (.bool (decide (1 ≤ a) && decide (a ≤ n))) ∧ Below w.heap.size w w' := by
  by_cases h1 : (1 : Int) ≤ a
  · have hd := decide_eq_true h1
    go_enter Try.func47, Try.ntmps47
    go_wp2_with fail
    go_ret
    exact ⟨by rw [hd]; rfl, Below.refl _ _⟩
  · have hd := decide_eq_false h1
    go_enter Try.func47, Try.ntmps47
    go_wp2_with fail
    go_ret
    exact ⟨rfl, Below.refl _ _⟩
theorem tick_any (a : Int) (w : World) : Calls Try.prog 30 #[.int .i64 a] w fun e w' => e = .returned (.bool (decide (0 ≤ a) && decide (a ≤ 1099511627776))) ∧ Below w.heap.size w w' := by
  by_cases h1 : (0 : Int) ≤ a
  · have hd := decide_eq_true h1
    go_enter Try.func30, Try.ntmps30
    go_wp2_with fail
    go_ret
    exact ⟨by rw [hd]; rfl, Below.refl _ _⟩
  · have hd := decide_eq_false h1
    go_enter Try.func30, Try.ntmps30
    go_wp2_with fail
    go_ret
    exact ⟨rfl, Below.refl _ _⟩
end Go.Proofs.Ytkaalppmheikgaa
