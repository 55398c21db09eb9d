/- num.Add. -/
import Derived.Test.YtnapfjgokeloeaaLedB
import Derived.Test.YtnapfjgokeloeaaSlB1
namespace Go.Proofs.Ytnapfjgokeloeaa
open Go.RowKit

set_option maxRecDepth 100000 in
set_option maxHeartbeats 4000000 in
theorem is_any (n : Int) (w : World) : Calls Try.prog 39 #[.int .i64 n] w fun e w' => e = .returned (.bool (decide (-4611686018427387903 ≤ n ∧ n ≤ 4611686018427387903))) ∧ w' = w := by
  obtain ⟨β, hβ0⟩ : ∃ β, β = decide (-4611686018427387903 ≤ n ∧ n ≤ 4611686018427387903) := ⟨_, rfl⟩
  rw [← hβ0]
  have hβ := hid hβ0
  clear hβ0
  go_enter Try.func39, Try.ntmps39
  by_cases h1 : -4611686018427387903 ≤ n
  · by_cases h2 : n ≤ 4611686018427387903
    · have HD : Hid (β = true) := hid (hβ.out.trans (decide_eq_true ⟨h1, h2⟩))
      go_wp2
      go_ret
      exact ⟨by rw [HD.out]; rfl, rfl⟩
    · have HD : Hid (β = false) := hid (hβ.out.trans (decide_eq_false (fun h => h2 h.2)))
      go_wp2
      go_ret
      exact ⟨by rw [HD.out]; rfl, rfl⟩
  · have HD : Hid (β = false) := hid (hβ.out.trans (decide_eq_false (fun h => h1 h.1)))
    go_wp2
    go_ret
    exact ⟨by rw [HD.out]; rfl, rfl⟩
set_option maxRecDepth 100000 in
set_option maxHeartbeats 4000000 in
theorem add_any (a n : Int) (ha : -4611686018427387903 ≤ a ∧ a ≤ 4611686018427387903) (hn : 1 ≤ n ∧ n ≤ 4611686018427387903) (w : World) :
    Calls Try.prog 34 #[.int .i64 a, .int .i64 n] w fun e w' => e = .returned (.tuple #[.int .i64 (if a + n ≤ 4611686018427387903 then a + n else 0), .bool (decide (a + n ≤ 4611686018427387903))]) ∧ w' = w := by
  have hw := IntWalk.i64_in (a + n) (by omega)
  have K1 := hid (is_any a w)
  have K2 := hid (is_any n w)
  have K3 := hid (is_any (a + n) w)
  rw [show decide (-4611686018427387903 ≤ a ∧ a ≤ 4611686018427387903) = true from decide_eq_true ha] at K1
  rw [show decide (-4611686018427387903 ≤ n ∧ n ≤ 4611686018427387903) = true from decide_eq_true (by omega)] at K2
  rw [show decide (-4611686018427387903 ≤ a + n ∧ a + n ≤ 4611686018427387903) = decide (a + n ≤ 4611686018427387903) by rw [decide_eq_decide]; omega] at K3
  have Ua := hid trivial
  have Ub := hid trivial
  go_enter Try.func34, Try.ntmps34
  by_cases h : a + n ≤ 4611686018427387903
  · rw [decide_eq_true h] at K3
    rw [decide_eq_true h, if_pos h]
    clear ha hn h
    go_wp2_with (first | (go_at_call 39; clear Ua; refine K1.out.mono ?_; rintro e w2 ⟨rfl, rfl⟩) | (go_at_call 39; clear Ub; refine K2.out.mono ?_; rintro e w2 ⟨rfl, rfl⟩) | (go_at_call 39; refine K3.out.mono ?_; rintro e w2 ⟨rfl, rfl⟩))
    go_ret2
    exact ⟨rfl, rfl⟩
  · rw [decide_eq_false h] at K3
    rw [decide_eq_false h, if_neg h]
    clear ha hn h
    go_wp2_with (first | (go_at_call 39; clear Ua; refine K1.out.mono ?_; rintro e w2 ⟨rfl, rfl⟩) | (go_at_call 39; clear Ub; refine K2.out.mono ?_; rintro e w2 ⟨rfl, rfl⟩) | (go_at_call 39; refine K3.out.mono ?_; rintro e w2 ⟨rfl, rfl⟩))
    go_ret2
    exact ⟨rfl, rfl⟩
end Go.Proofs.Ytnapfjgokeloeaa
