/- The laws' small functions. -/
import Derived.Test.YtkaalppmheikgaaRdN
import Derived.Test.YtkaalppmheikgaaOpPl
namespace Go.Proofs.Ytkaalppmheikgaa
open Go.RowKit

theorem tmodn (k n : Int) (hn : 0 < n) : (if k.tmod n < 0 then k.tmod n + n else k.tmod n) = k % n := by
  have h1 := Int.emod_nonneg k (show n ≠ 0 by omega)
  have h2 := Int.emod_lt_of_pos k hn
  rw [Int.tmod_eq_emod]
  by_cases h : 0 ≤ k ∨ n ∣ k
  · rw [if_pos h, if_neg (by omega)]; omega
  · rw [if_neg h, show ((n.natAbs : Nat) : Int) = n by omega, if_pos (by omega)]; omega
set_option maxRecDepth 100000 in
set_option maxHeartbeats 1000000 in
theorem round_any (k n : Int) (_ : I64 k) (hn : 0 < n ∧ n ≤ 4611686018427387904) (w : World) : Calls Try.prog 10 #[.int .i64 k, .int .i64 n] w fun e w' => e = .returned (.int .i64 (k % n)) ∧ w' = w := by
  have ht := hid (tmodn k n hn.1)
  have h1 := Int.tmod_lt_of_pos k hn.1
  have h2 := Int.lt_tmod_of_pos k hn.1
  have hn0 : ¬ n = 0 := by omega
  have hnb : (n == 0) = false := by simpa using hn0
  obtain ⟨r, hr⟩ : ∃ r, r = k % n := ⟨_, rfl⟩
  rw [← hr] at ht ⊢
  clear hr
  by_cases hlt : k.tmod n < 0
  · have hr : Hid (k.tmod n + n = r) := hid (by rw [← ht.out, if_pos hlt])
    have hw := IntWalk.i64_in (k.tmod n + n) (by omega)
    have hw2 := IntWalk.i64_in (k.tmod n) (by omega)
    go_enter Try.func10, Try.ntmps10
    go_wp2
    go_ret
    exact ⟨by rw [← hr.out]; first | rfl | (congr 1), rfl⟩
  · have hr : Hid (k.tmod n = r) := hid (by rw [← ht.out, if_neg hlt])
    have hw2 := IntWalk.i64_in (k.tmod n) (by omega)
    go_enter Try.func10, Try.ntmps10
    go_wp2
    go_ret
    exact ⟨by rw [← hr.out]; rfl, rfl⟩
end Go.Proofs.Ytkaalppmheikgaa
