/- Beyond: is it more than is copied? -/
import Derived.Test.YtnapfjgokeloeaaMemRows
import Derived.Test.YtnapfjgokeloeaaRows
import Derived.Test.YtnapfjgokeloeaaTab
import Derived.Deep.QuietTactic
namespace Go.Proofs.Ytnapfjgokeloeaa
open Go.RowKit

def numV (x : Int) : Array Value := #[.int .i64 x]
theorem num_cell {w : World} {A : Option Addr} {l : List Int} (h : RowsAt 1 numV w A l) {i : Nat} {x : Int} (hx : l[i]? = some x) : ∃ g o, A = some ⟨g, o, none⟩ ∧ w.cell? ⟨g, o + i, none⟩ = some (.int .i64 x) := by
  obtain ⟨g, o, h1, _, h2⟩ := h.get hx
  have h3 := h2 0 (.int .i64 x) rfl
  rw [Nat.one_mul, Nat.add_zero] at h3
  exact ⟨g, o, h1, h3⟩
theorem sum_take_le {l : List Int} (hb : ∀ x ∈ l, 0 ≤ x) (k : Nat) : (l.take k).sum ≤ l.sum := by
  induction l generalizing k with
  | nil => simp
  | cons a l ih =>
    have h0 := hb a (by simp)
    cases k with
    | zero =>
      have h9 := ih (fun x hx => hb x (by simp [hx])) 0
      simp only [List.take_zero, List.sum_nil, List.sum_cons] at h9 ⊢
      omega
    | succ k =>
      have h9 := ih (fun x hx => hb x (by simp [hx])) k
      simp only [List.take_succ_cons, List.sum_cons]
      omega

set_option maxRecDepth 100000 in
theorem beyond_any (l : List Int) (A : Option Addr) (c : Nat) (hl : l.length ≤ 64) (hb : ∀ x ∈ l, 0 ≤ x) (hs : l.sum ≤ 9223372036854775807) (w : World) (ha : RowsAt 1 numV w A l) :
    Calls Try.prog 19 #[.slice A l.length c] w fun e w' => e = .returned (.bool (decide (1048576 < l.sum))) ∧ ∃ m, w' = w.drewN m := by
  have HA := hid ha
  have HB := hid hb
  clear ha hb
  go_enter Try.func19, Try.ntmps19
  go_wp2
  go_loopw [3, 4] (fun s i wr => ∃ (k : Nat) (n : Int), k ≤ l.length ∧ i = .int .i64 k ∧ s = .int .i64 n ∧ (0 ≤ n ∧ n ≤ 1048576) ∧ Hid ((l.take k).sum = n) ∧ Hid (∃ m, wr = w.drewN m)) (fun _ i _ => l.length - (intOf i).toNat)
  case atStart => exact ⟨0, 0, by omega, rfl, rfl, by omega, hid rfl, hid ⟨0, rfl⟩⟩
  case round =>
    obtain ⟨k, n, hk, rfl, rfl, hn, HS, HM⟩ := hrel
    obtain ⟨m, rfl⟩ := HM.out
    by_cases hlt : k < l.length
    · have hki : (k : Int) < (l.length : Int) := by omega
      obtain ⟨x, hx⟩ : ∃ x, l[k]? = some x := ⟨l[k], by simp [hlt]⟩
      obtain ⟨ga, oa, rfl, cx⟩ := num_cell HA.out hx
      have hxb := HB.out x (List.mem_of_getElem? hx)
      have hxs := sum_take_le HB.out (k + 1)
      have HS2 : Hid ((l.take (k + 1)).sum = n + x) := hid (by
        obtain ⟨h1, h2⟩ := List.getElem?_eq_some_iff.1 hx
        rw [List.take_succ_eq_append_getElem h1, List.sum_append, HS.out, h2]; simp)
      rw [HS2.out] at hxs
      have hxs2 : n + x ≤ 9223372036854775807 := by omega
      clear hx hxs
      have hk64 : (k : Int) ≤ 64 := by omega
      by_cases hbig : 1048576 < n + x
      · have HN : Hid (decide (1048576 < l.sum) = true) := hid (decide_eq_true (by
          have := sum_take_le HB.out (k + 1)
          rw [HS2.out] at this; omega))
        go_wp2
        go_ret
        exact ⟨by rw [HN.out]; rfl, _, rfl⟩
      · go_wp2
        go_roundw
        case rel => exact ⟨k + 1, n + x, by omega, by go_num, rfl, by omega, HS2, hid ⟨_, rfl⟩⟩
        case measure => simp [intOf]; omega
    · obtain rfl : k = l.length := by omega
      have hki : ¬ ((l.length : Int) < (l.length : Int)) := by omega
      have HN : Hid (decide (1048576 < l.sum) = false) := hid (decide_eq_false (by have := HS.out; rw [List.take_length] at this; omega))
      clear hk hlt
      go_wp2
      go_ret
      exact ⟨by rw [HN.out]; rfl, m, rfl⟩

/-- Beyond of one number. -/
theorem beyond_one (n : Int) (hb : 0 ≤ n ∧ n ≤ 9223372036854775807) (w : World) (g : Nat) (hg : w.heap[g]? = some (.cells #[.int .i64 n] 3 (0, 0))) :
    Calls Try.prog 19 #[.slice (some ⟨g, 0, none⟩) 1 1] w fun e w' => e = .returned (.bool (decide (1048576 < n))) ∧ Below w.heap.size w w' := by
  have h := beyond_any [n] (some ⟨g, 0, none⟩) 1 (by simp) (by intro x hx; simp at hx; omega) (by simp; omega) w (.inr ⟨g, 0, rfl, heap_lt hg, fun i x hx j v hj => by
    have hi : i = 0 := by have := (List.getElem?_eq_some_iff.1 hx).1; simp at this; omega
    subst hi
    obtain rfl : n = x := by simpa using hx
    exact row_cell hg _ _ (by simpa [numV] using hj)⟩)
  refine h.mono fun e w' ⟨h1, m, h2⟩ => ⟨by rw [h1]; simp, h2 ▸ ⟨rfl, rfl, rfl, Nat.le_refl _, fun _ _ => rfl⟩⟩
end Go.Proofs.Ytnapfjgokeloeaa
