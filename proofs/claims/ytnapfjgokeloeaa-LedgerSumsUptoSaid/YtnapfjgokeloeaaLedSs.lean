/- What LedgerSums asks, plain. -/
import Derived.Test.YtnapfjgokeloeaaLedIn
namespace Go.Proofs.Ytnapfjgokeloeaa
open Go.RowKit

theorem GoodE.take {E : List En} (h : GoodE E) (k : Nat) : GoodE (E.take k) := by
  induction h with
  | nil => rw [List.take_nil]; exact .nil
  | snoc E e h1 h2 ih =>
    by_cases hk : k ≤ E.length
    · rw [List.take_append_of_le_length hk]; exact ih
    · rw [List.take_of_length_le (by rw [List.length_append, List.length_singleton]; omega)]; exact .snoc E e h1 h2
theorem GoodE.bd {E : List En} (h : GoodE E) (x : Id8) : -4611686018427387903 ≤ sumE E x ∧ sumE E x ≤ 4611686018427387903 := by
  induction h with
  | nil => show -4611686018427387903 ≤ (0 : Int) ∧ (0 : Int) ≤ 4611686018427387903; omega
  | snoc E e h1 h2 ih =>
    obtain ⟨q1, q2, q3, q4, q5⟩ := h2
    rw [sumE_snoc]
    unfold oneE
    by_cases e1 : e.to = x
    · rw [if_pos e1, if_neg (fun e2 => q3 (e2.trans e1.symm))]; rw [e1] at q5; omega
    · rw [if_neg e1]
      by_cases e2 : e.fr = x
      · rw [if_pos e2]; rw [e2] at q4; omega
      · rw [if_neg e2]; omega
theorem sortI_le (l : List Id8) : (sortI l).Pairwise fun x y => num x.1 ≤ num y.1 := by
  have tr : ∀ a b c : List Int, decide (num a ≤ num b) = true → decide (num b ≤ num c) = true → decide (num a ≤ num c) = true := fun a b c h1 h2 => by simp at *; omega
  have to : ∀ a b : List Int, (decide (num a ≤ num b) || decide (num b ≤ num a)) = true := fun a b => by simp; omega
  have h1 : ((sortI l).map Subtype.val).Pairwise fun a b => decide (num a ≤ num b) = true := by rw [sortI_vals]; exact List.pairwise_mergeSort tr to _
  rw [List.pairwise_map] at h1
  exact h1.imp fun h => by simpa using h
theorem sortI_lt {l : List Id8} (hn : l.Nodup) : (sortI l).Pairwise fun x y => num x.1 < num y.1 := by
  have h1 := sortI_le l
  have h2 : (sortI l).Nodup := (sortI_perm l).nodup_iff.2 hn
  refine (h1.and h2).imp fun {a b} ⟨h3, h4⟩ => ?_
  rcases Int.lt_or_eq_of_le h3 with h | h
  · exact h
  · exact absurd (Subtype.ext (num_inj8 a.2 b.2 h)) h4
/-- The sums, in two parts. -/
def lowS (b : Id8 → Int) (l : List Id8) : Int := (l.map fun x => (b x).tmod 1000003).sum
def highS (b : Id8 → Int) (l : List Id8) : Int := (l.map fun x => (b x).tdiv 1000003).sum
theorem lowS_snoc (b : Id8 → Int) (l : List Id8) (x : Id8) : lowS b (l ++ [x]) = lowS b l + (b x).tmod 1000003 := by unfold lowS; simp
theorem highS_snoc (b : Id8 → Int) (l : List Id8) (x : Id8) : highS b (l ++ [x]) = highS b l + (b x).tdiv 1000003 := by unfold highS; simp
theorem lowS_bd (b : Id8 → Int) (l : List Id8) : -(l.length * 1000003 : Int) ≤ lowS b l ∧ lowS b l ≤ l.length * 1000003 := by
  refine snoc_ind (P := fun l => -(l.length * 1000003 : Int) ≤ lowS b l ∧ lowS b l ≤ l.length * 1000003) (by show -((0 : Nat) * 1000003 : Int) ≤ 0 ∧ (0 : Int) ≤ (0 : Nat) * 1000003; omega) (fun l x ih => ?_) l
  rw [lowS_snoc, List.length_append, List.length_singleton]
  have h1 := Int.tmod_lt_of_pos (b x) (show (0 : Int) < 1000003 by omega)
  have h2 := Int.lt_tmod_of_pos (b x) (show (0 : Int) < 1000003 by omega)
  omega
theorem parts_sum (b : Id8 → Int) (l : List Id8) : highS b l * 1000003 + lowS b l = (l.map b).sum := by
  unfold highS lowS
  induction l with
  | nil => rfl
  | cons a l ih =>
    simp only [List.map_cons, List.sum_cons]
    have := Int.tdiv_mul_add_tmod (b a) 1000003
    rw [← ih]; omega
theorem wrap_add (a b : Int) : IntKind.i64.wrap (IntKind.i64.wrap a + b) = IntKind.i64.wrap (a + b) := by
  rw [IntKind.wrap_i64, IntKind.wrap_i64, IntKind.wrap_i64]; omega
theorem wrap_mul (a : Int) : IntKind.i64.wrap (IntKind.i64.wrap a * 1000003) = IntKind.i64.wrap (a * 1000003) := by
  rw [IntKind.wrap_i64, IntKind.wrap_i64, IntKind.wrap_i64]; omega
theorem wrap_zero {h l : Int} (e : h * 1000003 + l = 0) : IntKind.i64.wrap (IntKind.i64.wrap (IntKind.i64.wrap h * 1000003) + l) = 0 := by
  rw [wrap_mul, wrap_add, e]; rfl
end Go.Proofs.Ytnapfjgokeloeaa
