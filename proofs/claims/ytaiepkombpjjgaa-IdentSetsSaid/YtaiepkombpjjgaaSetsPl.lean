/- A set of a list: plain facts. -/
import Derived.Test.YtaiepkombpjjgaaCnt
import Derived.Test.YtaiepkombpjjgaaGath
import Derived.Test.YtaiepkombpjjgaaSetOps
namespace Go.Proofs.Ytaiepkombpjjgaa
open Go.RowKit

theorem mem_ins {S : List (List Int)} {x y : List Int} : y ∈ ins S x ↔ y ∈ S ∨ y = x := by
  unfold ins
  by_cases h : x ∈ S
  · rw [if_pos h]; exact ⟨.inl, fun e => e.elim id fun e => e ▸ h⟩
  · rw [if_neg h]; simp
theorem mem_insAll {l S : List (List Int)} {y : List Int} : y ∈ insAll S l ↔ y ∈ S ∨ y ∈ l := by
  unfold insAll
  induction l generalizing S with
  | nil => simp
  | cons a l ih =>
    rw [List.foldl_cons, ih, mem_ins, List.mem_cons]
    constructor
    · rintro ((h | h) | h)
      · exact .inl h
      · exact .inr (.inl h)
      · exact .inr (.inr h)
    · rintro (h | h | h)
      · exact .inl (.inl h)
      · exact .inl (.inr h)
      · exact .inr h
theorem ins_len (S : List (List Int)) (x : List Int) : (ins S x).length ≤ S.length + 1 := by
  unfold ins
  by_cases h : x ∈ S
  · rw [if_pos h]; omega
  · rw [if_neg h]; simp
theorem insAll_len (l S : List (List Int)) : (insAll S l).length ≤ S.length + l.length := by
  unfold insAll
  induction l generalizing S with
  | nil => simp
  | cons a l ih =>
    have h1 := ih (ins S a)
    have h2 := ins_len S a
    rw [List.foldl_cons, List.length_cons]; omega
theorem vals_mem {l : List Id8} {x : Id8} : x.1 ∈ vals l ↔ x ∈ l := by
  unfold vals
  rw [List.mem_map]
  exact ⟨fun ⟨y, h1, h2⟩ => Subtype.ext h2 ▸ h1, fun h => ⟨x, h, rfl⟩⟩
theorem vals_B8 {l : List Id8} : ∀ x ∈ vals l, B8 x := fun x hx => by
  unfold vals at hx
  obtain ⟨y, _, rfl⟩ := List.mem_map.1 hx
  exact y.2
theorem SetIs.b8 {w : World} {p b : Nat} {S : List (List Int)} (h : SetIs w p b S) : ∀ x ∈ S, B8 x := by obtain ⟨_, _, _, _, _, _, h, _⟩ := h; exact h
theorem SetIs.nodup {w : World} {p b : Nat} {S : List (List Int)} (h : SetIs w p b S) : S.Nodup := by obtain ⟨_, _, _, _, _, _, _, h, _⟩ := h; exact h
theorem idsOf_len (S : List (List Int)) (h : ∀ x ∈ S, B8 x) : (idsOf S h).length = S.length := by rw [← List.length_map (f := Subtype.val), idsOf_val, sortB_len]
theorem idsOf_mem {S : List (List Int)} {h : ∀ x ∈ S, B8 x} {x : Id8} : x ∈ idsOf S h ↔ x.1 ∈ S := by
  have h1 := vals_mem (l := idsOf S h) (x := x)
  unfold vals at h1
  rw [idsOf_val, sortB_mem] at h1
  exact h1.symm
theorem sortB_lt {S : List (List Int)} (h : ∀ x ∈ S, B8 x) (hn : S.Nodup) : (sortB S).Pairwise fun x y => num x < num y := by
  have tr : ∀ a b c : List Int, decide (num a ≤ num b) = true → decide (num b ≤ num c) = true → decide (num a ≤ num c) = true := fun a b c h1 h2 => by simp at *; omega
  have to : ∀ a b : List Int, (decide (num a ≤ num b) || decide (num b ≤ num a)) = true := fun a b => by simp; omega
  have h1 : (sortB S).Pairwise fun x y => decide (num x ≤ num y) = true := List.pairwise_mergeSort tr to S
  have h2 : (sortB S).Nodup := (sortB_perm S).nodup_iff.2 hn
  have h3 := h1.and h2
  refine h3.imp_of_mem fun {a b} ha hb hab => ?_
  have h4 : num a ≤ num b := by simpa using hab.1
  have h5 : num a ≠ num b := fun e => hab.2 (num_inj8 (h a (sortB_mem.1 ha)) (h b (sortB_mem.1 hb)) e)
  omega
theorem idsOf_lt {S : List (List Int)} (h : ∀ x ∈ S, B8 x) (hn : S.Nodup) : (idsOf S h).Pairwise fun x y => num x.1 < num y.1 := by
  have h1 := sortB_lt h hn
  rw [← idsOf_val S h, List.pairwise_map] at h1
  exact h1
theorem idsOf_nodup {S : List (List Int)} (h : ∀ x ∈ S, B8 x) (hn : S.Nodup) : (idsOf S h).Nodup := (idsOf_lt h hn).imp fun h1 e => by subst e; omega

/-- The set behind k drops. -/
def dropTo (S : List (List Int)) (L : List Id8) (k : Nat) : List (List Int) := (L.take k).foldl (fun S x => S.erase x.1) S
theorem dropTo_succ (S : List (List Int)) {L : List Id8} {k : Nat} {x : Id8} (h : L[k]? = some x) : dropTo S L (k + 1) = (dropTo S L k).erase x.1 := by
  obtain ⟨hk, rfl⟩ := List.getElem?_eq_some_iff.1 h
  unfold dropTo
  rw [List.take_succ_eq_append_getElem hk, List.foldl_append]; rfl
theorem dropTo_nodup {S : List (List Int)} (hn : S.Nodup) (L : List Id8) : ∀ k, k ≤ L.length → (dropTo S L k).Nodup ∧ ∀ x : Id8, x.1 ∈ dropTo S L k ↔ x.1 ∈ S ∧ x ∉ L.take k
  | 0, _ => by unfold dropTo; simp [hn]
  | k + 1, hk => by
    obtain ⟨h1, h2⟩ := dropTo_nodup hn L k (by omega)
    have hx := List.getElem?_eq_getElem (l := L) (i := k) (by omega)
    rw [dropTo_succ S hx]
    refine ⟨h1.erase _, fun x => ?_⟩
    rw [h1.mem_erase_iff, h2 x, List.take_succ_eq_append_getElem (by omega), List.mem_append, List.mem_singleton]
    constructor
    · rintro ⟨e1, e2, e3⟩
      exact ⟨e2, fun h => h.elim e3 fun h => e1 (by rw [h])⟩
    · rintro ⟨e1, e2⟩
      exact ⟨fun h => e2 (.inr (Subtype.ext h)), e1, fun h => e2 (.inl h)⟩
theorem dropTo_len {S : List (List Int)} (hS : ∀ x ∈ S, B8 x) (hn : S.Nodup) {k : Nat} (hk : k ≤ S.length) : (dropTo S (idsOf S hS) k).length = S.length - k := by
  induction k with
  | zero => unfold dropTo; simp
  | succ k ih =>
    have hl := idsOf_len S hS
    have hk' : k < (idsOf S hS).length := by omega
    have hx := List.getElem?_eq_getElem hk'
    rw [dropTo_succ S hx]
    have h1 := (dropTo_nodup hn (idsOf S hS) k (by omega)).2 (idsOf S hS)[k]
    have h2 : (idsOf S hS)[k].1 ∈ dropTo S (idsOf S hS) k := h1.2 ⟨idsOf_mem.1 (List.getElem_mem _), fun h => by
      have h3 := idsOf_nodup hS hn
      rw [← List.take_append_drop k (idsOf S hS), List.nodup_append] at h3
      refine h3.2.2 _ h _ ?_ rfl
      rw [List.drop_eq_getElem_cons hk']
      exact List.mem_cons_self⟩
    rw [List.length_erase_of_mem h2, ih (by omega)]; omega
theorem dropTo_mem {S : List (List Int)} (hS : ∀ x ∈ S, B8 x) (hn : S.Nodup) {k : Nat} {x : Id8} (h : (idsOf S hS)[k]? = some x) : x.1 ∈ dropTo S (idsOf S hS) k ∧ x.1 ∉ dropTo S (idsOf S hS) (k + 1) := by
  obtain ⟨hk', rfl⟩ := List.getElem?_eq_some_iff.1 h
  constructor
  · refine ((dropTo_nodup hn (idsOf S hS) k (by omega)).2 _).2 ⟨idsOf_mem.1 (List.getElem_mem _), fun h => ?_⟩
    have h3 := idsOf_nodup hS hn
    rw [← List.take_append_drop k (idsOf S hS), List.nodup_append] at h3
    refine h3.2.2 _ h _ ?_ rfl
    rw [List.drop_eq_getElem_cons hk']
    exact List.mem_cons_self
  · intro h4
    have h5 := ((dropTo_nodup hn (idsOf S hS) (k + 1) (by omega)).2 _).1 h4
    exact h5.2 (by rw [List.take_succ_eq_append_getElem hk']; exact List.mem_append_right _ (List.mem_singleton.2 rfl))
end Go.Proofs.Ytaiepkombpjjgaa
