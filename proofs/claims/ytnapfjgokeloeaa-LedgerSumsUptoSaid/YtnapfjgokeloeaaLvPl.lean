/- The laws' examples, plain. -/
import Derived.Test.YtnapfjgokeloeaaLedN
namespace Go.Proofs.Ytnapfjgokeloeaa
open Go.RowKit

theorem sortI_eq {l r : List Id8} (hp : r.Perm l) (hs : r.Pairwise fun x y => num x.1 ≤ num y.1) : sortI l = r := by
  have h1 : (sortI l).map Subtype.val = r.map Subtype.val := by
    rw [sortI_vals]
    have tr : ∀ a b c : List Int, decide (num a ≤ num b) = true → decide (num b ≤ num c) = true → decide (num a ≤ num c) = true := fun a b c h1 h2 => by simp at *; omega
    have to : ∀ a b : List Int, (decide (num a ≤ num b) || decide (num b ≤ num a)) = true := fun a b => by simp; omega
    refine List.Perm.eq_of_pairwise (le := fun a b => decide (num a ≤ num b) = true) ?_ (List.pairwise_mergeSort tr to _) ?_ ((sortB_perm _).trans (hp.symm.map _))
    · intro a b ha hb h1 h2
      simp at h1 h2
      obtain ⟨x, _, rfl⟩ := List.mem_map.1 (sortB_mem.1 ha)
      obtain ⟨y, _, rfl⟩ := List.mem_map.1 hb
      exact num_inj8 x.2 y.2 (by omega)
    · exact List.pairwise_map.2 (hs.imp fun h => by simpa using h)
  exact (List.map_inj_right (fun a b h => Subtype.ext h)).1 h1
def tA : List (Id8 × Ac) := [(i1, ⟨0, 100⟩)]
def tB : List (Id8 × Ac) := [(i2, ⟨50, 0⟩), (i1, ⟨-50, 100⟩)]
def tC : List (Id8 × Ac) := [(i3, ⟨20, 0⟩), (i2, ⟨30, 0⟩), (i1, ⟨-50, 100⟩)]
def eB : List En := [⟨i1, i2, 50⟩]
def eC : List En := [⟨i1, i2, 50⟩, ⟨i2, i3, 20⟩]
def lS : List En := [⟨i2, i1, 30⟩, ⟨i3, i1, 20⟩]
def lAl : List En := [⟨i3, i2, 5⟩, ⟨i3, i4, 16⟩, ⟨i4, i2, 1⟩]
theorem lv_1 : payE [] i1 i2 50 = 230 ∧ payT [] i1 i2 50 = [] ∧ payN [] [] i1 i2 50 = [] := by decide
theorem lv_2 : credE [] i1 100 = 0 ∧ credT [] i1 100 = tA := by decide
theorem lv_3 : payE tA i1 i2 50 = 0 ∧ payT tA i1 i2 50 = tB ∧ payN tA [] i1 i2 50 = eB := by decide
theorem lv_4 : payE tB i2 i3 20 = 0 ∧ payT tB i2 i3 20 = tC ∧ payN tB eB i2 i3 20 = eC := by decide
theorem lv_5 : settleF tC = lS := by
  have h : sortI (Keys tC) = [i1, i2, i3] := sortI_eq (by
    refine (List.perm_ext_iff_of_nodup (by decide) (by decide)).2 fun x => ?_
    show x ∈ [i1, i2, i3] ↔ x ∈ [i3, i2, i1]
    simp only [List.mem_cons, List.not_mem_nil, or_false]
    constructor
    · rintro (h | h | h)
      · exact .inr (.inr h)
      · exact .inr (.inl h)
      · exact .inl h
    · rintro (h | h | h)
      · exact .inr (.inr h)
      · exact .inr (.inl h)
      · exact .inl h) (by decide)
  unfold settleF
  rw [h]
  decide
theorem lv_6 : allR tC lAl = (1, 230) ∧ allT2 tC lAl = tC ∧ allE2 tC eC lAl = eC := by decide
theorem lv_7 : (acOf tC i1).bal = -50 ∧ (acOf tC i2).bal = 30 ∧ eC.length = 2 := by decide
theorem ok_C : OkT tA ∧ OkT tB ∧ OkT tC := by
  have h1 : OkT tA := by rw [← lv_2.2]; exact credT_ok OkT.nil _ _
  have h2 : OkT tB := by rw [← lv_3.2.1]; exact payT_ok h1 _ _ _
  exact ⟨h1, h2, by rw [← lv_4.2.1]; exact payT_ok h2 _ _ _⟩
end Go.Proofs.Ytnapfjgokeloeaa
