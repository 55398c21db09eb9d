/- What is known of the best's lists, for the laws (plain). -/
import Derived.Test.YtmddhjoomlhbcaaAsWo
namespace Go.Proofs.Ytmddhjoomlhbcaa
open Go.RowKit

theorem sum_takeN {l : List Int} : ∀ {n : Nat}, n ≤ l.length → (l.take n).sum = sumN (getI l) n
  | 0, _ => by simp [sumN]
  | n + 1, h => by
    have h1 : n < l.length := by omega
    rw [List.take_succ_eq_append_getElem h1, List.sum_append, sum_takeN (by omega), sumN]
    simp [getI, h1]
theorem take_get {l : List Int} {n i : Nat} (hi : i < n) (hn : n ≤ l.length) : (l.take n)[i]? = some (getI l i) := by
  have h1 : i < l.length := by omega
  rw [List.getElem?_take_of_lt hi]
  simp [getI, h1]

section
variable {g : Gr} {tt y z : List Int}
theorem BestAns.sizes (hc : chk g = true) : g.rows.toNat ≤ 64 ∧ g.cols.toNat ≤ 64 ∧ g.rows = (g.rows.toNat : Int) ∧ g.cols = (g.cols.toNat : Int) := by
  have := chk_size hc
  omega
theorem BestAns.price_y (h : BestAns g tt y z) (hc : chk g = true) {r : Nat} (hr : r < g.rows.toNat) : 0 ≤ getI y r ∧ getI y r ≤ 1099513724929 := by
  refine ⟨h.best.dual.y0 r hr, ?_⟩
  by_cases e : upTo g.rows.toNat tt r < 0
  · rw [h.best.slack.row r hr e]; omega
  · obtain ⟨c, h1, ⟨_, h2, _⟩, _⟩ := h.best.mat.edge r (by omega)
    have h3 := h.best.slack.pair r c hr h2 h1
    have h4 := h.best.dual.z0 c h2
    have h5 := (wG_ok hc).hi r c
    omega
theorem BestAns.price_z (h : BestAns g tt y z) (hc : chk g = true) {c : Nat} (hcc : c < g.cols.toNat) : 0 ≤ getI z c ∧ getI z c ≤ 1099513724929 := by
  refine ⟨h.best.dual.z0 c hcc, ?_⟩
  by_cases e : ∃ r, r < g.rows.toNat ∧ upTo g.rows.toNat tt r = c
  · obtain ⟨r, hr, h1⟩ := e
    have h3 := h.best.slack.pair r c hr hcc h1
    have h4 := h.best.dual.y0 r hr
    have h5 := (wG_ok hc).hi r c
    omega
  · rw [h.best.slack.col c hcc fun r hr h1 => e ⟨r, hr, h1⟩]; omega
theorem BestAns.sums (h : BestAns g tt y z) (hc : chk g = true) : (y.take g.rows.toNat).sum + (z.take g.cols.toNat).sum = Go.Proofs.Ytmddhjoomlhbcaa.val (wG g) (upTo g.rows.toNat tt) g.rows.toNat := by
  obtain ⟨h1, h2, _⟩ := BestAns.sizes hc
  rw [sum_takeN (by rw [h.ly]; exact h1), sum_takeN (by rw [h.lz]; exact h2), val_eq h.best.mat h.best.slack]
theorem BestAns.y_none (h : BestAns g tt y z) {r : Nat} (hr : r < g.rows.toNat) (hn : getI tt r < 0) : getI y r = 0 :=
  h.best.slack.row r hr (by unfold upTo; rw [if_pos hr]; exact hn)
theorem BestAns.z_none (h : BestAns g tt y z) {c : Nat} (hcc : c < g.cols.toNat) (hn : ∀ r, r < g.rows.toNat → getI tt r ≠ c) : getI z c = 0 :=
  h.best.slack.col c hcc fun r hr => by unfold upTo; rw [if_pos hr]; exact hn r hr
theorem BestAns.y_in (h : BestAns g tt y z) (hc : chk g = true) : ∀ x ∈ y.take g.rows.toNat, 0 ≤ x ∧ x ≤ 150000000000000 := by
  intro x hx
  obtain ⟨i, hi⟩ := List.getElem?_of_mem hx
  have hl : i < g.rows.toNat := by have := (List.getElem?_eq_some_iff.1 hi).1; rw [List.length_take] at this; omega
  rw [take_get hl (by rw [h.ly]; exact (BestAns.sizes hc).1)] at hi
  have := h.price_y hc hl
  cases hi; omega
theorem BestAns.z_in (h : BestAns g tt y z) (hc : chk g = true) : ∀ x ∈ z.take g.cols.toNat, 0 ≤ x ∧ x ≤ 150000000000000 := by
  intro x hx
  obtain ⟨i, hi⟩ := List.getElem?_of_mem hx
  have hl : i < g.cols.toNat := by have := (List.getElem?_eq_some_iff.1 hi).1; rw [List.length_take] at this; omega
  rw [take_get hl (by rw [h.lz]; exact (BestAns.sizes hc).2.1)] at hi
  have := h.price_z hc hl
  cases hi; omega
theorem BestAns.pair_in (h : BestAns g tt y z) {p : Int × Int} (hp : p ∈ prsTo tt g.rows.toNat) : ∃ r c : Nat, p = ((r : Int), (c : Int)) ∧ r < g.rows.toNat ∧ c < g.cols.toNat ∧ getI tt r = c := by
  unfold prsTo at hp
  obtain ⟨r, hr, he⟩ := List.mem_filterMap.1 hp
  have hr' := List.mem_range.1 hr
  split at he
  · cases he
  · cases he
    rcases h.val r hr' with h1 | ⟨c, h1, h2⟩
    · omega
    · exact ⟨r, c, by rw [h1], hr', h2, h1⟩
theorem BestAns.pair_of {r c : Nat} (hr : r < g.rows.toNat) (he : getI tt r = c) : ((r : Int), (c : Int)) ∈ prsTo tt g.rows.toNat := by
  unfold prsTo
  refine List.mem_filterMap.2 ⟨r, List.mem_range.2 hr, ?_⟩
  rw [if_neg (by omega), he]
theorem BestAns.edge (h : BestAns g tt y z) (hc : chk g = true) {x : Ed} (hx : x ∈ g.es) : ∃ r c : Nat, x.r = r ∧ x.c = c ∧ r < g.rows.toNat ∧ c < g.cols.toNat ∧ x.w ≤ getI y r + getI z c := by
  obtain ⟨r, c, h1, h2, h3, h4, _, _⟩ := edge_ok hc hx
  have hr : r < g.rows.toNat := by omega
  have hcc : c < g.cols.toNat := by omega
  have h5 := h.best.dual.feas r c hr hcc
  rw [wG_edge hc hx h1 h2] at h5
  exact ⟨r, c, h1, h2, hr, hcc, h5⟩
end

/-- Numbers marked, one behind the other. -/
def markB (b : List Bool) (l : List Nat) : List Bool := l.foldl (fun b i => b.set i true) b
theorem markB_len (b : List Bool) (l : List Nat) : (markB b l).length = b.length := by
  induction l generalizing b with
  | nil => rfl
  | cons a l ih => show (markB (b.set a true) l).length = _; rw [ih]; simp
theorem markB_snoc (b : List Bool) (l : List Nat) (i : Nat) : markB b (l ++ [i]) = (markB b l).set i true := by simp [markB]
theorem markB_get {b : List Bool} {l : List Nat} {i : Nat} (hi : i < b.length) : (markB b l)[i]? = some (b[i] || l.contains i) := by
  induction l generalizing b with
  | nil => simp [markB, hi]
  | cons a l ih =>
    show (markB (b.set a true) l)[i]? = _
    rw [ih (by simpa using hi)]
    by_cases e : a = i
    · subst e; simp
    · have : (b.set a true)[i]'(by simpa using hi) = b[i] := by rw [List.getElem_set_ne e]
      rw [this]
      have e2 : ¬ i = a := fun h => e h.symm
      simp [e2]
end Go.Proofs.Ytmddhjoomlhbcaa
