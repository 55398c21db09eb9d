/- Expire, plain. -/
import Derived.Test.YtkaalppmheikgaaRdPl
namespace Go.Proofs.Ytkaalppmheikgaa
open Go.RowKit

/-- By when their time is over, and by their numbers. -/
def exLt (a b : Wt) : Prop := endOf a < endOf b ∨ (endOf a = endOf b ∧ a.num < b.num)
/-- What Expire answers, what stays. -/
structure ExpOk (T : List (Id8 × Wt)) (now : Int) (L : List Wt) (U : List (Id8 × Wt)) : Prop where
  perm : (L.map (fun x => (x.rq.id, x)) ++ U).Perm T
  due : ∀ x ∈ L, endOf x < now
  stay : ∀ p ∈ U, now ≤ endOf p.2
  order : L.Pairwise exLt
structure ExpI (T : List (Id8 × Wt)) (now : Int) (L : List Wt) (U : List (Id8 × Wt)) : Prop where
  perm : (L.map (fun x => (x.rq.id, x)) ++ U).Perm T
  due : ∀ x ∈ L, endOf x < now
  order : L.Pairwise exLt
  front : ∀ a ∈ L, ∀ q ∈ U, exLt a q.2
theorem ExpI.start (T : List (Id8 × Wt)) (now : Int) : ExpI T now [] T := ⟨List.Perm.refl _, by simp, List.Pairwise.nil, by simp⟩
theorem perm_delM {T : List (Id8 × Wt)} {p : Id8 × Wt} (hpT : p ∈ T) (hk : (Keys T).Nodup) : T.Perm (p :: delM T p.1) := by
  induction T with
  | nil => cases hpT
  | cons q T ih =>
    unfold Keys at hk ih
    rw [List.map_cons, List.nodup_cons] at hk
    rcases List.mem_cons.1 hpT with rfl | hpT
    · have h1 := delM_none (T := T) (x := p.1) hk.1
      unfold delM at *
      rw [List.filter_cons_of_neg (by simp), h1]
    · have hne : q.1 ≠ p.1 := fun e => hk.1 (by rw [e]; exact List.mem_map_of_mem hpT)
      unfold delM at *
      rw [List.filter_cons_of_pos (by simpa using hne)]
      exact (List.Perm.cons q (ih hpT hk.2)).trans (List.Perm.swap _ _ _)
theorem ExpI.step {T : List (Id8 × Wt)} {now : Int} {L : List Wt} {U : List (Id8 × Wt)} (h : ExpI T now L U) (hU : (Keys U).Nodup) (hids : ∀ p ∈ T, p.2.rq.id = p.1) (hnums : (T.map fun p => p.2.num).Nodup) {k : Id8} {y : Wt} (hy : (k, y) ∈ U) (hlt : endOf y < now)
    (hl : ∀ q ∈ U, ¬ (endOf q.2 < endOf y ∨ (endOf q.2 = endOf y ∧ q.2.num < y.num))) : ExpI T now (L ++ [y]) (delM U k) := by
  have hp := perm_delM hy hU
  have hk : y.rq.id = k := hids (k, y) (h.perm.mem_iff.1 (List.mem_append_right _ hy))
  have hUn : (U.map fun p => p.2.num).Nodup := by
    have h1 := ((h.perm.map fun p => p.2.num).nodup_iff).2 hnums
    rw [List.map_append] at h1
    exact (List.nodup_append.1 h1).2.1
  have hn2 := ((hp.map fun p => p.2.num).nodup_iff).1 hUn
  rw [List.map_cons, List.nodup_cons] at hn2
  refine ⟨?_, ?_, ?_, ?_⟩
  · rw [List.map_append, List.map_cons, List.map_nil, hk, List.append_assoc]
    exact ((hp.symm).append_left _).trans h.perm
  · intro x hx
    rcases List.mem_append.1 hx with hx | hx
    · exact h.due x hx
    · rw [List.mem_singleton.1 hx]; exact hlt
  · rw [List.pairwise_append]
    refine ⟨h.order, List.pairwise_singleton _ _, fun a ha b hb => ?_⟩
    rw [List.mem_singleton.1 hb]
    exact h.front a ha _ hy
  · intro a ha q hq
    have hqU : q ∈ U := (delM_mem.1 hq).1
    rcases List.mem_append.1 ha with ha | ha
    · exact h.front a ha q hqU
    · rw [List.mem_singleton.1 ha]
      have h1 := hl q hqU
      have h2 : q.2.num ≠ y.num := fun e => hn2.1 (by rw [← e]; exact List.mem_map.2 ⟨q, hq, rfl⟩)
      unfold exLt
      omega
theorem ExpI.fin {T : List (Id8 × Wt)} {now : Int} {L : List Wt} {U : List (Id8 × Wt)} (h : ExpI T now L U) (hs : ∀ p ∈ U, now ≤ endOf p.2) : ExpOk T now L U := ⟨h.perm, h.due, hs, h.order⟩
theorem ExpOk.len {T : List (Id8 × Wt)} {now : Int} {L : List Wt} {U : List (Id8 × Wt)} (h : ExpOk T now L U) : L.length + U.length = T.length := by
  have := h.perm.length_eq
  simpa using this
/-- The heap's first is the least. -/
theorem rel_least {T : List (Id8 × Wt)} {l : List It} (h : HRel T l) (hh : HeapOk l) {a : It} (ha : l[0]? = some a) {y : Wt} (e1 : endOf y = a.tick) (e2 : y.num = a.num) : ∀ q ∈ T, ¬ (endOf q.2 < endOf y ∨ (endOf q.2 = endOf y ∧ q.2.num < y.num)) := by
  intro q hq
  obtain ⟨b, hb, _, h2, h3⟩ := h.mem' hq
  obtain ⟨i, hi⟩ := List.getElem?_of_mem hb
  have := itLt_not.1 (heap_root hh ha i b hi)
  omega
end Go.Proofs.Ytkaalppmheikgaa
