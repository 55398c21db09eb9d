/- Steps of a region's head, by what the operation does. -/
import Derived.Test.YtkaalppmheikgaaHpPu
import Derived.Test.YtkaalppmheikgaaMapD
namespace Go.Proofs.Ytkaalppmheikgaa
open Go.RowKit

section
variable {P : Program}
/-- A step in the head of a region that ends in an effect. -/
theorem still_exec {ops : Array Oper} {rest : List Oper} {o : Oper} {a : Act} {w : World} {Q : Act → Prop} (hgd : o.guard = none) {v : Value} (hr : (execOp a.eval o).run P w = .ok (.value v) w)
    (h : wpStill P ops w Q rest (a.put o.dst v)) : wpStill P ops w Q (o :: rest) a :=
  wpStill_step fun K hK => by
    rw [if_pos (by simp [Region.wanted, hgd])]
    unfold Oper.still
    rw [hr]
    exact ⟨rfl, hK _ h⟩
theorem still_execg {ops : Array Oper} {rest : List Oper} {o : Oper} {a : Act} {w : World} {Q : Act → Prop} (hgd : Region.wanted o (yielded ops a.tmps) = true) {v : Value} (hr : (execOp a.eval o).run P w = .ok (.value v) w)
    (h : wpStill P ops w Q rest (a.put o.dst v)) : wpStill P ops w Q (o :: rest) a :=
  wpStill_step fun K hK => by
    rw [if_pos hgd]
    unfold Oper.still
    rw [hr]
    exact ⟨rfl, hK _ h⟩
end
theorem stopper {P : Prop} (h : Hid P) : P := h.out
theorem fl_take {α : Type} {f : α → Array Value} {s : Nat} (hs : ∀ x, (f x).size = s) (l : List α) {k : Nat} (hk : k ≤ l.length) : (fl f l).take (k * s) = fl f (l.take k) := by
  have h1 : fl f l = fl f (l.take k) ++ fl f (l.drop k) := by rw [← fl_append, List.take_append_drop]
  have h2 : (fl f (l.take k)).length = k * s := by rw [fl_len hs, List.length_take, Nat.min_eq_left hk]
  rw [h1, ← h2, List.take_left]
/-- What Drop leaves. -/
def DrpAns (w : World) (h b : Nat) (v : Value) (came : Int) (l : List It) (x : It) (w' : World) : Prop :=
  ∃ (T' : List (Id8 × Int)) (v' : Value) (l' : List It), HpAt w' h b T' v' l' came ∧ l.Perm (x :: l') ∧ HeapOk l' ∧ Kp (HOwn h b v) w w' ∧ v'.ownBlock = v.ownBlock
section
variable {l : List It} {i : Nat} {x y : It}
theorem swp_last (hi : l[i]? = some x) (hl : l[l.length - 1]? = some y) : (swp l i (l.length - 1)).take (l.length - 1) = (l.take (l.length - 1)).set i y := by
  have h1 := (List.getElem?_eq_some_iff.1 hi).1
  apply List.ext_getElem?
  intro k
  rw [List.getElem?_take, swp_get hi hl, List.getElem?_set, List.length_take, List.getElem?_take]
  by_cases e1 : k < l.length - 1
  · rw [if_pos e1, if_neg (by omega)]
    by_cases e2 : k = i
    · rw [if_pos e2, if_pos e2.symm, if_pos (by omega)]
    · rw [if_neg e2, if_neg (fun e => e2 e.symm), if_pos e1]
  · rw [if_neg e1]
    by_cases e2 : i = k
    · rw [if_pos e2, if_neg (by omega)]
    · rw [if_neg e2, if_neg e1]
theorem swp_end (hi : l[i]? = some x) (hl : l[l.length - 1]? = some y) : (swp l i (l.length - 1))[(swp l i (l.length - 1)).length - 1]? = some x := by
  rw [swp_len, swp_get hi hl, if_pos rfl]
theorem swp_drop (hi : l[i]? = some x) (hl : l[l.length - 1]? = some y) : l.Perm (x :: (swp l i (l.length - 1)).take (l.length - 1)) := by
  have h1 := (List.getElem?_eq_some_iff.1 hi).1
  have h2 := (List.getElem?_eq_some_iff.1 hl).1
  have hp := swp_perm (l := l) (i := i) (j := l.length - 1) h1 h2
  have he := swp_end hi hl
  have hlen := swp_len l i (l.length - 1)
  refine hp.symm.trans ?_
  generalize swp l i (l.length - 1) = m at *
  have h3 : m.take (m.length - 1) ++ [x] = m := by
    obtain ⟨h4, h5⟩ := List.getElem?_eq_some_iff.1 he
    have h6 := List.take_succ_eq_append_getElem h4
    rw [h5, List.take_of_length_le (by omega)] at h6
    exact h6.symm
  rw [hlen] at h3
  have h7 : (m.take (l.length - 1) ++ [x]).Perm (x :: m.take (l.length - 1)) := List.perm_append_comm
  rw [h3] at h7
  exact h7
end
end Go.Proofs.Ytkaalppmheikgaa
