/- Rows of elements of some cells each, in a block of their own: read, set, made. -/
import Derived.Test.YtkaalppmheikgaaMemRows
import Derived.Test.YtkaalppmheikgaaBkPl
import Derived.Laws.MakeOwn
import Derived.Deep.QuietTactic
namespace Go.Proofs.Ytkaalppmheikgaa
open Go.RowKit

section
variable {α : Type} {f : α → Array Value} {s : Nat}
/-- The elements' cells, one behind the other. -/
def fl (f : α → Array Value) (l : List α) : List Value := l.flatMap fun x => (f x).toList
theorem fl_len (hs : ∀ x, (f x).size = s) (l : List α) : (fl f l).length = l.length * s := by
  unfold fl
  induction l with
  | nil => simp
  | cons a l ih => rw [List.flatMap_cons, List.length_append, ih, Array.length_toList, hs, List.length_cons, Nat.add_mul]; omega
theorem fl_get (hs : ∀ x, (f x).size = s) {l : List α} {i : Nat} {x : α} (h : l[i]? = some x) {j : Nat} (hj : j < s) : (fl f l)[i * s + j]? = (f x)[j]? := by
  unfold fl
  induction l generalizing i with
  | nil => simp at h
  | cons a l ih =>
    have ha : (f a).toList.length = s := by rw [Array.length_toList, hs]
    rw [List.flatMap_cons]
    cases i with
    | zero =>
      obtain rfl : a = x := by simpa using h
      rw [Nat.zero_mul, Nat.zero_add, List.getElem?_append_left (by omega), Array.getElem?_toList]
    | succ i =>
      rw [List.getElem?_append_right (by rw [Nat.add_mul]; omega), ha, ← ih (by simpa using h)]
      congr 1
      rw [Nat.add_mul]; omega
theorem fl_append (l m : List α) : fl f (l ++ m) = fl f l ++ fl f m := by unfold fl; rw [List.flatMap_append]
theorem fl_one (x : α) : fl f [x] = (f x).toList := by unfold fl; simp
theorem fl_set (hs : ∀ x, (f x).size = s) (l : List α) (k : Nat) (x : α) (hk : k < l.length) : setR (fl f l) (k * s) (f x).toList = fl f (l.set k x) := by
  apply List.ext_getElem?
  intro i
  by_cases hi : i < (fl f l).length
  · rw [setR_get _ _ _ _ hi, Array.length_toList, hs]
    rw [fl_len hs] at hi
    have hs0 : 0 < s := by rcases Nat.eq_zero_or_pos s with h | h; · subst h; simp at hi
                           · exact h
    have hq : i / s < l.length := Nat.div_lt_of_lt_mul (by rw [Nat.mul_comm]; exact hi)
    have hr : i % s < s := Nat.mod_lt _ hs0
    have he : i / s * s + i % s = i := by rw [Nat.mul_comm]; exact Nat.div_add_mod i s
    by_cases hik : i / s = k
    · have h1 : k * s ≤ i ∧ i < k * s + s := by rw [← hik]; omega
      rw [if_pos h1]
      have h2 := fl_get hs (l := l.set k x) (i := k) (x := x) (by rw [List.getElem?_set_self hk]) (j := i - k * s) (by omega)
      rw [show k * s + (i - k * s) = i by omega] at h2
      rw [h2, Array.getElem?_toList]
    · have h1 : ¬ (k * s ≤ i ∧ i < k * s + s) := fun h => hik (by
        apply Nat.div_eq_of_lt_le
        · exact h.1
        · rw [Nat.add_mul]; omega)
      rw [if_neg h1]
      have h2 := fl_get hs (l := l.set k x) (i := i / s) (x := l[i / s]) (by rw [List.getElem?_set_ne (fun e => hik e.symm)]; exact List.getElem?_eq_getElem hq) hr
      have h3 := fl_get hs (l := l) (i := i / s) (x := l[i / s]) (List.getElem?_eq_getElem hq) hr
      rw [he] at h2 h3
      rw [h2, h3]
  · rw [List.getElem?_eq_none (by rw [setR_len]; omega), List.getElem?_eq_none (by rw [fl_len hs, List.length_set, ← fl_len hs]; omega)]
theorem heap_setCells {g : Nat} {t : TypeId} {fr : Nat × Nat} : ∀ (vs : List Value) (o : Nat) (cs : Array Value) (w : World), w.heap[g]? = some (.cells cs t fr) → (w.setCells g o vs).heap[g]? = some (.cells (setR cs.toList o vs).toArray t fr)
  | [], o, cs, w, h => by rw [World.setCells, setR]; simpa using h
  | v :: r, o, cs, w, h => by
    rw [World.setCells, setR]
    have h1 := row_setCell h o v
    rw [heap_setCells r (o + 1) _ _ h1]
    simp
/-- A row of these elements, in a block of their own. -/
def FlAt (w : World) (g : Nat) (t : TypeId) (f : α → Array Value) (l : List α) : Prop := w.heap[g]? = some (.cells (fl f l).toArray t (0, 0))
theorem FlAt.set {w : World} {g : Nat} {t : TypeId} {l : List α} (hs : ∀ x, (f x).size = s) (h : FlAt w g t f l) {k : Nat} (hk : k < l.length) (x : α) : FlAt (w.setCells g (k * s) (f x).toList) g t f (l.set k x) := by
  unfold FlAt at *
  rw [heap_setCells _ _ _ _ h, ← fl_set hs l k x hk]
theorem FlAt.cellsAt {w : World} {g : Nat} {t : TypeId} {l : List α} (hs : ∀ x, (f x).size = s) (h : FlAt w g t f l) {i : Nat} {x : α} (hx : l[i]? = some x) : CellsAt w g (i * s) (f x) := fun j v hj => by
  refine row_cell h _ _ ?_
  have hj2 : j < s := by have := (Array.getElem?_eq_some_iff.1 hj).1; rw [hs] at this; exact this
  rw [List.getElem?_toArray, fl_get hs hx hj2, hj]
theorem FlAt.rows {w : World} {g : Nat} {t : TypeId} {l : List α} (hs : ∀ x, (f x).size = s) (h : FlAt w g t f l) {m : List α} (hm : ∃ u, l = m ++ u) : RowsAt s f w (some ⟨g, 0, none⟩) m := by
  obtain ⟨u, rfl⟩ := hm
  refine .inr ⟨g, 0, rfl, heap_lt h, fun i x hx => ?_⟩
  have := h.cellsAt hs (i := i) (x := x) (by rw [List.getElem?_append_left (List.getElem?_eq_some_iff.1 hx).1]; exact hx)
  rwa [Nat.zero_add, Nat.mul_comm]
theorem FlAt.there {w : World} {g : Nat} {t : TypeId} {l : List α} (hs : ∀ x, (f x).size = s) (h : FlAt w g t f l) {k : Nat} (hk : k < l.length) : w.there g (k * s) s := fun j hj => by
  refine ⟨?_, free_row h _⟩
  have hj' : j < (f l[k]).size := by rw [hs]; exact hj
  have h1 := h.cellsAt hs (List.getElem?_eq_getElem hk) j _ (Array.getElem?_eq_getElem hj')
  rw [h1]; rfl
theorem FlAt.kept {w w' : World} {g : Nat} {t : TypeId} {l : List α} (h : FlAt w g t f l) (hb : Below w.heap.size w w') : FlAt w' g t f l := below_keep hb h
theorem made_fl (hs : ∀ x, (f x).size = s) (hpos : 0 < s) (z : α) (n : Nat) : madeCells (f z) (n * s) = (fl f (List.replicate n z)).toArray := by
  apply Array.ext_getElem?
  intro i
  by_cases hi : i < n * s
  · have hq : i / s < n := Nat.div_lt_of_lt_mul (by rw [Nat.mul_comm]; exact hi)
    have hr : i % s < s := Nat.mod_lt _ hpos
    have he : i / s * s + i % s = i := by rw [Nat.mul_comm]; exact Nat.div_add_mod i s
    have h := fl_get hs (l := List.replicate n z) (i := i / s) (x := z) (by simp [hq]) hr
    rw [he] at h
    rw [List.getElem?_toArray (xs := fl f (List.replicate n z)), h]
    have h1 : (f z).size = s := hs z
    simp only [madeCells, Array.getElem?_map, Array.getElem?_range, hi, if_true, Option.map_some]
    rw [h1, getElem!_pos (f z) (i % s) (by rw [h1]; exact hr), Array.getElem?_eq_getElem (by rw [h1]; exact hr)]
  · rw [Array.getElem?_eq_none (by simp [size_madeCells]; omega), List.getElem?_toArray (xs := fl f (List.replicate n z)), List.getElem?_eq_none (by rw [fl_len hs]; simp; omega)]
/-- Part copied. -/
def cpTo (z : α) (l : List α) (k : Nat) : List α := l.take k ++ List.replicate (l.length + 1 - k) z
theorem cpTo_len (z : α) (l : List α) {k : Nat} (hk : k ≤ l.length) : (cpTo z l k).length = l.length + 1 := by
  simp [cpTo, Nat.min_eq_left hk]; omega
theorem cpTo_set (z : α) (l : List α) {k : Nat} {x : α} (h : l[k]? = some x) : (cpTo z l k).set k x = cpTo z l (k + 1) := by
  obtain ⟨hk, rfl⟩ := List.getElem?_eq_some_iff.1 h
  unfold cpTo
  rw [List.set_append_right _ _ (by simp; omega), List.take_succ_eq_append_getElem hk, List.append_assoc]
  congr 1
  rw [List.length_take, Nat.min_eq_left (by omega), Nat.sub_self, show l.length + 1 - k = (l.length + 1 - (k + 1)) + 1 by omega, List.replicate_succ]
  rfl
theorem cpTo_end (z m : α) (l : List α) : (cpTo z l l.length).set l.length m = l ++ [m] := by
  unfold cpTo
  rw [List.take_length, List.set_append_right _ _ (by omega)]
  simp
theorem there_kept {w w' : World} {g o n : Nat} (h : w.there g o n) (hb : w'.heap[g]? = w.heap[g]?) : w'.there g o n := fun j hj => by
  obtain ⟨h1, h2⟩ := h j hj
  exact ⟨by rw [World.cell?_of_block (a := ⟨g, o + j, none⟩) hb]; exact h1, by rw [World.frozen?_of_block (a := ⟨g, o + j, none⟩) hb]; exact h2⟩
theorem below_setCells {B : Nat} {w0 w : World} (h : Below B w0 w) {g : Nat} (hg : B ≤ g) : ∀ (vs : List Value) (o : Nat), Below B w0 (w.setCells g o vs)
  | [], _ => h
  | v :: r, o => by rw [World.setCells]; exact below_setCells (h.setCell (p := ⟨g, o, none⟩) hg v) hg r (o + 1)
/-- What a copy is: the elements, and the mark behind them. -/
def TwAt (w : World) (t : TypeId) (f : α → Array Value) (m : α) (l : List α) (e : Ending) (w' : World) : Prop :=
  ∃ g, e = .returned (.slice (some ⟨g, 0, none⟩) l.length (l.length + 1)) ∧ w.heap.size ≤ g ∧ FlAt w' g t f (l ++ [m]) ∧ Below w.heap.size w w'
end
end Go.Proofs.Ytkaalppmheikgaa
