/- Lists that a call grows, of elements of several cells. -/
import Derived.Test.YtmddhjoomlhbcaaAsMem
namespace Go.Proofs.Ytmddhjoomlhbcaa
open Go.RowKit

def flatV {α : Type} (f : α → Array Value) (l : List α) : List Value := l.flatMap fun x => (f x).toList
theorem flatV_snoc {α : Type} (f : α → Array Value) (l : List α) (x : α) : flatV f (l ++ [x]) = flatV f l ++ (f x).toList := by simp [flatV]
theorem flatV_len {α : Type} {f : α → Array Value} {s : Nat} (hs : ∀ x, (f x).size = s) (l : List α) : (flatV f l).length = l.length * s := by
  induction l with
  | nil => simp [flatV]
  | cons a l ih =>
    show ((f a).toList ++ flatV f l).length = _
    rw [List.length_append, ih, Array.length_toList, hs, List.length_cons, Nat.add_mul]; omega
theorem flatV_get {α : Type} {f : α → Array Value} {s : Nat} (hs : ∀ x, (f x).size = s) : ∀ (l : List α) (i : Nat) (x : α), l[i]? = some x → ∀ (j : Nat) v, (f x)[j]? = some v → (flatV f l)[s * i + j]? = some v
  | [], _, _, h, _, _, _ => by cases h
  | a :: l, 0, x, h, j, v, hv => by
    obtain rfl : a = x := by simpa using h
    show ((f a).toList ++ flatV f l)[s * 0 + j]? = _
    have hj := (Array.getElem?_eq_some_iff.1 hv).1
    rw [List.getElem?_append_left (by rw [Array.length_toList]; omega), Nat.mul_zero, Nat.zero_add, Array.getElem?_toList]; exact hv
  | a :: l, i + 1, x, h, j, v, hv => by
    have ih := flatV_get hs l i x (by simpa using h) j v hv
    show ((f a).toList ++ flatV f l)[s * (i + 1) + j]? = _
    rw [List.getElem?_append_right (by rw [Array.length_toList, hs, Nat.mul_add]; omega), Array.length_toList, hs, show s * (i + 1) + j - s = s * i + j by rw [Nat.mul_add]; omega]
    exact ih
/-- A list of the call's own, read element by element. -/
theorem own_rows {α : Type} {f : α → Array Value} {s : Nat} (hs : ∀ x, (f x).size = s) {w : World} {base : Nat} {e : TypeId} {v : Value} {l : List α} (h : w.ownsRow base e s v l.length (flatV f l)) : ∃ A cap, v = .slice A l.length cap ∧ l.length ≤ cap ∧ RowsAt s f w A l := by
  obtain ⟨h1, ⟨h2, h3⟩ | ⟨g, c2, cur, h2, h3, h4, h5, h6, h7, h8⟩⟩ := h
  · exact ⟨none, 0, by rw [h2, h3], by omega, .inl (List.length_eq_zero_iff.1 h3)⟩
  · refine ⟨some ⟨g, 0, none⟩, c2, h2, h5, .inr ⟨g, 0, rfl, heap_lt h4, fun i x hx j u hj => ?_⟩⟩
    have hil : i < l.length := (List.getElem?_eq_some_iff.1 hx).1
    have hjs : j < s := by rw [← hs x]; exact (Array.getElem?_eq_some_iff.1 hj).1
    have hk : s * i + j < l.length * s := by
      have : s * i + s ≤ s * l.length := by
        have := Nat.mul_le_mul_left s (show i + 1 ≤ l.length by omega)
        rw [Nat.mul_add] at this; omega
      rw [Nat.mul_comm l.length s]; omega
    have h9 := flatV_get hs l i x hx j u hj
    rw [← h8, List.getElem?_take, if_pos hk] at h9
    refine row_cell h4 _ _ ?_
    rw [show 0 + s * i + j = s * i + j by omega, ← Array.getElem?_toList]; exact h9
theorem three_new (w : World) (A B D : Obj) : (((w.alloc A).alloc B).alloc D).drew.heap[w.heap.size]? = some A ∧ (((w.alloc A).alloc B).alloc D).drew.heap[w.heap.size + 1]? = some B ∧ (((w.alloc A).alloc B).alloc D).drew.heap[w.heap.size + 1 + 1]? = some D ∧ Below w.heap.size w (((w.alloc A).alloc B).alloc D).drew := by
  have h1 : ((w.alloc A).alloc B).heap[w.heap.size + 1]? = some B := heap_2 _ _ _
  have h2 : (((w.alloc A).alloc B).alloc D).heap[w.heap.size + 1 + 1]? = some D := by
    have := heap_alloc_new ((w.alloc A).alloc B) D
    rwa [alloc_size, alloc_size] at this
  exact ⟨alloc_keep (alloc_keep (heap_alloc_new _ _) _) _, alloc_keep h1 _, h2, (((Below.refl _ _).alloc (Nat.le_refl _) _).alloc (by simp) _ |>.alloc (by simp; omega) _).drew⟩
end Go.Proofs.Ytmddhjoomlhbcaa
