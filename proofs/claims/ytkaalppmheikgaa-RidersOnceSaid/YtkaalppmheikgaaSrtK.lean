/- A row that is the call's own, sorted by slices.SortFunc: elements of k cells. -/
import Derived.Test.YtkaalppmheikgaaKp
import Derived.Shelf.SlSortCmp.NoneTotal
namespace Go.Proofs.Ytkaalppmheikgaa
open Go.RowKit Go.Shelf Go.Lib Go.Sort

section
variable {α : Type} [Inhabited α] {enc : α → List Value} {k : Nat}
omit [Inhabited α] in
theorem flatMap_len (hk : ∀ x, (enc x).length = k) : ∀ l : List α, (l.flatMap enc).length = l.length * k
  | [] => by simp
  | a :: l => by rw [List.flatMap_cons, List.length_append, hk, flatMap_len hk l, List.length_cons, Nat.add_mul]; omega
omit [Inhabited α] in
theorem flatMap_get (hk : ∀ x, (enc x).length = k) : ∀ (l : List α) (i r : Nat) (x : α), l[i]? = some x → r < k → (l.flatMap enc)[i * k + r]? = (enc x)[r]?
  | [], i, r, x, h, _ => by simp at h
  | a :: l, 0, r, x, h, hr => by
    obtain rfl : a = x := by simpa using h
    rw [List.flatMap_cons, Nat.zero_mul, Nat.zero_add, List.getElem?_append_left (by rw [hk]; exact hr)]
  | a :: l, i + 1, r, x, h, hr => by
    have := flatMap_get hk l i r x (by simpa using h) hr
    rw [List.flatMap_cons, List.getElem?_append_right (by rw [hk, Nat.add_mul]; omega), hk, ← this]
    congr 1
    rw [Nat.add_mul]; omega
theorem flatK_list (hk : ∀ x, (enc x).length = k) (d : Array α) : (flatK enc k d).toList = d.toList.flatMap enc := by
  apply List.ext_getElem?
  intro t
  by_cases ht : t < d.size * k
  · have hk0 : 0 < k := by
      rcases Nat.eq_zero_or_pos k with h | h
      · subst h; simp at ht
      · exact h
    have hq : t / k < d.size := Nat.div_lt_of_lt_mul (by rw [Nat.mul_comm]; exact ht)
    have hr : t % k < k := Nat.mod_lt _ hk0
    have h1 := flatMap_get hk d.toList (t / k) (t % k) d[t / k] (by simp [hq]) hr
    have h2 : t / k * k + t % k = t := by rw [Nat.mul_comm]; exact Nat.div_add_mod t k
    rw [h2] at h1
    rw [h1]
    have h3 := get_flatK enc k d t ht
    have h4 : t < (flatK enc k d).size := by rw [size_flatK]; exact ht
    rw [Array.getElem?_toList, Array.getElem?_eq_getElem h4, ← getElem!_pos (flatK enc k d) t h4, h3, getElem!_pos d (t / k) hq]
    rw [getElem!_pos (enc d[t / k]) (t % k) (by rw [hk]; exact hr), List.getElem?_eq_getElem]
  · rw [List.getElem?_eq_none (by rw [Array.length_toList, size_flatK]; omega), List.getElem?_eq_none (by rw [flatMap_len hk, Array.length_toList]; omega)]
theorem holdsK_of_own (hk : ∀ x, (enc x).length = k) {w : World} {base g n cap : Nat} {e : TypeId} {l : List α} (ho : w.ownsRow base e k (.slice (some ⟨g, 0, none⟩) n cap) n (l.flatMap enc)) : HoldsK enc k w g 0 l.toArray := by
  intro j hj
  rw [size_flatK] at hj
  have h1 : (flatK enc k l.toArray).toList = l.flatMap enc := flatK_list hk _
  have h2 : j < (flatK enc k l.toArray).size := by rw [size_flatK]; exact hj
  have hl : (l.flatMap enc).length = l.toArray.size * k := by rw [flatMap_len hk]; simp
  refine ⟨?_, by rw [Nat.zero_add]; exact ho.frozenAt j⟩
  rw [Nat.zero_add, ho.cellAt j (by have := ho.1; omega), ← h1, Array.getElem?_toList, Array.getElem?_eq_getElem h2, getElem!_pos (flatK enc k l.toArray) j h2]; rfl
theorem heap_sortedK {w : World} {g n : Nat} {os : Array Obj} {cur : Array Value} {e : TypeId} {fr : Nat × Nat} (d : Array α) (hb : w.heap[g]? = some (.cells cur e fr)) :
    (sortWorldK enc k w g 0 n d os).heap[g]? = some (.cells (putCells id 0 (flatK enc k d) cur) e fr) := by
  have hg : g < w.heap.size := (Array.getElem?_eq_some_iff.1 hb).1
  unfold sortWorldK
  rw [heap_grow_old _ _ (by simpa [putRowK] using hg)]
  simp [putRowK, putRow, mapBlock, Sort.ahead, Array.getElem?_modify, hb, onCells]
theorem kp_sortedK {w : World} {g n : Nat} {os : Array Obj} (d : Array α) : Kp (fun b => b = g) w (sortWorldK enc k w g 0 n d os) := by
  refine ⟨rfl, rfl, rfl, by simp [sortWorldK, putRowK], fun b hb hne => ?_⟩
  unfold sortWorldK
  rw [heap_grow_old _ _ (by simpa [putRowK] using hb)]
  have : g ≠ b := fun e => hne e.symm
  simp [putRowK, putRow, mapBlock, Sort.ahead, Array.getElem?_modify, this]
theorem take_putCellsK (cur : Array Value) (F : Array Value) (h : F.size ≤ cur.size) : (putCells id 0 F cur).toList.take F.size = F.toList := by
  apply List.ext_getElem?
  intro j
  by_cases hj : j < F.size
  · rw [List.getElem?_take_of_lt hj, Array.getElem?_toList, Array.getElem?_toList]
    simp [putCells, hj, show j < cur.size by omega]
  · rw [List.getElem?_take_eq_none (by omega), List.getElem?_eq_none (by simp; omega)]
theorem own_sortedK (hk : ∀ x, (enc x).length = k) {w : World} {base g n cap m : Nat} {e : TypeId} {l ts : List α} {os : Array Obj} (ho : w.ownsRow base e k (.slice (some ⟨g, 0, none⟩) n cap) n (l.flatMap enc)) (hl : ts.length = l.length) :
    (sortWorldK enc k w g 0 m ts.toArray os).ownsRow base e k (.slice (some ⟨g, 0, none⟩) n cap) n (ts.flatMap enc) := by
  obtain ⟨h1, ⟨h2, _⟩ | ⟨g', c', cur, h2, h3, h4, h5, h6, h7, h8⟩⟩ := ho
  · cases h2
  · cases h2
    rw [flatMap_len hk] at h1
    have hs : (flatK enc k ts.toArray).size = n * k := by rw [size_flatK]; simp [hl, h1]
    refine ⟨by rw [flatMap_len hk, hl]; exact h1, .inr ⟨g, cap, _, rfl, h3, heap_sortedK _ h4, h5, h6, by simp [putCells, h7], ?_⟩⟩
    rw [← hs, take_putCellsK cur _ (by rw [hs, h7]; exact Nat.mul_le_mul_right _ h5), flatK_list hk]
end
end Go.Proofs.Ytkaalppmheikgaa
