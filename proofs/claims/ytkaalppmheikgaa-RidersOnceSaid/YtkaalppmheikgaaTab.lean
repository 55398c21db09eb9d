/- Tables: blocks of integers. -/
import Derived.Test.YtkaalppmheikgaaMemRows
namespace Go.Proofs.Ytkaalppmheikgaa
open Go.RowKit

def ints (l : List Int) : Array Value := (l.map (Value.int .i64)).toArray
/-- A table of integers in a block of its own. -/
def TabAt (w : World) (g : Nat) (T : TypeId) (l : List Int) : Prop := w.heap[g]? = some (.cells (ints l) T (0, 0))

theorem ints_get {l : List Int} {k : Nat} {n : Int} (h : l[k]? = some n) : (ints l)[k]? = some (.int .i64 n) := by simp [ints, h]
theorem ints_size (l : List Int) : (ints l).size = l.length := by simp [ints]
theorem TabAt.cell {w : World} {g : Nat} {T : TypeId} {l : List Int} (h : TabAt w g T l) {k : Nat} {n : Int} (hk : l[k]? = some n) : w.cell? ⟨g, k, none⟩ = some (.int .i64 n) :=
  row_cell h k _ (ints_get hk)
theorem free_row {w : World} {g : Nat} {cs : Array Value} {T : TypeId} (h : w.heap[g]? = some (.cells cs T (0, 0))) (k : Nat) : w.frozen? ⟨g, k, none⟩ = false := by
  simp [World.frozen?, h]
theorem row_setCell {w : World} {g : Nat} {cs : Array Value} {T : TypeId} {fr : Nat × Nat} (h : w.heap[g]? = some (.cells cs T fr)) (k : Nat) (u : Value) : (w.setCell ⟨g, k, none⟩ u).heap[g]? = some (.cells (cs.setIfInBounds k u) T fr) := by
  simp only [World.setCell, Array.getElem?_modify, if_true, h, Option.map_some]
  rfl
theorem heap_setCell_ne {w : World} {g b k : Nat} {u : Value} (hb : g ≠ b) : (w.setCell ⟨b, k, none⟩ u).heap[g]? = w.heap[g]? := Below.heap_setCell w ⟨b, k, none⟩ u g hb
theorem TabAt.lt {w : World} {g : Nat} {T : TypeId} {l : List Int} (h : TabAt w g T l) : g < w.heap.size := heap_lt h
theorem TabAt.set {w : World} {g : Nat} {T : TypeId} {l : List Int} (h : TabAt w g T l) (k : Nat) (n : Int) : TabAt (w.setCell ⟨g, k, none⟩ (.int .i64 n)) g T (l.set k n) := by
  unfold TabAt
  rw [row_setCell h]
  congr 2
  apply Array.ext_getElem?
  intro i
  simp only [ints, Array.getElem?_setIfInBounds, List.getElem?_toArray, List.getElem?_map, List.getElem?_set]
  by_cases hi : k = i
  · subst hi
    by_cases hk : k < l.length
    · simp [hk]
    · simp [hk]
  · simp [hi]
theorem TabAt.other {w : World} {g : Nat} {T : TypeId} {l : List Int} (h : TabAt w g T l) {b : Nat} (hb : g ≠ b) (k : Nat) (u : Value) : TabAt (w.setCell ⟨b, k, none⟩ u) g T l := by
  unfold TabAt
  rw [heap_setCell_ne hb]; exact h
theorem TabAt.kept {w w' : World} {g : Nat} {T : TypeId} {l : List Int} (h : TabAt w g T l) (hb : Below w.heap.size w w') : TabAt w' g T l := below_keep hb h
theorem TabAt.alloc {w : World} {g : Nat} {T : TypeId} {l : List Int} (h : TabAt w g T l) (o : Obj) : TabAt (w.alloc o) g T l := alloc_keep h o
theorem TabAt.drew {w : World} {g : Nat} {T : TypeId} {l : List Int} (h : TabAt w g T l) : TabAt w.drew g T l := h
theorem TabAt.grown {w w' : World} {g : Nat} {T : TypeId} {l : List Int} (h : TabAt w g T l) {row : Option Nat} (hg : w.grownBy w' row) (hr : some g ≠ row) : TabAt w' g T l := by
  unfold TabAt
  rw [hg.block g h.lt hr]; exact h
theorem setCell_size (w : World) (a : Addr) (u : Value) : (w.setCell a u).heap.size = w.heap.size := by simp [World.setCell]
end Go.Proofs.Ytkaalppmheikgaa
