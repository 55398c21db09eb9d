/- Stores into one of two fresh blocks; rows that are kept. -/
import Derived.Test.YtkaalppmheikgaaKp
import Derived.Test.YtkaalppmheikgaaRow
namespace Go.Proofs.Ytkaalppmheikgaa
open Go.RowKit

theorem setRow_alloc2 (u : World) (cur vs : Array Value) (t : TypeId) (B : Obj) : ((u.alloc (.cells cur t)).alloc B).setRow u.heap.size vs = (u.alloc (.cells vs t)).alloc B := by
  simp only [World.setRow, World.alloc]
  congr 1
  apply Array.ext_getElem?
  intro i
  rw [Array.getElem?_modify, Array.getElem?_push, Array.getElem?_push, Array.getElem?_push, Array.getElem?_push]
  by_cases h : u.heap.size = i
  · subst h
    simp
  · simp [h, Ne.symm h]
theorem setRow_alloc2n (u : World) (cur vs : Array Value) (t : TypeId) (A : Obj) : ((u.alloc A).alloc (.cells cur t)).setRow (u.heap.size + 1) vs = (u.alloc A).alloc (.cells vs t) := by
  have h := setRow_alloc (u.alloc A) cur vs t
  rwa [alloc_size] at h
theorem RowsAt.kp {α : Type} {s : Nat} {f : α → Array Value} {w w' : World} {A : Option Addr} {l : List α} {S : Nat → Prop} (h : RowsAt s f w A l) (hk : Kp S w w') (hA : ∀ g o, A = some ⟨g, o, none⟩ → ¬ S g) : RowsAt s f w' A l := by
  rcases h with h | ⟨g, o, h1, h2, h3⟩
  · exact .inl h
  · refine .inr ⟨g, o, h1, Nat.lt_of_lt_of_le h2 hk.size, fun i x hx j v hj => ?_⟩
    have h4 := h3 i x hx j v hj
    have h5 := hk.block g h2 (hA g o h1)
    unfold World.cell? at h4 ⊢
    rw [h5]; exact h4
end Go.Proofs.Ytkaalppmheikgaa
