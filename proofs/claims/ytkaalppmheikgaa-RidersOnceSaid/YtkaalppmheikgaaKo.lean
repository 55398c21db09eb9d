/- What a body keeps of the rows of ids that are not its own. -/
import Derived.Test.YtkaalppmheikgaaKp
import Derived.Test.YtkaalppmheikgaaMapKit
import Derived.RangeFuncBox
import Derived.RangeFuncFrom
namespace Go.Proofs.Ytkaalppmheikgaa
open Go.RowKit

/-- Blocks of cells of type t lie as they lay, but for those that O names. -/
structure KO (t : TypeId) (O : World → Nat → Prop) (A B : World) : Prop where
  size : A.heap.size ≤ B.heap.size
  block : ∀ k cs fr, A.heap[k]? = some (.cells cs t fr) → ¬ O A k → B.heap[k]? = some (.cells cs t fr)
  own : ∀ k, k < A.heap.size → O B k → O A k
theorem KO.refl (t : TypeId) (O : World → Nat → Prop) (A : World) : KO t O A A := ⟨Nat.le_refl _, fun _ _ _ h _ => h, fun _ _ h => h⟩
theorem KO.trans {t : TypeId} {O : World → Nat → Prop} {A B C : World} (h : KO t O A B) (k : KO t O B C) : KO t O A C :=
  ⟨Nat.le_trans h.size k.size, fun j cs fr hj ho => k.block j cs fr (h.block j cs fr hj ho) fun e => ho (h.own j (heap_lt hj) e), fun j hj ho => h.own j hj (k.own j (Nat.lt_of_lt_of_le hj h.size) ho)⟩
theorem KO.put {t : TypeId} {O : World → Nat → Prop} {n : Nat} (hO : ∀ W W' k, (∀ j, j < n → W'.heap[j]? = W.heap[j]?) → O W' k → O W k) {w : World} (hn : n ≤ w.heap.size) (W : World) (l : Nat) (o o' : Obj) (hl : w.heap.size ≤ l) (h : W.heap[l]? = some o) (hc : o.isCells = false) (_ : o.isWalk = false) : KO t O W (W.putObj l o') :=
  ⟨by simp [World.putObj], fun k cs fr hk _ => by
    rw [World.putObj_heap_other (fun e => by subst e; rw [hk] at h; cases h; cases hc)]; exact hk,
   fun k _ hk => hO W _ k (fun j hj => World.putObj_heap_other (by omega)) hk⟩
/-- What the box X owns. -/
def ownX (X : Nat) (W : World) (k : Nat) : Prop := ∃ v t fr, W.heap[X]? = some (.cells #[v] t fr) ∧ v.ownBlock = some k
theorem ownX_of {X n : Nat} (hX : X < n) (W W' : World) (k : Nat) (h : ∀ j, j < n → W'.heap[j]? = W.heap[j]?) : ownX X W' k → ownX X W k := fun ⟨v, t, fr, h1, h2⟩ => ⟨v, t, fr, (h X hX).symm.trans h1, h2⟩
end Go.Proofs.Ytkaalppmheikgaa
