/- What may have turned: blocks of a set alone, and new ones. -/
import Derived.Test.YtkaalppmheikgaaLists
namespace Go.Proofs.Ytkaalppmheikgaa
open Go.RowKit

/-- Blocks of S alone, and new ones, may have turned. -/
structure Kp (S : Nat → Prop) (w w' : World) : Prop where
  os : w'.os = w.os
  tape : w'.tape = w.tape
  output : w'.output = w.output
  size : w.heap.size ≤ w'.heap.size
  block : ∀ k, k < w.heap.size → ¬ S k → w'.heap[k]? = w.heap[k]?
theorem setCells_size (b : Nat) : ∀ (vs : List Value) (o : Nat) (w : World), (w.setCells b o vs).heap.size = w.heap.size
  | [], _, _ => rfl
  | v :: r, o, w => by rw [World.setCells, setCells_size b r (o + 1), setCell_size]
theorem setCells_other (b : Nat) : ∀ (vs : List Value) (o : Nat) (w : World) (k : Nat), k ≠ b → (w.setCells b o vs).heap[k]? = w.heap[k]?
  | [], _, _, _, _ => rfl
  | v :: r, o, w, k, h => by rw [World.setCells, setCells_other b r (o + 1) _ k h, heap_setCell_ne h]
theorem setCells_os (b : Nat) : ∀ (vs : List Value) (o : Nat) (w : World), (w.setCells b o vs).os = w.os ∧ (w.setCells b o vs).tape = w.tape ∧ (w.setCells b o vs).output = w.output
  | [], _, _ => ⟨rfl, rfl, rfl⟩
  | v :: r, o, w => by rw [World.setCells]; exact setCells_os b r (o + 1) _
section
variable {S : Nat → Prop} {w0 w w' : World}
theorem Kp.refl (S : Nat → Prop) (w : World) : Kp S w w := ⟨rfl, rfl, rfl, Nat.le_refl _, fun _ _ _ => rfl⟩
theorem Kp.step (h : Kp S w0 w) (h1 : w'.os = w.os) (h2 : w'.tape = w.tape) (h3 : w'.output = w.output) (h4 : w.heap.size ≤ w'.heap.size) (h5 : ∀ k, k < w0.heap.size → ¬ S k → w'.heap[k]? = w.heap[k]?) : Kp S w0 w' :=
  ⟨h1.trans h.os, h2.trans h.tape, h3.trans h.output, Nat.le_trans h.size h4, fun k hk hs => (h5 k hk hs).trans (h.block k hk hs)⟩
theorem Kp.drew (h : Kp S w0 w) : Kp S w0 w.drew := h.step rfl rfl rfl (Nat.le_refl _) fun _ _ _ => rfl
theorem Kp.drewN (h : Kp S w0 w) (n : Nat) : Kp S w0 (w.drewN n) := h.step rfl rfl rfl (Nat.le_refl _) fun _ _ _ => rfl
theorem Kp.alloc (h : Kp S w0 w) (o : Obj) : Kp S w0 (w.alloc o) := h.step rfl rfl rfl (by rw [alloc_size]; omega) fun k hk _ => Below.heap_alloc _ _ _ (by have := h.size; omega)
theorem Kp.setCell (h : Kp S w0 w) {b : Nat} (hb : S b ∨ w0.heap.size ≤ b) (o : Nat) (u : Value) : Kp S w0 (w.setCell ⟨b, o, none⟩ u) :=
  h.step rfl rfl rfl (by rw [setCell_size]; exact Nat.le_refl _) fun k hk hs => heap_setCell_ne (by
    intro e; subst e
    rcases hb with h1 | h1
    · exact hs h1
    · omega)
theorem Kp.setCells (h : Kp S w0 w) {b : Nat} (hb : S b ∨ w0.heap.size ≤ b) (o : Nat) (vs : List Value) : Kp S w0 (w.setCells b o vs) :=
  h.step (setCells_os b vs o w).1 (setCells_os b vs o w).2.1 (setCells_os b vs o w).2.2 (by rw [setCells_size]; exact Nat.le_refl _) fun k hk hs => setCells_other b vs o w k (by
    intro e; subst e
    rcases hb with h1 | h1
    · exact hs h1
    · omega)
theorem Kp.grown (h : Kp S w0 w) {row : Option Nat} (hg : w.grownBy w' row) (hr : ∀ k, row = some k → S k ∨ w0.heap.size ≤ k) : Kp S w0 w' :=
  h.step hg.os hg.tape hg.output hg.size fun k hk hs => hg.block k (by have := h.size; omega) fun e => by
    rcases hr k e.symm with h1 | h1
    · exact hs h1
    · omega
theorem Kp.below (h : Kp S w0 w) (hb : Below w.heap.size w w') : Kp S w0 w' := h.step hb.os hb.tape hb.output hb.size fun k hk _ => hb.block k (by have := h.size; omega)
theorem Kp.trans {T : Nat → Prop} (h : Kp S w0 w) (k : Kp T w w') (hT : ∀ b, b < w0.heap.size → T b → S b) : Kp S w0 w' :=
  h.step k.os k.tape k.output k.size fun b hb hs => k.block b (by have := h.size; omega) fun ht => hs (hT b hb ht)
theorem Kp.mono {T : Nat → Prop} (h : Kp T w0 w) (hT : ∀ b, b < w0.heap.size → T b → S b) : Kp S w0 w := (Kp.refl S w0).trans h hT
theorem Kp.toBelow {B : Nat} (h : Kp S w0 w) (hB : B ≤ w0.heap.size) (hS : ∀ b, b < w0.heap.size → S b → B ≤ b) : Below B w0 w :=
  ⟨h.os, h.tape, h.output, h.size, fun k hk => h.block k (by omega) fun hs => by have := hS k (by omega) hs; omega⟩
theorem Kp.keep (h : Kp S w0 w) {b : Nat} {o : Obj} (hb : w0.heap[b]? = some o) (hs : ¬ S b) : w.heap[b]? = some o := by rw [h.block b (heap_lt hb) hs]; exact hb
end
end Go.Proofs.Ytkaalppmheikgaa
