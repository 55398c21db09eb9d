/- A slice literal of several elements that are arrays or structs. -/
import Derived.Test.YtnapfjgokeloeaaTwB
import Derived.Great.BuildSlice
namespace Go.Proofs.Ytnapfjgokeloeaa
open Go.RowKit

section
variable {α : Type} {f : α → Array Value} {s : Nat}
theorem fill_fl (hs : ∀ x, (f x).size = s) (hpos : 0 < s) (l : List α) (z : Value) :
    Instr.fill (fun i => some (i * s, s)) ((Array.range (l.length * s)).map (z.cells[· % z.cells.size]!)) ((l.map fun x => Value.agg (f x)).zipIdx.map fun x => (x.2, x.1)) = some (fl f l).toArray := by
  obtain ⟨r, hr, hsz, hk⟩ := Great.fill_dense hpos (l.map fun x => Value.agg (f x)) 0 ((Array.range (l.length * s)).map (z.cells[· % z.cells.size]!))
    (by intro v hv; obtain ⟨x, _, rfl⟩ := List.mem_map.1 hv; exact hs x) (by simp)
  rw [hr]
  congr 1
  apply Array.ext_getElem?
  intro k
  rw [hk k]
  have hlen := fl_len (f := f) hs l
  by_cases h1 : k < l.length * s
  · rw [if_pos ⟨by omega, by rw [Nat.zero_add, List.length_map]; exact h1⟩]
    have hq : k / s < l.length := Nat.div_lt_of_lt_mul (by rw [Nat.mul_comm]; exact h1)
    have hx : l[k / s]? = some l[k / s] := List.getElem?_eq_getElem hq
    rw [Nat.sub_zero, List.getElem?_map, hx]
    have hj : k % s < s := Nat.mod_lt _ hpos
    have h2 := fl_get (f := f) hs hx hj
    rw [show k / s * s + k % s = k by rw [Nat.mul_comm]; exact Nat.div_add_mod k s] at h2
    rw [List.getElem?_toArray, h2]
    rfl
  · rw [if_neg (by rw [Nat.zero_add, List.length_map]; omega), Array.getElem?_eq_none (by simp; omega), Array.getElem?_eq_none (by simp; omega)]
/-- The literal. -/
theorem run_buildFl {P : Program} (hs : ∀ x, (f x).size = s) (hpos : 0 < s) (l : List α) (hl : 0 < l.length) (hsmall : l.length * s ≤ 2 ^ 24) {t e : TypeId} {z : α} {by' : Nat}
    (hu : P.underlying t = some (.slice e)) (hi : (P.info? e).map (fun i => (i.zero, i.size, i.bytes)) = some (some (.agg (f z)), s, by')) (w : World) :
    (Instr.buildSlice t l.length ((l.map fun x => Value.agg (f x)).zipIdx.map fun x => (x.2, x.1)).toArray).run P w = .ok (.slice (some ⟨w.heap.size, 0, none⟩) l.length l.length) (w.alloc (.cells (fl f l).toArray e)) := by
  obtain ⟨ie, h1, h2⟩ := Option.map_eq_some_iff.1 hi
  rw [Prod.mk.injEq, Prod.mk.injEq] at h2
  obtain ⟨hz, hsz, _⟩ := h2
  have hmul : 0 < l.length * s := Nat.mul_pos hl hpos
  exact run_buildSlice w t e l.length _ (fl f l).toArray ie _ hu h1 hz (by rw [hsz]; omega) (by rw [hsz]; omega) (by rw [hsz]; exact fill_fl hs hpos l _)
/-- The literal. -/
theorem wpList_buildFl {P : Program} {ops : Array Oper} {rest : List Oper} {a : Act} {w : World} {Q : Exit → Act → World → Prop} {dst : Option Tmp} {t : TypeId} {n : Nat} {parts : Array (Nat × Operand)} {ty : TypeId} {pos : String} {after : Array Edge} {gd : Option (Nat × Bool)} (l : List α) {e : TypeId} {z : α} {by' : Nat}
    (hgd : Region.wanted ⟨dst, .buildSlice t n parts, ty, pos, after, gd⟩ (yielded ops a.tmps) = true)
    (hn : n = l.length) (hp : (parts.map fun p => (p.1, a.eval p.2)).toList = (l.map fun x => Value.agg (f x)).zipIdx.map fun x => (x.2, x.1)) (hs : ∀ x, (f x).size = s) (hpos : 0 < s) (hl : 0 < l.length) (hsmall : l.length * s ≤ 2 ^ 24)
    (hu : P.underlying t = some (.slice e)) (hi : (P.info? e).map (fun i => (i.zero, i.size, i.bytes)) = some (some (.agg (f z)), s, by'))
    (h : ∀ w' g, w.heap.size ≤ g → FlAt w' g e f l → Below w.heap.size w w' → wpList P ops Q rest (a.put dst (.slice (some ⟨g, 0, none⟩) n n)) w') : wpList P ops Q (⟨dst, .buildSlice t n parts, ty, pos, after, gd⟩ :: rest) a w :=
  wpList_step fun K hK => by
    rw [if_pos hgd]
    obtain ⟨ie, h1, h2⟩ := Option.map_eq_some_iff.1 hi
    rw [Prod.mk.injEq, Prod.mk.injEq] at h2
    obtain ⟨hz, hsz, _⟩ := h2
    subst hn
    have hmul : 0 < l.length * s := Nat.mul_pos hl hpos
    refine wp_buildSlice t e l.length parts rfl (fl f l).toArray ie _ hu h1 hz (by rw [hsz]; omega) (by rw [hsz]; omega) (by rw [hsz, hp]; exact fill_fl hs hpos l _) (hK _ _ (h _ _ (Nat.le_refl _) (heap_alloc_new _ _) ((Below.refl _ _).alloc (Nat.le_refl _) _)))
end
/-- A stop at a slice literal. -/
theorem stopB {P : Program} {ops : Array Oper} {rest : List Oper} {dst : Option Tmp} {t : TypeId} {n : Nat} {parts : Array (Nat × Operand)} {ty : TypeId} {pos : String} {after : Array Edge} {gd : Option (Nat × Bool)} {a : Act} {w : World} {Q : Exit → Act → World → Prop} (h : Hid (wpList P ops Q (⟨dst, .buildSlice t n parts, ty, pos, after, gd⟩ :: rest) a w)) : wpList P ops Q (⟨dst, .buildSlice t n parts, ty, pos, after, gd⟩ :: rest) a w := h.out
end Go.Proofs.Ytnapfjgokeloeaa
