/- Lists in memory: rows of s cells each, read off the cells. -/
import Derived.Test.YtkaalppmheikgaaKit
import Derived.OpenShut
import Derived.Deep.Slices
namespace Go.Proofs.Ytkaalppmheikgaa
open Go.RowKit

/-- A row's cells from place o on. -/
def CellsAt (w : World) (g o : Nat) (cs : Array Value) : Prop := ∀ (j : Nat) v, cs[j]? = some v → w.cell? ⟨g, o + j, none⟩ = some v
/-- A slice's first elements. -/
def RowsAt {α : Type} (s : Nat) (f : α → Array Value) (w : World) (a : Option Addr) (l : List α) : Prop :=
  l = [] ∨ ∃ g o, a = some ⟨g, o, none⟩ ∧ g < w.heap.size ∧ ∀ (i : Nat) x, l[i]? = some x → CellsAt w g (o + s * i) (f x)

theorem cell_kept {w w' : World} {B : Nat} (hb : Below B w w') {g o : Nat} (hg : g < B) : w'.cell? ⟨g, o, none⟩ = w.cell? ⟨g, o, none⟩ := hb.cell (p := ⟨g, o, none⟩) hg
theorem CellsAt.kept {w w' : World} {g o : Nat} {cs : Array Value} (h : CellsAt w g o cs) {B : Nat} (hb : Below B w w') (hg : g < B) : CellsAt w' g o cs := fun j v hj => by
  rw [cell_kept hb hg]; exact h j v hj
theorem RowsAt.kept {α : Type} {s : Nat} {f : α → Array Value} {w w' : World} {a : Option Addr} {l : List α} (h : RowsAt s f w a l) (hb : Below w.heap.size w w') : RowsAt s f w' a l := by
  rcases h with h | ⟨g, o, h1, h2, h3⟩
  · exact .inl h
  · exact .inr ⟨g, o, h1, Nat.lt_of_lt_of_le h2 hb.size, fun i x hx => (h3 i x hx).kept hb h2⟩
theorem RowsAt.alloc {α : Type} {s : Nat} {f : α → Array Value} {w : World} {a : Option Addr} {l : List α} (h : RowsAt s f w a l) (o : Obj) : RowsAt s f (w.alloc o) a l :=
  h.kept ((Below.refl _ _).alloc (Nat.le_refl _) _)
theorem RowsAt.drew {α : Type} {s : Nat} {f : α → Array Value} {w : World} {a : Option Addr} {l : List α} (h : RowsAt s f w a l) : RowsAt s f w.drew a l :=
  h.kept (Below.refl _ _).drew
theorem RowsAt.get {α : Type} {s : Nat} {f : α → Array Value} {w : World} {a : Option Addr} {l : List α} (h : RowsAt s f w a l) {i : Nat} {x : α} (hx : l[i]? = some x) :
    ∃ g o, a = some ⟨g, o, none⟩ ∧ g < w.heap.size ∧ CellsAt w g (o + s * i) (f x) := by
  rcases h with h | ⟨g, o, h1, h2, h3⟩
  · rw [h] at hx; cases hx
  · exact ⟨g, o, h1, h2, h3 i x hx⟩

theorem heap_2 (w : World) (o o' : Obj) : ((w.alloc o).alloc o').heap[w.heap.size + 1]? = some o' := by
  have h := heap_alloc_new (w.alloc o) o'
  rwa [alloc_size] at h
/-- A cell of a whole row. -/
theorem row_cell {w : World} {g : Nat} {cs : Array Value} {t : TypeId} {fr : Nat × Nat} (h : w.heap[g]? = some (.cells cs t fr)) (j : Nat) (v : Value) (hv : cs[j]? = some v) : w.cell? ⟨g, j, none⟩ = some v := by
  rw [cell_of_row _ _ _ _ _ _ h]; exact hv

theorem cell_lt {w : World} {b o : Nat} {v : Value} (h : w.cell? ⟨b, o, none⟩ = some v) : b < w.heap.size := by
  by_cases e : b < w.heap.size
  · exact e
  · simp [World.cell?, Array.getElem?_eq_none (Nat.le_of_not_lt e)] at h
/-- A block that is made later is another than that of a cell which is there. -/
theorem new_ne {w : World} {b o : Nat} {v : Value} (h : w.cell? ⟨b, o, none⟩ = some v) : w.heap.size ≠ b := Nat.ne_of_gt (cell_lt h)
theorem setRow_at {w : World} {g : Nat} {cur : Array Value} {t : TypeId} {fr : Nat × Nat} (h : w.heap[g]? = some (.cells cur t fr)) (vs : Array Value) : (w.setRow g vs).heap[g]? = some (.cells vs t fr) := by
  simp only [World.setRow, Array.getElem?_modify, if_true, h, Option.map_some]

section
variable {P : Program}
theorem run_loadVar_cells {ty : TypeId} (w : World) (g o : Nat) (d : TypeDesc) (vs : Array Value) (hc : CellsAt w g o vs)
    (hu : P.underlying ty = some d) (hd : (match d with | .struct _ | .array _ _ => true | _ => false) = true) (hi : (P.info? ty).map (·.size) = some vs.size) :
    (loadVar ty ⟨g, o, none⟩).run P w = .ok (.agg vs) w := by
  have hl : (loadCells ⟨g, o, none⟩ vs.toList.length).run P w = .ok vs.toList.toArray w :=
    run_loadCells_list (P := P) w ⟨g, o, none⟩ _ (fun j v hv => by
      have hadd : (⟨g, o, none⟩ : Addr).add j = ⟨g, o + j, none⟩ := by unfold Addr.add; split <;> simp_all
      rw [hadd]
      exact hc j v (by simpa using hv))
  simp only [Array.toArray_toList, Array.length_toList] at hl
  obtain ⟨i, hq, hs⟩ := Option.map_eq_some_iff.1 hi
  simp [loadVar, Sem.run_bind, run_isAgg_yes hu hd, sizeOf, typeInfo, hq, hs, hl]

/-- The load of an element of more cells than one. -/
theorem wpList_load_cells {ops : Array Oper} {rest : List Oper} {o : Oper} {a : Act} {w : World} {Q : Exit → Act → World → Prop} (hgd : Region.wanted o (yielded ops a.tmps) = true) (ty : TypeId) (x : Operand) (ho : o.op = .load ty x)
    (g off : Nat) (hx : a.eval x = .pointer (some ⟨g, off, none⟩)) (d : TypeDesc) (vs : Array Value) (hc : CellsAt w g off vs)
    (hu : P.underlying ty = some d) (hd : (match d with | .struct _ | .array _ _ => true | _ => false) = true) (hi : (P.info? ty).map (·.size) = some vs.size)
    (h : wpList P ops Q rest (a.put o.dst (.agg vs)) w) : wpList P ops Q (o :: rest) a w :=
  wpList_step fun K hK => by
    rw [if_pos hgd]
    unfold Oper.wp execOp
    simp only [ho, hx, Instr.loadAt, Instr.sureAddr, Sem.run_bind, Sem.run_pure, Result.andThen_ok, run_loadVar_cells w g off d vs hc hu hd hi]
    exact hK _ _ h
/-- .. in the head of a region that ends in an effect. -/
theorem still_load_cells {ops : Array Oper} {rest : List Oper} {o : Oper} {a : Act} {w : World} {Q : Act → Prop} (hgd : Region.wanted o (yielded ops a.tmps) = true) (ty : TypeId) (x : Operand) (ho : o.op = .load ty x)
    (g off : Nat) (hx : a.eval x = .pointer (some ⟨g, off, none⟩)) (d : TypeDesc) (vs : Array Value) (hc : CellsAt w g off vs)
    (hu : P.underlying ty = some d) (hd : (match d with | .struct _ | .array _ _ => true | _ => false) = true) (hi : (P.info? ty).map (·.size) = some vs.size)
    (h : wpStill P ops w Q rest (a.put o.dst (.agg vs))) : wpStill P ops w Q (o :: rest) a :=
  wpStill_step fun K hK => by
    rw [if_pos hgd]
    unfold Oper.still execOp
    simp only [ho, hx, Instr.loadAt, Instr.sureAddr, Sem.run_bind, Sem.run_pure, Result.andThen_ok, run_loadVar_cells w g off d vs hc hu hd hi]
    exact ⟨rfl, hK _ h⟩
/-- .. in a quiet walk. -/
theorem quiet_load_cells {o : Oper} {a : Act} {W : World} {K : Act → Prop} (ty : TypeId) (x : Operand) (ho : o.op = .load ty x)
    (g off : Nat) (hx : a.eval x = .pointer (some ⟨g, off, none⟩)) (d : TypeDesc) (vs : Array Value) (hc : CellsAt W g off vs) (hlt : g < W.heap.size)
    (hu : P.underlying ty = some d) (hd : (match d with | .struct _ | .array _ _ => true | _ => false) = true) (hi : (P.info? ty).map (·.size) = some vs.size)
    (h : K (a.put o.dst (.agg vs))) : o.quiet P a (fun w' => ∃ X : Bw W, w' = X.1) K := by
  refine ⟨.agg vs, ?_, h⟩
  rintro w ⟨X, rfl⟩
  have hc' : CellsAt X.1 g off vs := fun j v hj => by rw [X.cell _ _ hlt]; exact hc j v hj
  unfold Oper.quietAt execOp
  simp only [ho, hx, Instr.loadAt, Instr.sureAddr, Sem.run_bind, Sem.run_pure, Result.andThen_ok, run_loadVar_cells X.1 g off d vs hc' hu hd hi]
  exact ⟨rfl, rfl⟩
end

/-! ### Rows that came as an argument -/
section
variable {H : Type} {enc : TypeId × Value → H} {P : Program} {w : World} {base : Nat} {spare : Nat → Bool} {held : Bool}
open Go.ChangeShapes Go.WideShapes

/-- A slice opened, element by element: rd reads the elements' cells, R says what they are. -/
theorem open_rows {α : Type} [Inhabited α] {s : Nat} {f : α → Array Value} {R : α → Prop} {t e : TypeId} {fuel : Nat} {cs : List Value} {x : DataW H × List MemPlace} (ht : P.underlying t = some (.slice e)) (hs : P.cellsOf e = s) (hpos : 0 < s)
    (hrd : ∀ n c y, c.length = s → DataW.trod enc P w base spare held n e c = some y → ∃ z : α, R z ∧ c.toArray = f z) (h : DataW.trod enc P w base spare held fuel t cs = some x) :
    ∃ (a : Option Addr) (cap : Nat) (l : List α), cs = [.slice a l.length cap] ∧ RowsAt s f w a l ∧ (∀ z ∈ l, R z) ∧ l.length ≤ cap ∧ cap ≤ maxLen := by
  rcases Go.Deep.open_slice ht h with ⟨rfl, rfl⟩ | ⟨a, len, cap, m, n, D, Pl, rfl, hb, hl, hm, hmm, rfl, hx⟩
  · exact ⟨none, 0, [], rfl, .inl rfl, by simp, Nat.le_refl _, by decide⟩
  have hlm : len ≤ m := by rw [hmm]; split <;> omega
  have hz : ∀ i, i < len → ∃ z : α, R z ∧ (f z).size = s ∧ ∀ (j : Nat) v, (f z)[j]? = some v → w.cell? (a.add (s * i + j)) = some v := by
    intro i hi
    obtain ⟨cs', h1, h2⟩ := hx i (by omega)
    obtain ⟨_, hlen, hcell⟩ := World.cells?_some h1
    obtain ⟨z, hz1, hz2⟩ := hrd n cs' _ (by rw [hlen, hs]) h2
    refine ⟨z, hz1, by rw [← hz2]; simp [hlen, hs], fun j v hj => ?_⟩
    rw [← hz2] at hj
    have hj' : j < cs'.length := by
      have := (Array.getElem?_eq_some_iff.1 hj).1
      simpa using this
    have := hcell j (by omega)
    rw [Go.Deep.add_add, hs, Nat.mul_comm i s] at this
    rw [this]
    simpa using hj
  obtain ⟨F, hF⟩ := Go.Deep.choose_lt hz
  have hget : ∀ (i : Nat) x, ((List.range len).map F)[i]? = some x → i < len ∧ x = F i := by
    intro i x hi
    rw [List.getElem?_map] at hi
    obtain ⟨k, hk, rfl⟩ := Option.map_eq_some_iff.1 hi
    obtain ⟨h1, h2⟩ := List.getElem?_eq_some_iff.1 hk
    simp at h1 h2
    exact ⟨h1, by rw [← h2]⟩
  refine ⟨some a, cap, (List.range len).map F, by simp, ?_, ?_, by simpa using hl, hm⟩
  · rcases Nat.eq_zero_or_pos len with h0 | h0
    · subst h0; exact .inl rfl
    · right
      obtain ⟨g, off, spot⟩ := a
      have hsz : ∀ i, i < len → 0 < (f (F i)).size := fun i hi => by
        obtain ⟨cs', h1, h2⟩ := hx i (by omega)
        obtain ⟨_, hlen, _⟩ := World.cells?_some h1
        exact (hF i hi).2.1 ▸ hpos
      obtain ⟨v, hv⟩ : ∃ v, (f (F 0))[0]? = some v := ⟨(f (F 0))[0]'(hsz 0 h0), by simp⟩
      have h00 := (hF 0 h0).2.2 0 v hv
      have hspot : spot = none := by simpa [Addr.add] using World.cell?_spot h00
      subst hspot
      refine ⟨g, off, rfl, ?_, ?_⟩
      · have h2 : w.cell? ⟨g, off, none⟩ = some v := by simpa [Addr.add] using h00
        by_cases e : g < w.heap.size
        · exact e
        · simp [World.cell?, Array.getElem?_eq_none (Nat.le_of_not_lt e)] at h2
      · intro i x hi j v hj
        obtain ⟨hi', rfl⟩ := hget i x hi
        have := (hF i hi').2.2 j v hj
        rw [add_plain] at this
        rw [show off + s * i + j = off + (s * i + j) by omega]; exact this
  · intro z hz
    obtain ⟨i, hi, rfl⟩ := List.mem_map.1 hz
    exact (hF i (by simpa using hi)).1
end
end Go.Proofs.Ytkaalppmheikgaa
