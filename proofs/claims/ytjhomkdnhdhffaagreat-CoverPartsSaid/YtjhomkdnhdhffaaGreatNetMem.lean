/- The net in memory. -/
import Derived.Test.YtjhomkdnhdhffaaGreatNetPl
import Derived.Test.YtjhomkdnhdhffaaGreatLists
import Derived.WalkSmall
namespace Go.Proofs.YtjhomkdnhdhffaaGreat
open Go.RowKit

def boolV (l : List Bool) : List Value := l.map Value.bool
/-- The net's cells: by row its columns; the pairs by row, by column; what is done (nothing ever); what is gone. -/
def netL (tos : List Value) (row col : List Int) (gone : List Bool) : List Value := tos ++ (intV row ++ (intV col ++ (boolV (List.replicate 64 false) ++ boolV gone)))
def NetAt (w : World) (p : Nat) (tos : List Value) (row col : List Int) (gone : List Bool) : Prop := w.heap[p]? = some (.cells (netL tos row col gone).toArray 98 (0, 0))
def MarksAt (w : World) (m : Nat) (l : List Bool) : Prop := w.heap[m]? = some (.cells (boolV l).toArray 94 (0, 0))
/-- By row its columns, to be read. -/
structure ToAt (w : World) (tos : List Value) (tl : List (List Nat)) : Prop where
  len : tos.length = 64
  each : ∀ (r : Nat) l, tl[r]? = some l → ∃ a cap, tos[r]? = some (.slice a l.length cap) ∧ (l = [] ∨ ∃ g cs fr, a = some ⟨g, 0, none⟩ ∧ w.heap[g]? = some (.cells cs 3 fr) ∧ ∀ (i n : Nat), l[i]? = some n → cs[i]? = some (.int .i64 n))
/-- Two blocks alone may have turned. -/
structure Only (w w' : World) (p m : Nat) : Prop where
  os : w'.os = w.os
  tape : w'.tape = w.tape
  output : w'.output = w.output
  size : w.heap.size ≤ w'.heap.size
  block : ∀ k, k < w.heap.size → k ≠ p → k ≠ m → w'.heap[k]? = w.heap[k]?

theorem Only.refl (w : World) (p m : Nat) : Only w w p m := ⟨rfl, rfl, rfl, Nat.le_refl _, fun _ _ _ _ => rfl⟩
theorem Only.trans {a b c : World} {p m : Nat} (h : Only a b p m) (k : Only b c p m) : Only a c p m :=
  ⟨k.os.trans h.os, k.tape.trans h.tape, k.output.trans h.output, Nat.le_trans h.size k.size, fun i hi h1 h2 => (k.block i (Nat.lt_of_lt_of_le hi h.size) h1 h2).trans (h.block i hi h1 h2)⟩
theorem Only.drew {a w : World} {p m : Nat} (h : Only a w p m) : Only a w.drew p m := ⟨h.os, h.tape, h.output, h.size, h.block⟩
theorem Only.drewN {a w : World} {p m : Nat} (h : Only a w p m) (n : Nat) : Only a (w.drewN n) p m := h.trans ⟨rfl, rfl, rfl, Nat.le_refl _, fun _ _ _ _ => rfl⟩
theorem Only.setCell {a w : World} {p m : Nat} (h : Only a w p m) {b : Nat} (hb : b = p ∨ b = m) (k : Nat) (u : Value) : Only a (w.setCell ⟨b, k, none⟩ u) p m :=
  h.trans ⟨rfl, rfl, rfl, by rw [setCell_size]; exact Nat.le_refl _, fun i _ h1 h2 => heap_setCell_ne (by rcases hb with rfl | rfl <;> assumption)⟩
theorem Only.keep {w w' : World} {p m : Nat} (h : Only w w' p m) {b : Nat} {o : Obj} (hb : w.heap[b]? = some o) (h1 : b ≠ p) (h2 : b ≠ m) : w'.heap[b]? = some o := by rw [h.block b (heap_lt hb) h1 h2]; exact hb
theorem ToAt.only {w w' : World} {p m : Nat} {tos : List Value} {tl : List (List Nat)} (h : ToAt w tos tl) (ho : Only w w' p m) {cp cm : Array Value} {T1 T2 : TypeId} {f1 f2 : Nat × Nat} (hp : w.heap[p]? = some (.cells cp T1 f1)) (hm : w.heap[m]? = some (.cells cm T2 f2)) (n1 : T1 ≠ 3) (n2 : T2 ≠ 3) : ToAt w' tos tl := by
  refine ⟨h.len, fun r l hl => ?_⟩
  obtain ⟨a, cap, h1, h2⟩ := h.each r l hl
  refine ⟨a, cap, h1, ?_⟩
  rcases h2 with h2 | ⟨g, cs, fr, h2, h3, h4⟩
  · exact .inl h2
  · refine .inr ⟨g, cs, fr, h2, ho.keep h3 (fun e => ?_) (fun e => ?_), h4⟩
    · subst e; rw [hp] at h3; cases h3; exact n1 rfl
    · subst e; rw [hm] at h3; cases h3; exact n2 rfl

theorem netL_to {tos : List Value} {row col : List Int} {gone : List Bool} (h : tos.length = 64) {k : Nat} (hk : k < 64) : (netL tos row col gone)[k]? = tos[k]? := by
  unfold netL; rw [List.getElem?_append_left (by omega)]
theorem netL_row {tos : List Value} {row col : List Int} {gone : List Bool} (h : tos.length = 64) {k : Nat} {n : Int} (hn : row[k]? = some n) : (netL tos row col gone)[64 + k]? = some (.int .i64 n) := by
  have hk := (List.getElem?_eq_some_iff.1 hn).1
  unfold netL; rw [List.getElem?_append_right (by omega), List.getElem?_append_left (by simp [intV]; omega)]
  simp [intV, h, hn]
theorem netL_col {tos : List Value} {row col : List Int} {gone : List Bool} (h : tos.length = 64) (h1 : row.length = 64) {k : Nat} {n : Int} (hn : col[k]? = some n) : (netL tos row col gone)[128 + k]? = some (.int .i64 n) := by
  have hk := (List.getElem?_eq_some_iff.1 hn).1
  unfold netL; rw [List.getElem?_append_right (by omega), List.getElem?_append_right (by simp [intV]; omega), List.getElem?_append_left (by simp [intV]; omega)]
  simp only [intV, List.length_map, h, h1, List.getElem?_map]
  rw [show 128 + k - 64 - 64 = k by omega, hn]; rfl
theorem netL_gone {tos : List Value} {row col : List Int} {gone : List Bool} (h : tos.length = 64) (h1 : row.length = 64) (h2 : col.length = 64) {k : Nat} {b : Bool} (hn : gone[k]? = some b) : (netL tos row col gone)[256 + k]? = some (.bool b) := by
  unfold netL; rw [List.getElem?_append_right (by omega), List.getElem?_append_right (by simp [intV]; omega), List.getElem?_append_right (by simp [intV]; omega), List.getElem?_append_right (by simp [intV, boolV]; omega)]
  simp only [intV, boolV, List.length_map, h, h1, h2, List.getElem?_map, List.length_replicate]
  rw [show 256 + k - 64 - 64 - 64 - 64 = k by omega, hn]; rfl
theorem intV_set (l : List Int) (k : Nat) (n : Int) : (intV l).set k (.int .i64 n) = intV (l.set k n) := by simp [intV, List.map_set]
theorem boolV_set (l : List Bool) (k : Nat) (b : Bool) : (boolV l).set k (.bool b) = boolV (l.set k b) := by simp [boolV, List.map_set]
theorem netL_setTo {tos : List Value} {row col : List Int} {gone : List Bool} (h : tos.length = 64) {k : Nat} (hk : k < 64) (v : Value) : (netL tos row col gone).set k v = netL (tos.set k v) row col gone := by
  unfold netL; rw [List.set_append_left _ _ (by omega)]
theorem netL_setRow {tos : List Value} {row col : List Int} {gone : List Bool} (h : tos.length = 64) (h1 : row.length = 64) {k : Nat} (hk : k < 64) (n : Int) : (netL tos row col gone).set (64 + k) (.int .i64 n) = netL tos (row.set k n) col gone := by
  unfold netL; rw [List.set_append_right _ _ (by omega), List.set_append_left _ _ (by simp [intV]; omega), h, Nat.add_sub_cancel_left, intV_set]
theorem netL_setCol {tos : List Value} {row col : List Int} {gone : List Bool} (h : tos.length = 64) (h1 : row.length = 64) (h2 : col.length = 64) {k : Nat} (hk : k < 64) (n : Int) : (netL tos row col gone).set (128 + k) (.int .i64 n) = netL tos row (col.set k n) gone := by
  unfold netL; rw [List.set_append_right _ _ (by omega), List.set_append_right _ _ (by simp [intV]; omega), List.set_append_left _ _ (by simp [intV]; omega)]
  rw [show 128 + k - tos.length - (intV row).length = k by simp [intV]; omega, intV_set]
theorem netL_setGone {tos : List Value} {row col : List Int} {gone : List Bool} (h : tos.length = 64) (h1 : row.length = 64) (h2 : col.length = 64) {k : Nat} (b : Bool) : (netL tos row col gone).set (256 + k) (.bool b) = netL tos row col (gone.set k b) := by
  unfold netL; rw [List.set_append_right _ _ (by omega), List.set_append_right _ _ (by simp [intV]; omega), List.set_append_right _ _ (by simp [intV]; omega), List.set_append_right _ _ (by simp [intV, boolV]; omega)]
  rw [show 256 + k - tos.length - (intV row).length - (intV col).length - (boolV (List.replicate 64 false)).length = k by simp [intV, boolV]; omega, boolV_set]

theorem row_setCellL {w : World} {g : Nat} {l : List Value} {T : TypeId} {fr : Nat × Nat} (h : w.heap[g]? = some (.cells l.toArray T fr)) (k : Nat) (u : Value) : (w.setCell ⟨g, k, none⟩ u).heap[g]? = some (.cells (l.set k u).toArray T fr) := by
  rw [row_setCell h]; simp
theorem NetAt.setRow {w : World} {p : Nat} {tos : List Value} {row col : List Int} {gone : List Bool} (h : NetAt w p tos row col gone) (ht : tos.length = 64) (h1 : row.length = 64) {k : Nat} (hk : k < 64) (n : Int) : NetAt (w.setCell ⟨p, 64 + k, none⟩ (.int .i64 n)) p tos (row.set k n) col gone := by
  unfold NetAt; rw [row_setCellL h, netL_setRow ht h1 hk]
theorem NetAt.setCol {w : World} {p : Nat} {tos : List Value} {row col : List Int} {gone : List Bool} (h : NetAt w p tos row col gone) (ht : tos.length = 64) (h1 : row.length = 64) (h2 : col.length = 64) {k : Nat} (hk : k < 64) (n : Int) : NetAt (w.setCell ⟨p, 128 + k, none⟩ (.int .i64 n)) p tos row (col.set k n) gone := by
  unfold NetAt; rw [row_setCellL h, netL_setCol ht h1 h2 hk]
theorem NetAt.setGone {w : World} {p : Nat} {tos : List Value} {row col : List Int} {gone : List Bool} (h : NetAt w p tos row col gone) (ht : tos.length = 64) (h1 : row.length = 64) (h2 : col.length = 64) (k : Nat) (b : Bool) : NetAt (w.setCell ⟨p, 256 + k, none⟩ (.bool b)) p tos row col (gone.set k b) := by
  unfold NetAt; rw [row_setCellL h, netL_setGone ht h1 h2]
theorem NetAt.setTo {w : World} {p : Nat} {tos : List Value} {row col : List Int} {gone : List Bool} (h : NetAt w p tos row col gone) (ht : tos.length = 64) {k : Nat} (hk : k < 64) (v : Value) : NetAt (w.setCell ⟨p, k, none⟩ v) p (tos.set k v) row col gone := by
  unfold NetAt; rw [row_setCellL h, netL_setTo ht hk]
theorem NetAt.other {w : World} {p : Nat} {tos : List Value} {row col : List Int} {gone : List Bool} (h : NetAt w p tos row col gone) {b : Nat} (hb : p ≠ b) (k : Nat) (u : Value) : NetAt (w.setCell ⟨b, k, none⟩ u) p tos row col gone := by
  unfold NetAt; rw [heap_setCell_ne hb]; exact h
theorem MarksAt.set {w : World} {m : Nat} {l : List Bool} (h : MarksAt w m l) (k : Nat) (b : Bool) : MarksAt (w.setCell ⟨m, k, none⟩ (.bool b)) m (l.set k b) := by
  unfold MarksAt; rw [row_setCellL h, boolV_set]
theorem MarksAt.other {w : World} {m : Nat} {l : List Bool} (h : MarksAt w m l) {b : Nat} (hb : m ≠ b) (k : Nat) (u : Value) : MarksAt (w.setCell ⟨b, k, none⟩ u) m l := by
  unfold MarksAt; rw [heap_setCell_ne hb]; exact h
theorem MarksAt.cell {w : World} {m : Nat} {l : List Bool} (h : MarksAt w m l) {k : Nat} (hk : k < l.length) : w.cell? ⟨m, k, none⟩ = some (.bool (getB l k)) :=
  row_cell h k _ (by simp [boolV, getB, hk])
theorem NetAt.cellTo {w : World} {p : Nat} {tos : List Value} {row col : List Int} {gone : List Bool} (h : NetAt w p tos row col gone) (ht : tos.length = 64) {k : Nat} (hk : k < 64) {v : Value} (hv : tos[k]? = some v) : w.cell? ⟨p, k, none⟩ = some v :=
  row_cell h k _ (by rw [List.getElem?_toArray, netL_to ht hk]; exact hv)
theorem NetAt.cellRow {w : World} {p : Nat} {tos : List Value} {row col : List Int} {gone : List Bool} (h : NetAt w p tos row col gone) (ht : tos.length = 64) {k : Nat} (hk : k < row.length) : w.cell? ⟨p, 64 + k, none⟩ = some (.int .i64 (getI row k)) :=
  row_cell h _ _ (by rw [List.getElem?_toArray]; exact netL_row ht (by simp [getI, hk]))
theorem NetAt.cellCol {w : World} {p : Nat} {tos : List Value} {row col : List Int} {gone : List Bool} (h : NetAt w p tos row col gone) (ht : tos.length = 64) (h1 : row.length = 64) {k : Nat} (hk : k < col.length) : w.cell? ⟨p, 128 + k, none⟩ = some (.int .i64 (getI col k)) :=
  row_cell h _ _ (by rw [List.getElem?_toArray]; exact netL_col ht h1 (by simp [getI, hk]))
theorem NetAt.cellGone {w : World} {p : Nat} {tos : List Value} {row col : List Int} {gone : List Bool} (h : NetAt w p tos row col gone) (ht : tos.length = 64) (h1 : row.length = 64) (h2 : col.length = 64) {k : Nat} (hk : k < gone.length) : w.cell? ⟨p, 256 + k, none⟩ = some (.bool (getB gone k)) :=
  row_cell h _ _ (by rw [List.getElem?_toArray]; exact netL_gone ht h1 h2 (by simp [getB, hk]))
end Go.Proofs.YtjhomkdnhdhffaaGreat
