/- A slice whose row is somebody's own, its room perhaps cut off. -/
import Derived.Test.YtkaalppmheikgaaTwB
import Derived.ArgAppend
namespace Go.Proofs.Ytkaalppmheikgaa
open Go.RowKit

/-- As ownsRow, but the block may be greater than the slice's capacity. -/
def Row (w : World) (base : Nat) (e : TypeId) (size : Nat) (v : Value) (n : Nat) (xs : List Value) : Prop :=
  xs.length = n * size ∧ ∃ a cap, v = .slice a n cap ∧ ((a = none ∧ n = 0 ∧ cap = 0) ∨ ∃ g cur, a = some ⟨g, 0, none⟩ ∧ base ≤ g ∧ w.heap[g]? = some (.cells cur e (0, 0)) ∧ n ≤ cap ∧ cap ≤ maxLen ∧ cap * size ≤ cur.size ∧ cur.toList.take (n * size) = xs)
section
variable {w w' : World} {base size n : Nat} {e : TypeId} {v : Value} {xs : List Value}
theorem Row.nil (w : World) (base : Nat) (e : TypeId) (size : Nat) : Row w base e size (.slice none 0 0) 0 [] := ⟨by simp, none, 0, rfl, .inl ⟨rfl, rfl, rfl⟩⟩
theorem Row.of_owns (h : w.ownsRow base e size v n xs) : Row w base e size v n xs := by
  refine ⟨h.1, ?_⟩
  rcases h.2 with ⟨rfl, rfl⟩ | ⟨g, cap, cur, rfl, h3, h4, h5, h6, h7, h8⟩
  · exact ⟨none, 0, rfl, .inl ⟨rfl, rfl, rfl⟩⟩
  · exact ⟨_, _, rfl, .inr ⟨g, cur, rfl, h3, h4, h5, h6, by omega, h8⟩⟩
theorem Row.shape (h : Row w base e size v n xs) : ∃ a cap, v = .slice a n cap := by
  obtain ⟨_, a, cap, h1, _⟩ := h
  exact ⟨a, cap, h1⟩
theorem Row.other (h : Row w base e size v n xs) (hk : ∀ g, v.ownBlock = some g → w'.heap[g]? = w.heap[g]?) : Row w' base e size v n xs := by
  obtain ⟨h0, a, cap, rfl, h1⟩ := h
  refine ⟨h0, a, cap, rfl, ?_⟩
  rcases h1 with h1 | ⟨g, cur, rfl, h3, h4, h5⟩
  · exact .inl h1
  · exact .inr ⟨g, cur, rfl, h3, (hk g rfl).trans h4, h5⟩
theorem Row.lt (h : Row w base e size v n xs) {g : Nat} (hg : v.ownBlock = some g) : g < w.heap.size := by
  obtain ⟨h0, a, cap, rfl, h1⟩ := h
  rcases h1 with ⟨rfl, _⟩ | ⟨g', cur, rfl, h3, h4, h5⟩
  · cases hg
  · cases hg; exact heap_lt h4
theorem Row.low (h : Row w base e size v n xs) {g : Nat} (hg : v.ownBlock = some g) : base ≤ g := by
  obtain ⟨h0, a, cap, rfl, h1⟩ := h
  rcases h1 with ⟨rfl, _⟩ | ⟨g', cur, rfl, h3, h4, h5⟩
  · cases hg
  · cases hg; exact h3
theorem Row.type (h : Row w base e size v n xs) {g : Nat} (hg : v.ownBlock = some g) : ∃ cur, w.heap[g]? = some (.cells cur e (0, 0)) := by
  obtain ⟨h0, a, cap, rfl, h1⟩ := h
  rcases h1 with ⟨rfl, _⟩ | ⟨g', cur, rfl, h3, h4, h5⟩
  · cases hg
  · cases hg; exact ⟨cur, h4⟩
theorem Row.kept (h : Row w base e size v n xs) (hb : Below w.heap.size w w') : Row w' base e size v n xs := h.other fun g hg => hb.block g (h.lt hg)
theorem Row.mono {b2 : Nat} (h : Row w base e size v n xs) (hb : b2 ≤ base) : Row w b2 e size v n xs := by
  obtain ⟨h0, a, cap, rfl, h1⟩ := h
  refine ⟨h0, a, cap, rfl, ?_⟩
  rcases h1 with h1 | ⟨g, cur, rfl, h3, h5⟩
  · exact .inl h1
  · exact .inr ⟨g, cur, rfl, Nat.le_trans hb h3, h5⟩
/-- The first m, the room behind them cut off or not. -/
theorem Row.cut {a : Option Addr} {cap m c : Nat} (h : Row w base e size (.slice a n cap) n xs) (hm : m ≤ n) (hc : m ≤ c) (hcc : c ≤ cap) (h0 : a = none → c = 0) : Row w base e size (.slice a m c) m (xs.take (m * size)) := by
  obtain ⟨h1, a', cap', e1, h2⟩ := h
  cases e1
  have hle : m * size ≤ n * size := Nat.mul_le_mul_right _ hm
  refine ⟨by rw [List.length_take, h1, Nat.min_eq_left hle], a, c, rfl, ?_⟩
  rcases h2 with ⟨rfl, rfl, rfl⟩ | ⟨g, cur, rfl, h3, h4, h5, h6, h7, h8⟩
  · exact .inl ⟨rfl, by omega, by omega⟩
  · refine .inr ⟨g, cur, rfl, h3, h4, hc, by omega, Nat.le_trans (Nat.mul_le_mul_right _ hcc) h7, ?_⟩
    rw [← h8, List.take_take, Nat.min_eq_left hle]
theorem Row.cells (h : Row w base e size v n xs) {g : Nat} (hg : v.ownBlock = some g) {j : Nat} {u : Value} (hj : xs[j]? = some u) : w.cell? ⟨g, j, none⟩ = some u := by
  obtain ⟨h0, a, cap, rfl, h1⟩ := h
  rcases h1 with ⟨rfl, _⟩ | ⟨g', cur, rfl, h3, h4, h5, h6, h7, h8⟩
  · cases hg
  · cases hg
    refine row_cell h4 _ _ ?_
    have hlt : j < n * size := by rw [← h0]; exact (List.getElem?_eq_some_iff.1 hj).1
    rw [← Array.getElem?_toList, ← hj, ← h8, List.getElem?_take_of_lt hlt]
/-- As rows of elements. -/
theorem Row.rows {α : Type} {f : α → Array Value} {l : List α} (hs : ∀ x, (f x).size = size) (hn : n = l.length) (h : Row w base e size v n (fl f l)) : ∃ a cap, v = .slice a l.length cap ∧ RowsAt size f w a l := by
  subst hn
  have h' := h
  obtain ⟨h0, a, cap, rfl, h1⟩ := h
  refine ⟨a, cap, rfl, ?_⟩
  rcases h1 with ⟨_, h2, _⟩ | ⟨g, cur, rfl, _⟩
  · exact .inl (List.eq_nil_of_length_eq_zero h2)
  · refine .inr ⟨g, 0, rfl, h'.lt rfl, fun i x hx j u hj => ?_⟩
    have hj2 : j < size := by have := (Array.getElem?_eq_some_iff.1 hj).1; rw [hs] at this; exact this
    refine h'.cells rfl ?_
    rw [show 0 + size * i + j = i * size + j by rw [Nat.zero_add, Nat.mul_comm], fl_get hs hx hj2, hj]
/-- **append: one way or the other.** -/
theorem run_append_row {P : Program} (t ty : TypeId) (i : TypeInfo) (z : Value) (bytes : Nat) (ht : P.underlying t = some (.slice e)) (hi : P.info? e = some i) (hz : i.zero = some z)
    (hsize : i.size = size) (hby : i.bytes = bytes) (hzs : z.cells.size = size) (hsz : 0 < size) (h : Row w base e size v n xs) (hbase : base ≤ w.heap.size)
    (ad : Addr) (m c : Nat) (news : List Value) (hl : news.length = m * size) (hnews : ∀ j u, news[j]? = some u → w.cell? (ad.add j) = some u) (h1 : ∀ u ∈ news, u.oneCell' = true)
    (h63 : n + m ≤ maxLen) (hbytes : (n + m) * bytes ≤ 140737488355328) :
    ∃ v' w', (Builtin.append_ #[t, t] ty #[v, .slice (some ad) m c]).run P w = .ok v' w' ∧ Row w' base e size v' (n + m) (xs ++ news) ∧ w.grownBy w' v.ownBlock ∧ (v'.ownBlock = v.ownBlock ∨ ∀ g, v'.ownBlock = some g → w.heap.size ≤ g) := by
  have h' := h
  obtain ⟨h0, a, cap, rfl, h2⟩ := h
  rcases h2 with ⟨rfl, rfl, rfl⟩ | ⟨g, cur, rfl, h3, h4, h5, h6, h7, h8⟩
  · obtain rfl : xs = [] := List.eq_nil_of_length_eq_zero (by simpa using h0)
    obtain ⟨v', w', hrun, r1, r2, _⟩ := run_append_own (P := P) w w.heap.size t ty e i z size bytes ht hi hz hsize hby hzs hsz (.slice none 0 0) 0 [] (World.ownsRow_nil w _ e size) ad m c news hl hnews h1 h63 hbytes (Nat.le_refl _)
    exact ⟨v', w', hrun, (Row.of_owns r1).mono hbase, r2, .inr fun g hg => (Row.of_owns r1).low hg⟩
  · by_cases hr : n + m ≤ cap
    · subst hsize
      have hmul : n * i.size + m * i.size ≤ cur.size := by rw [← Nat.add_mul]; exact Nat.le_trans (Nat.mul_le_mul_right _ hr) h7
      have hc : ∀ j, j < news.length → (w.cell? ⟨g, 0 + n * i.size + j, none⟩).isSome = true := fun j hj => by
        rw [cell_of_row _ _ _ _ _ _ h4, Array.getElem?_eq_getElem (by omega)]; rfl
      have hf : ∀ j, j < news.length → w.frozen? ⟨g, 0 + n * i.size + j, none⟩ = false := fun j _ => free_row h4 _
      have hrun := run_append_room_cells (P := P) w t ty e i ht hi g 0 n cap ad m c news hl hnews h1 hr hc hf
      refine ⟨_, _, hrun, ⟨by rw [List.length_append, h0, hl, Nat.add_mul], _, _, rfl, .inr ⟨g, _, rfl, h3, heap_setCells _ _ _ _ h4, hr, h6, by rw [List.size_toArray, setR_len, Array.length_toList]; exact h7, ?_⟩⟩, ?_, .inl rfl⟩
      · apply List.ext_getElem?
        intro j
        by_cases hj : j < (n + m) * i.size
        · rw [List.getElem?_take_of_lt hj, List.toList_toArray, setR_get _ _ _ _ (by rw [Array.length_toList, ]; rw [Nat.add_mul] at hj; omega), Nat.zero_add]
          rw [Nat.add_mul] at hj
          by_cases hjn : j < n * i.size
          · rw [if_neg (by omega), List.getElem?_append_left (by omega), ← h8, List.getElem?_take_of_lt hjn]
          · rw [if_pos (by omega), List.getElem?_append_right (by omega), h0]
        · rw [List.getElem?_take_eq_none (by omega), List.getElem?_eq_none (by rw [List.length_append, h0, hl, ← Nat.add_mul]; omega)]
      · have hh := setCells_os g news (0 + n * i.size) w
        exact ⟨hh.1, hh.2.1, hh.2.2, by rw [setCells_size]; exact Nat.le_refl _, fun k _ hk => setCells_other _ _ _ _ _ (fun e => hk (by rw [e]; rfl))⟩
    · obtain ⟨v', w', hrun, r1, r2⟩ := run_append_arg_grows (P := P) w t ty e i z size bytes ht hi hz hsize hby hzs hsz ⟨g, 0, none⟩ n cap xs h0 (fun j u hj => by rw [Addr.add_lit, Nat.zero_add]; exact h'.cells rfl hj) ad m c news hl hnews (by omega) h63 hbytes
      exact ⟨v', w', hrun, (Row.of_owns r1).mono hbase, ⟨r2.os, r2.tape, r2.output, r2.size, fun k hk _ => r2.block k hk (by simp)⟩, .inr fun g hg => (Row.of_owns r1).low hg⟩
end
end Go.Proofs.Ytkaalppmheikgaa
