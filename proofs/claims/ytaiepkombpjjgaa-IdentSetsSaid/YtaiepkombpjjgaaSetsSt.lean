/- The state in which IdentSets is: what lies where. -/
import Derived.Test.YtaiepkombpjjgaaIdAlive
import Derived.Test.YtaiepkombpjjgaaSetsPl
import Derived.Test.YtaiepkombpjjgaaBey
import Derived.Test.YtaiepkombpjjgaaQx
namespace Go.Proofs.Ytaiepkombpjjgaa
open Go.RowKit

theorem RowsAt.turn {α : Type} {s : Nat} {f : α → Array Value} (hs : ∀ x, (f x).size = s) (hpos : 0 < s) {w w2 : World} {a : Option Addr} {l : List α} (h : RowsAt s f w a l) {b : Nat} {o : Obj} (hb : w.heap[b]? = some o) (ho : o.isCells = false) (hk : Kp (fun k => k = b) w w2) : RowsAt s f w2 a l := by
  rcases h with h | ⟨g, o1, h1, h2, h3⟩
  · exact .inl h
  · by_cases h0 : l = []
    · exact .inl h0
    · obtain ⟨x, hx⟩ : ∃ x, l[0]? = some x := by
        cases l with
        | nil => exact absurd rfl h0
        | cons a l => exact ⟨a, rfl⟩
      have hne : g ≠ b := fun e => by
        subst e
        obtain ⟨v, hv⟩ : ∃ v, (f x)[0]? = some v := ⟨(f x)[0]'(by rw [hs]; exact hpos), Array.getElem?_eq_getElem _⟩
        have h4 := h3 0 x hx 0 v hv
        obtain ⟨o', ho', hc'⟩ := cells_of_cell h4
        rw [hb] at ho'; cases ho'
        rw [ho] at hc'; cases hc'
      refine .inr ⟨g, o1, h1, Nat.lt_of_lt_of_le h2 hk.size, fun i y hy j v hj => ?_⟩
      rw [World.cell?_of_block (a := ⟨g, o1 + s * i + j, none⟩) (hk.block g h2 hne)]
      exact h3 i y hy j v hj
theorem rows_vals {w : World} {g n cap : Nat} {base : Nat} {t : TypeId} {L : List Id8} (h : w.ownsRow base t 8 (.slice (some ⟨g, 0, none⟩) n cap) n (flatB (vals L))) : RowsAt 8 idE w (some ⟨g, 0, none⟩) L := by
  obtain ⟨cur, h1, _, h3⟩ := own_ids vals_B8 h
  refine .inr ⟨g, 0, rfl, heap_lt h1, fun i x hx j v hj => ?_⟩
  obtain ⟨h4, h5⟩ := h3 i x.1 (by unfold vals; rw [List.getElem?_map, hx]; rfl)
  have hj8 : j < 8 := by have := (Array.getElem?_eq_some_iff.1 hj).1; rw [idE_size] at this; exact this
  refine row_cell h1 _ _ ?_
  unfold idE at hj
  rw [← h5, Array.getElem?_extract, if_pos (by omega)] at hj
  rw [← hj]
  congr 1
  omega

theorem own_rows {w : World} {base : Nat} {t : TypeId} {v : Value} {L : List Id8} {n : Nat} (hn : n = L.length) (h : w.ownsRow base t 8 v n (flatB (vals L))) : ∃ va cap, v = .slice va L.length cap ∧ RowsAt 8 idE w va L := by
  subst hn
  by_cases h0 : 0 < L.length
  · obtain ⟨g, cap, rfl⟩ := ownsRow_form' h h0
    exact ⟨_, _, rfl, rows_vals h⟩
  · obtain ⟨va, cap, rfl⟩ := ownsRow_shape h
    exact ⟨_, _, rfl, .inl (List.eq_nil_of_length_eq_zero (by omega))⟩

/-- The state: the id, the set, its iterator's box, what it gave. -/
structure SAt (w wr : World) (x : Id8) (p b bx : Nat) (va : Option Addr) (L : List Id8) (S : List (List Int)) : Prop where
  set : SetIs wr p b S
  box : wr.heap[bx]? = some (.cells #[.pointer (some ⟨p, 0, none⟩)] 40 (0, 0))
  idc : wr.heap[w.heap.size]? = some (.cells (idE x) 23 (0, 0))
  all : RowsAt 8 idE wr va L
  below : Below w.heap.size w wr
  pb : w.heap.size ≤ b
section
variable {w wr w2 : World} {x : Id8} {p b bx : Nat} {va : Option Addr} {L : List Id8} {S S2 : List (List Int)}
theorem SAt.kept (h : SAt w wr x p b bx va L S) (hb : Below wr.heap.size wr w2) : SAt w w2 x p b bx va L S :=
  ⟨h.set.kept hb, below_keep hb h.box, below_keep hb h.idc, h.all.kept hb, h.below.trans (hb.mono h.below.size), h.pb⟩
theorem SetIs.mapObj (h : SetIs wr p b S) : ∃ o, wr.heap[b]? = some o ∧ o.isCells = false := by
  obtain ⟨m, clk, _, hm, _⟩ := h
  exact ⟨_, hm, rfl⟩
theorem SAt.turn (h : SAt w wr x p b bx va L S) (hk : Kp (fun k => k = b) wr w2) (hs : SetIs w2 p b S2) : SAt w w2 x p b bx va L S2 := by
  obtain ⟨o, ho, hc⟩ := h.set.mapObj
  have ne : ∀ {k : Nat} {cs : Array Value} {t : TypeId} {fr : Nat × Nat}, wr.heap[k]? = some (.cells cs t fr) → w2.heap[k]? = some (.cells cs t fr) := fun {k cs t fr} hk1 => hk.keep hk1 (fun e => by subst e; rw [ho] at hk1; cases hk1; cases hc)
  refine ⟨hs, ne h.box, ne h.idc, h.all.turn idE_size (by omega) ho hc hk, h.below.trans ((hk.toBelow (B := w.heap.size) h.below.size (fun k _ e => by rw [e]; exact h.pb))), h.pb⟩
theorem SAt.iter (h : SAt w wr x p b bx va L S) : IterAt wr bx (idsOf S h.set.b8) := ⟨_, h.box, .inr ⟨p, rfl, .inr ⟨b, S, h.set, idsOf_val _ _⟩⟩⟩
end
theorem idsAt_of_rows {w : World} {g : Nat} {m : Id8} {l : List Id8} (h : FlAt w g 23 idE (l ++ [m])) : IdsAt w (some ⟨g, 0, none⟩) (vals l) := by
  refine .inr ⟨g, 0, _, _, _, rfl, h, fun i y hy => ?_⟩
  unfold vals at hy
  rw [List.getElem?_map] at hy
  obtain ⟨z, hz, rfl⟩ := Option.map_eq_some_iff.1 hy
  have hil := (List.getElem?_eq_some_iff.1 hz).1
  have hz2 : (l ++ [m])[i]? = some z := by rw [List.getElem?_append_left hil]; exact hz
  have hsz : 0 + 8 * i + 8 ≤ (fl idE (l ++ [m])).toArray.size := by
    rw [List.size_toArray, fl_len idE_size, List.length_append]; simp; omega
  refine ⟨hsz, ?_⟩
  apply Array.ext_getElem?
  intro r
  by_cases hr : r < 8
  · rw [Array.getElem?_extract, if_pos (by omega), List.getElem?_toArray]
    have := fl_get idE_size hz2 hr
    rw [show 0 + 8 * i + r = i * 8 + r by omega, this]; rfl
  · rw [Array.getElem?_eq_none (by simp; omega), Array.getElem?_eq_none (by rw [bys_size, z.2.1]; omega)]
end Go.Proofs.Ytaiepkombpjjgaa
