/- A graph that a law makes: its block, its edges of the call's own. Weights. -/
import Derived.Test.YtmddhjoomlhbcaaAsSt
import Derived.Test.YtmddhjoomlhbcaaAsTh
namespace Go.Proofs.Ytmddhjoomlhbcaa
open Go.RowKit

theorem own_rows2 {α : Type} {f : α → Array Value} {s : Nat} (hs : ∀ x, (f x).size = s) {w : World} {base : Nat} {e : TypeId} {v : Value} {l : List α} (h : w.ownsRow base e s v l.length (flatV f l)) : ∃ A cap, v = .slice A l.length cap ∧ l.length ≤ cap ∧ cap ≤ 9223372036854775807 ∧ RowsAt s f w A l := by
  have h0 := h
  obtain ⟨A, cap, h1, h2, h3⟩ := own_rows hs h
  refine ⟨A, cap, h1, h2, ?_, h3⟩
  obtain ⟨_, ⟨q1, q2⟩ | ⟨g, c2, cur, q1, _, _, _, q2, _⟩⟩ := h0
  · rw [q1] at h1; injection h1; omega
  · rw [q1] at h1; cases h1; exact q2
structure HBx (w0 w : World) (hb B : Nat) (R C : Int) (pv : Value) (l : List Ed) : Prop where
  blk : w.heap[hb]? = some (.cells #[.int .i64 R, .int .i64 C, pv] 24 (0, 0))
  own : w.ownsRow B 47 3 pv l.length (flatV edV l)
  below : Below w0.heap.size w0 w
  ord : w0.heap.size ≤ hb ∧ hb < B ∧ B ≤ w.heap.size
theorem info_edge3 : (Try.prog.info? 47).map (fun i => (i.zero, i.size, i.bytes)) = some (some (.agg #[.int .i64 0, .int .i64 0, .int .i64 0]), 3, 24) := by kernel_rfl
section
variable {w0 w w' : World} {hb B : Nat} {R C : Int} {pv : Value} {l : List Ed}
theorem HBx.start (w : World) (R C : Int) : HBx w (w.alloc (.cells #[.int .i64 R, .int .i64 C, .slice none 0 0] 24)) w.heap.size (w.heap.size + 1) R C (.slice none 0 0) [] :=
  ⟨heap_alloc_new _ _, ownsRow_nil _ _ _ _, below_new _ _, by rw [alloc_size]; omega⟩
theorem HBx.kept (h : HBx w0 w hb B R C pv l) (k : Below w.heap.size w w') : HBx w0 w' hb B R C pv l :=
  ⟨below_keep k h.blk, ownsRow_other h.own fun g hg => k.block g (ownsRow_lt h.own hg), h.below.trans (k.mono h.below.size), by have := h.ord; have := k.size; omega⟩
theorem HBx.ownAt (h : HBx w0 w hb B R C pv l) (k : Below w.heap.size w w') : w'.ownsRow B 47 3 pv l.length (flatV edV l) := (h.kept k).own
theorem HBx.list (h : HBx w0 w hb B R C pv l) : w.cell? ⟨hb, 2, none⟩ = some pv := row_cell h.blk 2 _ rfl
/-- Edges are put behind its edges: wa, where that begins. -/
theorem HBx.grow (h : HBx w0 w hb B R C pv l) {m : List Ed} {n : Nat} {xs : List Value} {wa w4 : World} {v2 : Value} (k : Below w.heap.size w wa) (hn : n = l.length + m.length) (hx : xs = flatV edV l ++ flatV edV m) (ho : w4.ownsRow B 47 3 v2 n xs) (hg : wa.grownBy w4 pv.ownBlock) :
    w4.heap[hb]? = some (.cells #[.int .i64 R, .int .i64 C, pv] 24 (0, 0)) ∧ HBx w0 (w4.setCell ⟨hb, 2, none⟩ v2) hb B R C v2 (l ++ m) := by
  subst hn hx
  have hord := h.ord
  have hown := h.ownAt k
  have hbw := h.below.trans (k.mono h.below.size)
  have hc : w4.heap[hb]? = some (.cells #[.int .i64 R, .int .i64 C, pv] 24 (0, 0)) := by
    have h1 := below_keep k h.blk
    rw [hg.block hb (heap_lt h1) (fun e => by have := ownsRow_block hown hb e.symm; omega)]; exact h1
  refine ⟨hc, by rw [row_setCell hc]; rfl, ?_, (hbw.grown hg hbw.size (fun g hg' => by have := ownsRow_block hown g hg'; omega)).setCell (by show w0.heap.size ≤ hb; omega) _, ?_⟩
  · have e : flatV edV (l ++ m) = flatV edV l ++ flatV edV m := by simp [flatV]
    rw [e, List.length_append]
    exact ownsRow_other ho fun g hg => by rw [heap_setCell_ne]; have := ownsRow_block ho g hg; omega
  · have h1 := hg.size
    have := k.size
    rw [setCell_size]
    omega
/-- The graph as one that lies there. -/
theorem HBx.graph (h : HBx w0 w hb B R C pv l) {gx : Gr} (hR : gx.rows = R) (hC : gx.cols = C) (hl : gx.es = l) : ∃ A cap, pv = .slice A gx.es.length cap ∧ gx.es.length ≤ cap ∧ cap ≤ 9223372036854775807 ∧ GBx w0 w gx A cap hb := by
  subst hR hC hl
  obtain ⟨A, cap, rfl, h2, h3, h4⟩ := own_rows2 (f := edV) (s := 3) (fun _ => rfl) h.own
  exact ⟨A, cap, rfl, h2, h3, h.blk, h4, h.below⟩
end

/-- A number as a weight. -/
def wtF (n : Int) : Int := if n.tmod 1099513724930 < 0 then - n.tmod 1099513724930 else n.tmod 1099513724930
theorem wtF_in (n : Int) : 0 ≤ wtF n ∧ wtF n ≤ 1099513724929 := by
  unfold wtF
  have h1 := Int.tmod_lt_of_pos n (show (0 : Int) < 1099513724930 by omega)
  have h2 := Int.lt_tmod_of_pos n (show (0 : Int) < 1099513724930 by omega)
  split <;> omega
theorem weight_any (n : Int) (w : World) (_ : I64 n) : Calls Try.prog 24 #[.int .i64 n] w fun e w' => e = .returned (.int .i64 (wtF n)) ∧ w = w' := by
  have h1 := Int.tmod_lt_of_pos n (show (0 : Int) < 1099513724930 by omega)
  have h2 := Int.lt_tmod_of_pos n (show (0 : Int) < 1099513724930 by omega)
  unfold wtF
  go_enter Try.func24, Try.ntmps24
  by_cases h : n.tmod 1099513724930 < 0
  · rw [if_pos h]
    go_wp2
    go_ret
    exact ⟨rfl, rfl⟩
  · rw [if_neg h]
    go_wp2
    go_ret
    exact ⟨rfl, rfl⟩
end Go.Proofs.Ytmddhjoomlhbcaa
