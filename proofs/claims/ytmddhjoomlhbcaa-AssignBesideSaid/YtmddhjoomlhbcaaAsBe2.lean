/- Two graphs side by side: the answers, and the certificate that a law builds. -/
import Derived.Test.YtmddhjoomlhbcaaAsHb
import Derived.Test.YtmddhjoomlhbcaaAsTb
import Derived.Test.YtmddhjoomlhbcaaAsAl
namespace Go.Proofs.Ytmddhjoomlhbcaa
open Go.RowKit

theorem take_join {l1 l2 l3 : List Int} {n m : Nat} (h1 : n ≤ l1.length) (h2 : m ≤ l2.length) (h3 : n + m ≤ l3.length) (h : ∀ i, i < n + m → getI l3 i = joinN n (getI l1) (getI l2) i) : l3.take (n + m) = l1.take n ++ l2.take m := by
  apply List.ext_getElem?
  intro i
  by_cases hi : i < n + m
  · rw [take_get hi h3, h i hi]
    unfold joinN
    by_cases hn : i < n
    · rw [if_pos hn, List.getElem?_append_left (by rw [List.length_take]; omega), take_get hn h1]
    · rw [if_neg hn, List.getElem?_append_right (by rw [List.length_take]; omega), List.length_take, show i - min n l1.length = i - n by omega, take_get (by omega) h2]
  · rw [List.getElem?_eq_none (by rw [List.length_take]; omega), List.getElem?_eq_none (by rw [List.length_append, List.length_take, List.length_take]; omega)]
section
variable {g h : Gr} {tt1 y1 z1 tt2 y2 z2 tt3 y3 z3 : List Int}
theorem beside_same (hc : chk g = true) (hh : chk h = true) (hr : g.rows + h.rows ≤ 64) (hcs : g.cols + h.cols ≤ 64) (h1 : BestAns g tt1 y1 z1) (h2 : BestAns h tt2 y2 z2) (h3 : BestAns (beside g h) tt3 y3 z3) :
    prsTo tt3 (g.rows.toNat + h.rows.toNat) = prsTo tt1 g.rows.toNat ++ (prsTo tt2 h.rows.toNat).map (fun p => (g.rows + p.1, g.cols + p.2)) ∧
    y3.take (g.rows.toNat + h.rows.toNat) = y1.take g.rows.toNat ++ y2.take h.rows.toNat ∧ z3.take (g.cols.toNat + h.cols.toNat) = z1.take g.cols.toNat ++ z2.take h.cols.toNat := by
  have hs := chk_size hc
  have ht := chk_size hh
  have hw := beside_w hc hh hr hcs
  have er : (beside g h).rows.toNat = g.rows.toNat + h.rows.toNat := by show (g.rows + h.rows).toNat = _; omega
  have ec : (beside g h).cols.toNat = g.cols.toNat + h.cols.toNat := by show (g.cols + h.cols).toNat = _; omega
  have h0 := beside_best (Wx := wG (beside g h)) h1.best h2.best (fun r c hr hc => by rw [hw, if_pos ⟨hr, hc⟩]) (fun r c => by rw [hw, if_neg (by omega), if_pos (by omega), show g.rows.toNat + r - g.rows.toNat = r by omega, show g.cols.toNat + c - g.cols.toNat = c by omega]) (fun r c hr hc => by rw [hw, if_neg (by omega), if_neg (by omega)]) (fun r c hr hc => by rw [hw, if_neg (by omega), if_neg (by omega)])
  have hb := h3.best
  rw [er, ec] at hb
  obtain ⟨u1, u2, u3⟩ := hb.unique h0
  refine ⟨?_, take_join (by rw [h1.ly]; omega) (by rw [h2.ly]; omega) (by rw [h3.ly]; omega) u2, take_join (by rw [h1.lz]; omega) (by rw [h2.lz]; omega) (by rw [h3.lz]; omega) u3⟩
  have e1 : prsTo tt3 (g.rows.toNat + h.rows.toNat) = prsF (fX g.rows.toNat h.rows.toNat g.cols.toNat (upTo g.rows.toNat tt1) (upTo h.rows.toNat tt2)) (g.rows.toNat + h.rows.toNat) := by
    rw [prsF_list]
    refine prsF_congr fun r hr => ?_
    have := u1 r hr
    rwa [upTo, if_pos hr] at this
  rw [e1, prsF_add]
  congr 1
  · rw [prsF_list]
    refine prsF_congr fun r hr => ?_
    unfold fX upTo
    rw [if_pos hr, if_pos hr]
    intro _; rfl
  · unfold prsTo
    rw [List.map_filterMap]
    refine filterMap_same fun r hr => ?_
    have hr := List.mem_range.1 hr
    have e2 : fX g.rows.toNat h.rows.toNat g.cols.toNat (upTo g.rows.toNat tt1) (upTo h.rows.toNat tt2) (g.rows.toNat + r) = if getI tt2 r < 0 then -1 else (g.cols.toNat : Int) + getI tt2 r := by
      unfold fX upTo
      rw [if_neg (by omega), if_pos (by omega), show g.rows.toNat + r - g.rows.toNat = r by omega, if_pos hr]
    rw [e2]
    by_cases e : getI tt2 r < 0
    · rw [if_pos e, if_pos e, if_pos (by omega)]; rfl
    · rw [if_neg e, if_neg e, if_neg (by omega)]
      simp only [Option.map_some]
      congr 2
      · omega
      · omega
end

/-! ### The certificate -/
structure PBx (w0 w : World) (wb B : Nat) (pv : Value) (l : List (Int × Int)) : Prop where
  blk : w.heap[wb]? = some (.cells #[pv, .slice none 0 0, .slice none 0 0] 39 (0, 0))
  own : w.ownsRow B 45 2 pv l.length (flatV prV l)
  below : Below w0.heap.size w0 w
  ord : w0.heap.size ≤ wb ∧ wb < B ∧ B ≤ w.heap.size
section
variable {w0 w w' : World} {wb B : Nat} {pv : Value} {l : List (Int × Int)}
theorem PBx.start (w : World) : PBx w (w.alloc (.cells #[.slice none 0 0, .slice none 0 0, .slice none 0 0] 39)) w.heap.size (w.heap.size + 1) (.slice none 0 0) [] :=
  ⟨heap_alloc_new _ _, ownsRow_nil _ _ _ _, below_new _ _, by rw [alloc_size]; omega⟩
theorem PBx.kept (h : PBx w0 w wb B pv l) (k : Below w.heap.size w w') : PBx w0 w' wb B pv l :=
  ⟨below_keep k h.blk, ownsRow_other h.own fun g hg => k.block g (ownsRow_lt h.own hg), h.below.trans (k.mono h.below.size), by have := h.ord; have := k.size; omega⟩
theorem PBx.list (h : PBx w0 w wb B pv l) : w.cell? ⟨wb, 0, none⟩ = some pv := row_cell h.blk 0 _ rfl
theorem PBx.past (h : PBx w0 w wb B pv l) {wa w4 : World} (k : Below w.heap.size w wa) (hg : wa.grownBy w4 pv.ownBlock) : Below w0.heap.size w0 w4 := by
  have hord := h.ord
  have hown := (h.kept k).own
  have hbw := h.below.trans (k.mono h.below.size)
  exact hbw.grown hg hbw.size (fun g hg' => by have := ownsRow_block hown g hg'; omega)
theorem PBx.grow (h : PBx w0 w wb B pv l) {m : List (Int × Int)} {n : Nat} {xs : List Value} {wa w4 : World} {v2 : Value} (k : Below w.heap.size w wa) (hn : n = l.length + m.length) (hx : xs = flatV prV l ++ flatV prV m) (ho : w4.ownsRow B 45 2 v2 n xs) (hg : wa.grownBy w4 pv.ownBlock) :
    w4.heap[wb]? = some (.cells #[pv, .slice none 0 0, .slice none 0 0] 39 (0, 0)) ∧ PBx w0 (w4.setCell ⟨wb, 0, none⟩ v2) wb B v2 (l ++ m) := by
  subst hn hx
  have hord := h.ord
  have hown := (h.kept k).own
  have hbw := h.below.trans (k.mono h.below.size)
  have hc : w4.heap[wb]? = some (.cells #[pv, .slice none 0 0, .slice none 0 0] 39 (0, 0)) := by
    have h1 := below_keep k h.blk
    rw [hg.block wb (heap_lt h1) (fun e => by have := ownsRow_block hown wb e.symm; omega)]; exact h1
  refine ⟨hc, by rw [row_setCell hc]; rfl, ?_, (hbw.grown hg hbw.size (fun g hg' => by have := ownsRow_block hown g hg'; omega)).setCell (by show w0.heap.size ≤ wb; omega) _, ?_⟩
  · have e : flatV prV (l ++ m) = flatV prV l ++ flatV prV m := by simp [flatV]
    rw [e, List.length_append]
    exact ownsRow_other ho fun g hg => by rw [heap_setCell_ne]; have := ownsRow_block ho g hg; omega
  · have h1 := hg.size
    have := k.size
    rw [setCell_size]
    omega
end
theorem cell_to {w w' : World} (h : Below w.heap.size w w') {b o : Nat} {v : Value} (hb : b < w.heap.size) (hc : w.cell? ⟨b, o, none⟩ = some v) : w'.cell? ⟨b, o, none⟩ = some v := by
  rw [cell_kept h hb]; exact hc
/-- A list that does not lie in block wb. -/
def RowsX {α : Type} (wb s : Nat) (f : α → Array Value) (w : World) (a : Option Addr) (l : List α) : Prop :=
  l = [] ∨ ∃ g o, a = some ⟨g, o, none⟩ ∧ g < w.heap.size ∧ g ≠ wb ∧ ∀ (i : Nat) x, l[i]? = some x → CellsAt w g (o + s * i) (f x)
section
variable {α : Type} {wb s : Nat} {f : α → Array Value} {w w' : World} {a : Option Addr} {l : List α}
theorem RowsX.rows (h : RowsX wb s f w a l) : RowsAt s f w a l := by
  rcases h with h | ⟨g, o, h1, h2, _, h3⟩
  · exact .inl h
  · exact .inr ⟨g, o, h1, h2, h3⟩
theorem RowsX.kept (h : RowsX wb s f w a l) (k : Below w.heap.size w w') : RowsX wb s f w' a l := by
  rcases h with h | ⟨g, o, h1, h2, h4, h3⟩
  · exact .inl h
  · exact .inr ⟨g, o, h1, Nat.lt_of_lt_of_le h2 k.size, h4, fun i x hx => (h3 i x hx).kept k h2⟩
theorem RowsX.set (h : RowsX wb s f w a l) (j : Nat) (v : Value) : RowsX wb s f (w.setCell ⟨wb, j, none⟩ v) a l := by
  rcases h with h | ⟨g, o, h1, h2, h4, h3⟩
  · exact .inl h
  · refine .inr ⟨g, o, h1, by rw [setCell_size]; exact h2, h4, fun i x hx r u hu => ?_⟩
    have := h3 i x hx r u hu
    unfold World.cell? at this ⊢
    rw [heap_setCell_ne h4]; exact this
theorem own_rowsX (hs : ∀ x, (f x).size = s) {base : Nat} {e : TypeId} {v : Value} (h : w.ownsRow base e s v l.length (flatV f l)) (hb : wb < base) : ∃ A cap, v = .slice A l.length cap ∧ l.length ≤ cap ∧ RowsX wb s f w A l := by
  obtain ⟨A, cap, rfl, h1, _, h2⟩ := own_rows2 hs h
  refine ⟨A, cap, rfl, h1, ?_⟩
  rcases h2 with h2 | ⟨g, o, rfl, q1, q2⟩
  · exact .inl h2
  · exact .inr ⟨g, o, rfl, q1, by have := ownsRow_block h g rfl; omega, q2⟩
end
/-- The certificate that is built: its lists lie elsewhere. -/
structure WCx (w0 w : World) (wb : Nat) (Ap : Option Addr) (cp : Nat) (Ay : Option Addr) (cy : Nat) (Az : Option Addr) (cz : Nat) (ps : List (Int × Int)) (ys zs : List Int) : Prop where
  blk : w.heap[wb]? = some (.cells #[.slice Ap ps.length cp, .slice Ay ys.length cy, .slice Az zs.length cz] 39 (0, 0))
  p : RowsX wb 2 prV w Ap ps
  y : RowsX wb 1 numV w Ay ys
  z : RowsX wb 1 numV w Az zs
  caps : ps.length ≤ cp ∧ ys.length ≤ cy ∧ zs.length ≤ cz
  below : Below w0.heap.size w0 w
  ord : w0.heap.size ≤ wb ∧ wb < w.heap.size
section
variable {w0 w w' : World} {wb : Nat} {Ap : Option Addr} {cp : Nat} {Ay : Option Addr} {cy : Nat} {Az : Option Addr} {cz : Nat} {ps : List (Int × Int)} {ys zs : List Int}
theorem WCx.kept (h : WCx w0 w wb Ap cp Ay cy Az cz ps ys zs) (k : Below w.heap.size w w') : WCx w0 w' wb Ap cp Ay cy Az cz ps ys zs :=
  ⟨below_keep k h.blk, h.p.kept k, h.y.kept k, h.z.kept k, h.caps, h.below.trans (k.mono h.below.size), by have := h.ord; have := k.size; omega⟩
theorem WCx.growY (h : WCx w0 w wb Ap cp none 0 none 0 ps [] []) {w6 : World} {v6 : Value} {l : List Int} (k : Below w.heap.size w w6) (ho : w6.ownsRow w.heap.size 3 1 v6 l.length (flatV numV l)) :
    ∃ A c, v6 = .slice A l.length c ∧ w6.cell? ⟨wb, 1, none⟩ = some (.slice none 0 0) ∧ w6.frozen? ⟨wb, 1, none⟩ = false ∧ WCx w0 (w6.setCell ⟨wb, 1, none⟩ v6) wb Ap cp A c none 0 ps l [] := by
  have hk := h.kept k
  obtain ⟨A, c, rfl, h1, h2⟩ := own_rowsX (f := numV) (s := 1) (fun _ => rfl) ho h.ord.2
  refine ⟨A, c, rfl, row_cell hk.blk 1 _ rfl, free_row hk.blk 1, by rw [row_setCell hk.blk]; rfl, hk.p.set _ _, h2.set _ _, .inl rfl, ⟨h.caps.1, h1, Nat.le_refl _⟩, hk.below.setCell (by show w0.heap.size ≤ wb; exact h.ord.1) _, ?_⟩
  rw [setCell_size]; exact hk.ord
theorem WCx.growZ (h : WCx w0 w wb Ap cp Ay cy none 0 ps ys []) {w6 : World} {v6 : Value} {l : List Int} (k : Below w.heap.size w w6) (ho : w6.ownsRow w.heap.size 3 1 v6 l.length (flatV numV l)) :
    ∃ A c, v6 = .slice A l.length c ∧ w6.cell? ⟨wb, 2, none⟩ = some (.slice none 0 0) ∧ w6.frozen? ⟨wb, 2, none⟩ = false ∧ WCx w0 (w6.setCell ⟨wb, 2, none⟩ v6) wb Ap cp Ay cy A c ps ys l := by
  have hk := h.kept k
  obtain ⟨A, c, rfl, h1, h2⟩ := own_rowsX (f := numV) (s := 1) (fun _ => rfl) ho h.ord.2
  refine ⟨A, c, rfl, row_cell hk.blk 2 _ rfl, free_row hk.blk 2, by rw [row_setCell hk.blk]; rfl, hk.p.set _ _, hk.y.set _ _, h2.set _ _, ⟨h.caps.1, h.caps.2.1, h1⟩, hk.below.setCell (by show w0.heap.size ≤ wb; exact h.ord.1) _, ?_⟩
  rw [setCell_size]; exact hk.ord
theorem WCx.cert (h : WCx w0 w wb Ap cp Ay cy Az cz ps ys zs) : CertAt w (.agg #[.slice Ap ps.length cp, .slice Ay ys.length cy, .slice Az zs.length cz]) ps ys zs :=
  ⟨_, _, _, _, _, _, rfl, h.caps.1, h.caps.2.1, h.caps.2.2, h.p.rows, h.y.rows, h.z.rows⟩
/-- Two appends one behind the other, the first one at a nil list. -/
theorem grown_two {w5 w6 : World} {v5 : Value} {e : TypeId} {n : Nat} {xs : List Value} (g5 : w.grownBy w5 none) (o5 : w5.ownsRow w.heap.size e 1 v5 n xs) (g6 : w5.grownBy w6 v5.ownBlock) : Below w.heap.size w w5 ∧ Below w.heap.size w w6 := by
  have h5 := (Below.refl w.heap.size w).grown g5 (Nat.le_refl _) (fun g hg => by cases hg)
  exact ⟨h5, h5.grown g6 h5.size (fun g hg => ownsRow_block o5 g hg)⟩
end
theorem grown_refl (w : World) (r : Option Nat) : w.grownBy w r := ⟨rfl, rfl, rfl, Nat.le_refl _, fun _ _ _ => rfl⟩
theorem flatV_app {α : Type} (f : α → Array Value) (l m : List α) : flatV f (l ++ m) = flatV f l ++ flatV f m := by simp [flatV]
theorem info_pair2 : (Try.prog.info? 45).map (fun i => (i.zero, i.size, i.bytes)) = some (some (.agg #[.int .i64 0, .int .i64 0]), 2, 16) := by kernel_rfl
theorem info_int1 : (Try.prog.info? 3).map (fun i => (i.zero, i.size, i.bytes)) = some (some (.int .i64 0), 1, 8) := by kernel_rfl
theorem pr_one (p : Int × Int) : ∀ v ∈ (prV p).toList, v.oneCell' = true := by simp [prV, Value.oneCell']
theorem num_one (p : Int) : ∀ v ∈ (numV p).toList, v.oneCell' = true := by simp [numV, Value.oneCell']
end Go.Proofs.Ytmddhjoomlhbcaa
