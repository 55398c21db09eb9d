/- Graphs that are made of a graph, in plain Lean. -/
import Derived.Test.YtmddhjoomlhbcaaAsLq
namespace Go.Proofs.Ytmddhjoomlhbcaa

theorem badFrom_no {rows cols : Int} : ∀ (l : List Ed) (p : Ed), (∀ x ∈ l, edBad rows cols x = false) → (p :: l).Pairwise ltE → badFrom rows cols p l = false
  | [], _, _, _ => rfl
  | x :: l, p, h, hp => by
    obtain ⟨h1, h2⟩ := List.pairwise_cons.1 hp
    have h3 := h1 x (by simp)
    simp only [badFrom, Bool.or_eq_false_iff]
    refine ⟨⟨h x (by simp), ?_⟩, badFrom_no l x (fun y hy => h y (by simp [hy])) h2⟩
    unfold ltE at h3
    simp [ordBad]
    omega
/-- What a graph's edge may be. -/
def EdIn (rows cols : Int) (x : Ed) : Prop := (0 ≤ x.r ∧ x.r < rows) ∧ (0 ≤ x.c ∧ x.c < cols) ∧ 1 ≤ x.w ∧ x.w ≤ 1099513724929
theorem chk_mk {rows cols : Int} {es : List Ed} (h1 : 0 ≤ rows ∧ rows ≤ 64) (h2 : 0 ≤ cols ∧ cols ≤ 64) (h3 : ∀ x ∈ es, EdIn rows cols x) (h4 : es.Pairwise ltE) : chk ⟨rows, cols, es⟩ = true := by
  simp only [chk, Bool.not_eq_true', Bool.or_eq_false_iff]
  refine ⟨by unfold sizeBad; simp; omega, badFrom_no _ _ (fun x hx => ?_) (List.pairwise_cons.2 ⟨fun x hx => .inl ?_, h4⟩)⟩
  · have := h3 x hx
    unfold EdIn at this
    simp [edBad]; omega
  · have := (h3 x hx).1; show (-1 : Int) < x.r; omega
theorem chk_in {g : Gr} (h : chk g = true) {x : Ed} (hx : x ∈ g.es) : EdIn g.rows g.cols x := by
  obtain ⟨r, c, h1, h2, h3, h4, _, _⟩ := edge_ok h hx
  exact ⟨⟨by omega, by omega⟩, ⟨by omega, by omega⟩, edge_w h hx⟩
theorem chk_len {g : Gr} (h : chk g = true) : g.es.length ≤ 4096 := es_len h
theorem wG_eq {g : Gr} (h : chk g = true) {r c : Nat} {v : Int} (h1 : v ≠ 0 → ∃ x ∈ g.es, x.r = r ∧ x.c = c ∧ x.w = v) (h2 : v = 0 → ∀ x ∈ g.es, ¬ (x.r = r ∧ x.c = c)) : wG g r c = v := by
  by_cases e : v = 0
  · subst e
    by_cases e2 : wG g r c = 0
    · exact e2
    · obtain ⟨x, q1, q2, q3, _⟩ := wG_some h e2
      exact absurd ⟨q2, q3⟩ (h2 rfl x q1)
  · obtain ⟨x, q1, q2, q3, q4⟩ := h1 e
    rw [wG_edge h q1 q2 q3, q4]
theorem gr_ok {g : Gr} (h : chk g = true) {cap : Nat} (h1 : g.es.length ≤ cap) (h2 : cap ≤ 9223372036854775807) : GrOk g cap := by
  have hs := chk_size h
  refine ⟨by unfold I64; omega, by unfold I64; omega, fun x hx => ?_, h1, h2⟩
  have := chk_in h hx
  unfold EdIn at this
  exact ⟨by unfold I64; omega, by unfold I64; omega, by unfold I64; omega⟩

/-! ### Without a row's edges -/
def without (g : Gr) (row : Nat) : Gr := ⟨g.rows, g.cols, g.es.filter fun e => e.r != (row : Int)⟩
theorem without_chk {g : Gr} (h : chk g = true) (row : Nat) : chk (without g row) = true := by
  have hs := chk_size h
  exact chk_mk (by omega) (by omega) (fun x hx => chk_in h (List.mem_filter.1 hx).1) ((edges_lt h).filter _)
theorem without_w {g : Gr} (h : chk g = true) (row r c : Nat) : wG (without g row) r c = if r = row then 0 else wG g r c := by
  refine wG_eq (without_chk h row) (fun hv => ?_) (fun hv x hx he => ?_)
  · by_cases e : r = row
    · rw [if_pos e] at hv; exact absurd rfl hv
    · rw [if_neg e] at hv ⊢
      obtain ⟨x, q1, q2, q3, q4⟩ := wG_some h hv
      exact ⟨x, List.mem_filter.2 ⟨q1, by simp; omega⟩, q2, q3, q4⟩
  · obtain ⟨k1, k2⟩ := List.mem_filter.1 hx
    by_cases e : r = row
    · simp at k2; omega
    · rw [if_neg e, wG_edge h k1 he.1 he.2] at hv
      have := edge_w h k1
      omega

/-! ### Weights k times as great -/
def scaled (g : Gr) (k : Int) : Gr := ⟨g.rows, g.cols, g.es.map fun e => ⟨e.r, e.c, k * e.w⟩⟩
theorem scaled_chk {g : Gr} (h : chk g = true) {k : Int} (hk : 1 ≤ k) (hb : ∀ x ∈ g.es, k * x.w ≤ 1099513724929) : chk (scaled g k) = true := by
  have hs := chk_size h
  refine chk_mk (by omega) (by omega) (fun y hy => ?_) ?_
  · obtain ⟨x, hx, rfl⟩ := List.mem_map.1 hy
    have := chk_in h hx
    unfold EdIn at this
    have h2 := hb x hx
    have h3 : 1 * x.w ≤ k * x.w := Int.mul_le_mul_of_nonneg_right hk (by omega)
    exact ⟨this.1, this.2.1, by show 1 ≤ k * x.w; omega, h2⟩
  · rw [List.pairwise_map]
    exact (edges_lt h).imp fun h => h
theorem scaled_w {g : Gr} (h : chk g = true) {k : Int} (hk : 1 ≤ k) (hb : ∀ x ∈ g.es, k * x.w ≤ 1099513724929) (r c : Nat) : wG (scaled g k) r c = k * wG g r c := by
  refine wG_eq (scaled_chk h hk hb) (fun hv => ?_) (fun hv y hy he => ?_)
  · have hv' : wG g r c ≠ 0 := fun e => hv (by rw [e]; simp)
    obtain ⟨x, q1, q2, q3, q4⟩ := wG_some h hv'
    exact ⟨_, List.mem_map.2 ⟨x, q1, rfl⟩, q2, q3, by show k * x.w = _; rw [q4]⟩
  · obtain ⟨x, hx, rfl⟩ := List.mem_map.1 hy
    rw [wG_edge h hx he.1 he.2] at hv
    have := edge_w h hx
    rcases Int.mul_eq_zero.1 hv with h | h <;> omega

/-! ### One row more -/
/-- The edges of a new row: of weight 0 there is none. -/
def rowEs (R : Int) (wt : Nat → Int) (n : Nat) : List Ed := (List.range n).filterMap fun (c : Nat) => if 0 < wt c then some ⟨R, (c : Int), wt c⟩ else none
theorem rowEs_succ (R : Int) (wt : Nat → Int) (n : Nat) : rowEs R wt (n + 1) = rowEs R wt n ++ if 0 < wt n then [⟨R, (n : Int), wt n⟩] else [] := by
  unfold rowEs
  rw [List.range_succ, List.filterMap_append]
  by_cases h : 0 < wt n <;> simp [h]
theorem mem_rowEs {R : Int} {wt : Nat → Int} {n : Nat} {x : Ed} : x ∈ rowEs R wt n ↔ ∃ c : Nat, c < n ∧ 0 < wt c ∧ x = ⟨R, (c : Int), wt c⟩ := by
  unfold rowEs
  rw [List.mem_filterMap]
  constructor
  · rintro ⟨c, h1, h2⟩
    by_cases h : 0 < wt c
    · rw [if_pos h] at h2; exact ⟨c, List.mem_range.1 h1, h, by cases h2; rfl⟩
    · rw [if_neg h] at h2; cases h2
  · rintro ⟨c, h1, h2, rfl⟩
    exact ⟨c, List.mem_range.2 h1, by rw [if_pos h2]⟩
theorem rowEs_up (R : Int) (wt : Nat → Int) : ∀ n, (rowEs R wt n).Pairwise ltE
  | 0 => by simp [rowEs]
  | n + 1 => by
    rw [rowEs_succ]
    refine List.pairwise_append.2 ⟨rowEs_up R wt n, by split <;> simp, fun x hx y hy => ?_⟩
    obtain ⟨c, h1, _, rfl⟩ := mem_rowEs.1 hx
    split at hy
    · simp at hy; subst hy; exact .inr ⟨rfl, by show (c : Int) < n; omega⟩
    · cases hy
def rowMore (g : Gr) (wt : Nat → Int) (n : Nat) : Gr := ⟨g.rows + 1, g.cols, g.es ++ rowEs g.rows wt n⟩
section
variable {g : Gr} {wt : Nat → Int} {n : Nat}
theorem rowMore_chk (h : chk g = true) (hr : g.rows < 64) (hw : ∀ c, 0 ≤ wt c ∧ wt c ≤ 1099513724929) (hn : (n : Int) ≤ g.cols) : chk (rowMore g wt n) = true := by
  have hs := chk_size h
  refine chk_mk (by omega) (by omega) (fun x hx => ?_) (List.pairwise_append.2 ⟨edges_lt h, rowEs_up _ _ _, fun x hx y hy => ?_⟩)
  · rcases List.mem_append.1 hx with hx | hx
    · have := chk_in h hx; unfold EdIn at this ⊢; omega
    · obtain ⟨c, h1, h2, rfl⟩ := mem_rowEs.1 hx
      have := hw c
      exact ⟨⟨by show 0 ≤ g.rows; omega, by show g.rows < g.rows + 1; omega⟩, ⟨by show (0 : Int) ≤ (c : Int); omega, by show (c : Int) < g.cols; omega⟩, by show 1 ≤ wt c; omega, this.2⟩
  · obtain ⟨c, h1, h2, rfl⟩ := mem_rowEs.1 hy
    exact .inl (chk_in h hx).1.2
theorem rowMore_w (h : chk g = true) (hr : g.rows < 64) (hw : ∀ c, 0 ≤ wt c ∧ wt c ≤ 1099513724929) (hn : (n : Int) ≤ g.cols) (r c : Nat) (hrr : r < g.rows.toNat) : wG (rowMore g wt n) r c = wG g r c := by
  have hs := chk_size h
  refine wG_eq (rowMore_chk h hr hw hn) (fun hv => ?_) (fun hv x hx he => ?_)
  · obtain ⟨x, q1, q2, q3, q4⟩ := wG_some h hv
    exact ⟨x, List.mem_append.2 (.inl q1), q2, q3, q4⟩
  · rcases List.mem_append.1 hx with hx | hx
    · rw [wG_edge h hx he.1 he.2] at hv
      have := edge_w h hx; omega
    · obtain ⟨c, h1, h2, rfl⟩ := mem_rowEs.1 hx
      have : g.rows = (r : Int) := he.1
      omega
end

/-! ### One column more -/
/-- The first k edges and the new column's edges of the rows below r. -/
structure Mrg (es : List Ed) (C : Int) (wt : Nat → Int) (L : List Ed) (k r r1 : Nat) : Prop where
  up : L.Pairwise ltE
  mem : ∀ x, x ∈ L ↔ x ∈ es.take k ∨ ∃ q : Nat, q < r ∧ 0 < wt q ∧ x = ⟨(q : Int), C, wt q⟩
  lo : ∀ x ∈ es.take k, x.r < (r1 : Int)
  hi : ∀ x ∈ es.drop k, (r : Int) ≤ x.r
theorem Mrg.start (es : List Ed) (C : Int) (wt : Nat → Int) (h : ∀ x ∈ es, 0 ≤ x.r) : Mrg es C wt [] 0 0 0 :=
  ⟨by simp, fun x => by simp, fun x hx => by simp at hx, fun x hx => by have := h x (by simpa using hx); simpa using this⟩
theorem Mrg.push {es : List Ed} {C : Int} {wt : Nat → Int} {L : List Ed} {k r r1 : Nat} {x : Ed} (h : Mrg es C wt L k r r1) (hu : es.Pairwise ltE) (hx : es[k]? = some x) (hr : x.r = r) (h1 : r1 ≤ r + 1) : Mrg es C wt (L ++ [x]) (k + 1) r (r + 1) := by
  obtain ⟨hk, hx'⟩ := List.getElem?_eq_some_iff.1 hx
  have ht : es.take (k + 1) = es.take k ++ [x] := by rw [List.take_succ_eq_append_getElem hk, hx']
  have hd : es.drop k = x :: es.drop (k + 1) := by rw [List.drop_eq_getElem_cons hk, hx']
  have hlt : ∀ y ∈ es.take k, ltE y x := fun y hy => by
    have h2 : (es.take k ++ es.drop k).Pairwise ltE := by rw [List.take_append_drop]; exact hu
    exact (List.pairwise_append.1 h2).2.2 y hy x (by rw [hd]; simp)
  refine ⟨List.pairwise_append.2 ⟨h.up, by simp, fun y hy z hz => ?_⟩, fun y => ?_, fun y hy => ?_, fun y hy => h.hi y (by rw [hd]; simp [hy])⟩
  · obtain rfl : z = x := by simpa using hz
    rcases (h.mem y).1 hy with h2 | ⟨q, h2, _, rfl⟩
    · exact hlt y h2
    · exact .inl (by show (q : Int) < z.r; omega)
  · rw [List.mem_append, h.mem, ht, List.mem_append]
    constructor
    · rintro ((h2 | h2) | h2)
      · exact .inl (.inl h2)
      · exact .inr h2
      · exact .inl (.inr h2)
    · rintro ((h2 | h2) | h2)
      · exact .inl (.inl h2)
      · exact .inr h2
      · exact .inl (.inr h2)
  · rw [ht] at hy
    rcases List.mem_append.1 hy with h2 | h2
    · have := h.lo y h2; omega
    · obtain rfl : y = x := by simpa using h2
      omega
theorem Mrg.next {es : List Ed} {C : Int} {wt : Nat → Int} {L : List Ed} {k r r1 : Nat} (h : Mrg es C wt L k r r1) (hu : es.Pairwise ltE) (hc : ∀ x ∈ es, x.c < C) (hno : ∀ x, es[k]? = some x → x.r ≠ r) (h1 : r1 ≤ r + 1) : Mrg es C wt (L ++ if 0 < wt r then [⟨(r : Int), C, wt r⟩] else []) k (r + 1) (r + 1) := by
  have hlo : ∀ y ∈ es.take k, y.r < ((r + 1 : Nat) : Int) := fun y hy => by have := h.lo y hy; omega
  refine ⟨List.pairwise_append.2 ⟨h.up, by split <;> simp, fun y hy z hz => ?_⟩, fun y => ?_, hlo, fun y hy => ?_⟩
  · split at hz
    · obtain rfl : z = ⟨(r : Int), C, wt r⟩ := by simpa using hz
      rcases (h.mem y).1 hy with h2 | ⟨q, h2, _, rfl⟩
      · have h3 := hlo y h2
        have h4 := hc y (List.mem_of_mem_take h2)
        by_cases e : y.r = r
        · exact .inr ⟨e, h4⟩
        · exact .inl (by show y.r < (r : Int); omega)
      · exact .inl (by show (q : Int) < r; omega)
    · cases hz
  · rw [List.mem_append, h.mem]
    constructor
    · rintro ((h2 | ⟨q, h2, h3, h4⟩) | h2)
      · exact .inl h2
      · exact .inr ⟨q, by omega, h3, h4⟩
      · split at h2
        · rename_i h3
          exact .inr ⟨r, by omega, h3, by simpa using h2⟩
        · cases h2
    · rintro (h2 | ⟨q, h2, h3, rfl⟩)
      · exact .inl (.inl h2)
      · by_cases e : q = r
        · subst e; exact .inr (by rw [if_pos h3]; simp)
        · exact .inl (.inr ⟨q, by omega, h3, rfl⟩)
  · have h2 := h.hi y hy
    by_cases hk : k < es.length
    · have hd : es.drop k = es[k] :: es.drop (k + 1) := List.drop_eq_getElem_cons hk
      have h3 := hno es[k] (by simp [hk])
      have h4 := h.hi es[k] (hd ▸ List.mem_cons_self ..)
      rw [hd] at hy
      rcases List.mem_cons.1 hy with rfl | hy
      · omega
      · have h5 : (es.drop k).Pairwise ltE := hu.sublist (List.drop_sublist _ _)
        rw [hd] at h5
        have := (List.pairwise_cons.1 h5).1 y hy
        unfold ltE at this
        omega
    · rw [List.drop_of_length_le (by omega)] at hy; cases hy
theorem Mrg.full {es : List Ed} {C : Int} {wt : Nat → Int} {L : List Ed} {k R : Nat} (h : Mrg es C wt L k R R) (hR : ∀ x ∈ es, x.r < (R : Int)) : ∀ x, x ∈ L ↔ x ∈ es ∨ ∃ q : Nat, q < R ∧ 0 < wt q ∧ x = ⟨(q : Int), C, wt q⟩ := by
  have hd : es.drop k = [] := by
    cases hd : es.drop k with
    | nil => rfl
    | cons a l =>
      have ha : a ∈ es.drop k := by rw [hd]; simp
      have h1 := h.hi a ha
      have h2 := hR a (List.mem_of_mem_drop ha)
      omega
  have ht : es.take k = es := by
    have := List.take_append_drop k es
    rw [hd, List.append_nil] at this; exact this
  intro x
  rw [h.mem, ht]
section
variable {g : Gr} {wt : Nat → Int} {L : List Ed} {k R : Nat}
theorem colMore_chk (h : chk g = true) (hr : g.cols < 64) (hR : g.rows = R) (hw : ∀ c, 0 ≤ wt c ∧ wt c ≤ 1099513724929) (hm : Mrg g.es g.cols wt L k R R) : chk ⟨g.rows, g.cols + 1, L⟩ = true := by
  have hs := chk_size h
  refine chk_mk (by omega) (by omega) (fun x hx => ?_) hm.up
  rcases (hm.full (fun x hx => by have := (chk_in h hx).1; omega) x).1 hx with hx | ⟨q, h1, h2, rfl⟩
  · have := chk_in h hx; unfold EdIn at this ⊢; omega
  · have := hw q
    exact ⟨⟨by show (0 : Int) ≤ (q : Int); omega, by show (q : Int) < g.rows; omega⟩, ⟨by show 0 ≤ g.cols; omega, by show g.cols < g.cols + 1; omega⟩, by show 1 ≤ wt q; omega, this.2⟩
theorem colMore_w (h : chk g = true) (hr : g.cols < 64) (hR : g.rows = R) (hw : ∀ c, 0 ≤ wt c ∧ wt c ≤ 1099513724929) (hm : Mrg g.es g.cols wt L k R R) (r c : Nat) (hc : c < g.cols.toNat) : wG ⟨g.rows, g.cols + 1, L⟩ r c = wG g r c := by
  have hs := chk_size h
  have hf := hm.full (fun x hx => by have := (chk_in h hx).1; omega)
  refine wG_eq (colMore_chk h hr hR hw hm) (fun hv => ?_) (fun hv x hx he => ?_)
  · obtain ⟨x, q1, q2, q3, q4⟩ := wG_some h hv
    exact ⟨x, (hf x).2 (.inl q1), q2, q3, q4⟩
  · rcases (hf x).1 hx with hx | ⟨q, h1, h2, rfl⟩
    · rw [wG_edge h hx he.1 he.2] at hv
      have := edge_w h hx; omega
    · have : g.cols = (c : Int) := he.2
      omega
end

/-! ### Two graphs side by side -/
def beside (g h : Gr) : Gr := ⟨g.rows + h.rows, g.cols + h.cols, g.es ++ h.es.map fun e => ⟨g.rows + e.r, g.cols + e.c, e.w⟩⟩
section
variable {g h : Gr}
theorem beside_chk (hg : chk g = true) (hh : chk h = true) (hr : g.rows + h.rows ≤ 64) (hc : g.cols + h.cols ≤ 64) : chk (beside g h) = true := by
  have hs := chk_size hg
  have ht := chk_size hh
  refine chk_mk (by omega) (by omega) (fun x hx => ?_) (List.pairwise_append.2 ⟨edges_lt hg, ?_, fun x hx y hy => ?_⟩)
  · rcases List.mem_append.1 hx with hx | hx
    · have := chk_in hg hx; unfold EdIn at this ⊢; omega
    · obtain ⟨e, he, rfl⟩ := List.mem_map.1 hx
      have := chk_in hh he; unfold EdIn at this
      exact ⟨⟨by show 0 ≤ g.rows + e.r; omega, by show g.rows + e.r < g.rows + h.rows; omega⟩, ⟨by show 0 ≤ g.cols + e.c; omega, by show g.cols + e.c < g.cols + h.cols; omega⟩, this.2.2⟩
  · rw [List.pairwise_map]
    refine (edges_lt hh).imp fun {x y} hl => ?_
    unfold ltE at hl ⊢
    show g.rows + x.r < g.rows + y.r ∨ g.rows + x.r = g.rows + y.r ∧ g.cols + x.c < g.cols + y.c
    omega
  · obtain ⟨e, he, rfl⟩ := List.mem_map.1 hy
    have h1 := chk_in hg hx
    have h2 := chk_in hh he
    exact .inl (by have := h1.1; have := h2.1; show x.r < g.rows + e.r; omega)
theorem beside_w (hg : chk g = true) (hh : chk h = true) (hr : g.rows + h.rows ≤ 64) (hc : g.cols + h.cols ≤ 64) (r c : Nat) :
    wG (beside g h) r c = if r < g.rows.toNat ∧ c < g.cols.toNat then wG g r c else if g.rows.toNat ≤ r ∧ g.cols.toNat ≤ c then wG h (r - g.rows.toNat) (c - g.cols.toNat) else 0 := by
  have hs := chk_size hg
  have ht := chk_size hh
  refine wG_eq (beside_chk hg hh hr hc) (fun hv => ?_) (fun hv x hx he => ?_)
  · by_cases e1 : r < g.rows.toNat ∧ c < g.cols.toNat
    · rw [if_pos e1] at hv ⊢
      obtain ⟨x, q1, q2, q3, q4⟩ := wG_some hg hv
      exact ⟨x, List.mem_append.2 (.inl q1), q2, q3, q4⟩
    · rw [if_neg e1] at hv ⊢
      by_cases e2 : g.rows.toNat ≤ r ∧ g.cols.toNat ≤ c
      · rw [if_pos e2] at hv ⊢
        obtain ⟨x, q1, q2, q3, q4⟩ := wG_some hh hv
        exact ⟨_, List.mem_append.2 (.inr (List.mem_map.2 ⟨x, q1, rfl⟩)), by show g.rows + x.r = r; omega, by show g.cols + x.c = c; omega, q4⟩
      · rw [if_neg e2] at hv; exact absurd rfl hv
  · rcases List.mem_append.1 hx with hx | hx
    · have h1 := chk_in hg hx
      unfold EdIn at h1
      rw [if_pos ⟨by omega, by omega⟩, wG_edge hg hx he.1 he.2] at hv
      omega
    · obtain ⟨e, hee, rfl⟩ := List.mem_map.1 hx
      have h1 := chk_in hh hee
      unfold EdIn at h1
      have e1 : g.rows + e.r = r := he.1
      have e2 : g.cols + e.c = c := he.2
      rw [if_neg (by omega), if_pos ⟨by omega, by omega⟩, wG_edge hh hee (by omega) (by omega)] at hv
      omega
end
end Go.Proofs.Ytmddhjoomlhbcaa
