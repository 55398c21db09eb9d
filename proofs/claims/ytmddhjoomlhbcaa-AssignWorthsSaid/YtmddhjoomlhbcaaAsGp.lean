/- A graph's weights, in plain Lean. -/
import Derived.Test.YtmddhjoomlhbcaaAsMem
namespace Go.Proofs.Ytmddhjoomlhbcaa

def idxE (e : Ed) : Nat := 64 * e.r.toNat + e.c.toNat
def tblFrom (l : List Ed) (T : List Int) : List Int := l.foldl (fun T e => T.set (idxE e) e.w) T
def tz : List Int := List.replicate 4096 0
theorem tz_len : tz.length = 4096 := List.length_replicate ..
/-- The table of a list of edges. -/
def tblOf (l : List Ed) : List Int := tblFrom l tz
theorem tblFrom_len : ∀ (l : List Ed) (T : List Int), (tblFrom l T).length = T.length
  | [], _ => rfl
  | e :: l, T => by
    show (tblFrom l (T.set (idxE e) e.w)).length = _
    rw [tblFrom_len l]; simp
theorem tblOf_len (l : List Ed) : (tblOf l).length = 4096 := by unfold tblOf; rw [tblFrom_len, tz_len]
theorem tblOf_snoc (l : List Ed) (e : Ed) : tblOf (l ++ [e]) = (tblOf l).set (idxE e) e.w := by unfold tblOf tblFrom; rw [List.foldl_append]; rfl
theorem tblFrom_at : ∀ (l : List Ed) (T : List Int) (k : Nat), k < T.length → (∃ e ∈ l, idxE e = k ∧ getI (tblFrom l T) k = e.w) ∨ ((∀ e ∈ l, idxE e ≠ k) ∧ getI (tblFrom l T) k = getI T k)
  | [], T, k, _ => .inr ⟨fun e h => (by cases h), rfl⟩
  | e :: l, T, k, hk => by
    have ih := tblFrom_at l (T.set (idxE e) e.w) k (by simpa using hk)
    rcases ih with ⟨e', h1, h2, h3⟩ | ⟨h1, h2⟩
    · exact .inl ⟨e', by simp [h1], h2, h3⟩
    · by_cases hek : idxE e = k
      · refine .inl ⟨e, by simp, hek, ?_⟩
        show getI (tblFrom l (T.set (idxE e) e.w)) k = _
        rw [h2, getI_set, if_pos ⟨hek, hk⟩]
      · refine .inr ⟨fun x hx => ?_, ?_⟩
        · rcases List.mem_cons.1 hx with rfl | hx
          · exact hek
          · exact h1 x hx
        · show getI (tblFrom l (T.set (idxE e) e.w)) k = _
          rw [h2, getI_set, if_neg (fun h => hek h.1)]
/-- Edges in order. -/
def ltE (x y : Ed) : Prop := x.r < y.r ∨ (x.r = y.r ∧ x.c < y.c)
theorem badFrom_lt {rows cols : Int} : ∀ (l : List Ed) (p : Ed), badFrom rows cols p l = false → (p :: l).Pairwise ltE
  | [], p, _ => by simp
  | x :: l, p, h => by
    simp only [badFrom, Bool.or_eq_false_iff] at h
    have ih := badFrom_lt l x h.2
    have h1 : ltE p x := by
      have := h.1.2
      simp [ordBad] at this
      unfold ltE
      omega
    refine List.pairwise_cons.2 ⟨fun y hy => ?_, ih⟩
    rcases List.mem_cons.1 hy with rfl | hy
    · exact h1
    · have h2 := (List.pairwise_cons.1 ih).1 y hy
      unfold ltE at *
      omega
theorem edges_lt {g : Gr} (h : chk g = true) : g.es.Pairwise ltE := by
  simp only [chk, Bool.not_eq_true', Bool.or_eq_false_iff] at h
  exact (List.pairwise_cons.1 (badFrom_lt _ _ h.2)).2
theorem pairwise_eq {l : List Ed} (h : l.Pairwise ltE) {x y : Ed} (hx : x ∈ l) (hy : y ∈ l) (h1 : x.r = y.r) (h2 : x.c = y.c) : x = y := by
  induction h with
  | nil => cases hx
  | @cons a l ha _ ih =>
    rcases List.mem_cons.1 hx with e | hx'
    · rcases List.mem_cons.1 hy with e2 | hy'
      · rw [e, e2]
      · have := ha y hy'; rw [← e] at this; unfold ltE at this; omega
    · rcases List.mem_cons.1 hy with e2 | hy'
      · have := ha x hx'; rw [← e2] at this; unfold ltE at this; omega
      · exact ih hx' hy'
theorem edge_w {g : Gr} (h : chk g = true) {x : Ed} (hx : x ∈ g.es) : 1 ≤ x.w ∧ x.w ≤ 1099513724929 := by
  simp only [chk, Bool.not_eq_true', Bool.or_eq_false_iff] at h
  have := badFrom_ok _ _ h.2 x hx
  simp [edBad] at this
  omega
/-- The weights of a graph. -/
abbrev wG (g : Gr) : Nat → Nat → Int := wOf (tblOf g.es)
theorem wG_edge {g : Gr} (h : chk g = true) {x : Ed} (hx : x ∈ g.es) {r c : Nat} (hr : x.r = r) (hc : x.c = c) : wG g r c = x.w := by
  obtain ⟨r', c', h1, h2, h3, h4, h5, h6⟩ := edge_ok h hx
  have e1 : r' = r := by omega
  have e2 : c' = c := by omega
  subst e1; subst e2
  have hi : idxE x = 64 * r' + c' := by unfold idxE; rw [hr, hc]; simp
  show wOf (tblOf g.es) r' c' = _
  unfold wOf
  rw [if_pos ⟨h5, h6⟩]
  rcases tblFrom_at g.es tz (64 * r' + c') (by rw [tz_len]; omega) with ⟨e, q1, q2, q3⟩ | ⟨q1, _⟩
  · obtain ⟨r2, c2, k1, k2, k3, k4, k5, k6⟩ := edge_ok h q1
    have : idxE e = 64 * r2 + c2 := by unfold idxE; rw [k1, k2]; simp
    have : e = x := pairwise_eq (edges_lt h) q1 hx (by omega) (by omega)
    subst this; exact q3
  · exact absurd hi (q1 x hx)
theorem wG_some {g : Gr} (h : chk g = true) {r c : Nat} (hw : wG g r c ≠ 0) : ∃ x ∈ g.es, x.r = r ∧ x.c = c ∧ x.w = wG g r c := by
  have hw' := hw
  unfold wG wOf at hw'
  by_cases hrc : r < 64 ∧ c < 64
  · rw [if_pos hrc] at hw'
    rcases tblFrom_at g.es tz (64 * r + c) (by rw [tz_len]; omega) with ⟨e, q1, q2, q3⟩ | ⟨_, q2⟩
    · obtain ⟨r2, c2, k1, k2, k3, k4, k5, k6⟩ := edge_ok h q1
      have : idxE e = 64 * r2 + c2 := by unfold idxE; rw [k1, k2]; simp
      have e1 : e.r = r := by omega
      have e2 : e.c = c := by omega
      exact ⟨e, q1, e1, e2, (wG_edge h q1 e1 e2).symm⟩
    · exfalso
      apply hw'
      show getI (tblFrom g.es tz) (64 * r + c) = 0
      rw [q2]; unfold getI tz; rw [List.getElem?_replicate, if_pos (by omega)]; rfl
  · rw [if_neg hrc] at hw'; exact absurd rfl hw'
theorem wG_ok {g : Gr} (h : chk g = true) : WOk (wG g) := by
  refine ⟨fun r c => ?_, fun r c => ?_⟩ <;>
  · by_cases e : wG g r c = 0
    · rw [e]; omega
    · obtain ⟨x, h1, _, _, h4⟩ := wG_some h e
      have := edge_w h h1
      omega
theorem wG_out {g : Gr} (h : chk g = true) (r c : Nat) (hn : ¬ (r < g.rows.toNat ∧ c < g.cols.toNat)) : wG g r c = 0 := by
  refine Classical.byContradiction fun e => ?_
  obtain ⟨x, h1, h2, h3, _⟩ := wG_some h e
  obtain ⟨r', c', k1, k2, k3, k4, _, _⟩ := edge_ok h h1
  omega
end Go.Proofs.Ytmddhjoomlhbcaa
