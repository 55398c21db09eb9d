/- What a Book holds, in memory: lists with their numbers; lists that are filled with marks, and grown. -/
import Derived.Test.YtkaalppmheikgaaKp
import Derived.Maps.AppendAt
import Derived.WalkSmall
import Derived.Test.YtkaalppmheikgaaQx
import Derived.Deep.MidRow
import Derived.Laws.OwnMore
namespace Go.Proofs.Ytkaalppmheikgaa
open Go.RowKit

/-- A list of cells, some of them set anew. -/
def setR (xs : List Value) : Nat → List Value → List Value
  | _, [] => xs
  | o, v :: r => setR (xs.set o v) (o + 1) r
theorem setR_len : ∀ (vs : List Value) (xs : List Value) (o : Nat), (setR xs o vs).length = xs.length
  | [], _, _ => rfl
  | v :: r, xs, o => by rw [setR, setR_len r]; simp
theorem setR_get : ∀ (vs : List Value) (xs : List Value) (o i : Nat), i < xs.length → (setR xs o vs)[i]? = if o ≤ i ∧ i < o + vs.length then vs[i - o]? else xs[i]?
  | [], xs, o, i, _ => by rw [setR, if_neg (by simp)]
  | v :: r, xs, o, i, h => by
    rw [setR, setR_get r (xs.set o v) (o + 1) i (by simpa using h)]
    by_cases e : i = o
    · subst e
      rw [if_neg (by omega), if_pos (by simp)]
      simp [h]
    · by_cases e2 : o + 1 ≤ i ∧ i < o + 1 + r.length
      · rw [if_pos e2, if_pos (by simp; omega), show i - o = (i - (o + 1)) + 1 by omega, List.getElem?_cons_succ]
      · rw [if_neg e2, if_neg (by simp; omega), List.getElem?_set_ne (fun h => e h.symm)]
theorem stored_n {base size n cap g : Nat} {e : TypeId} : ∀ (vs : List Value) (xs : List Value) (o : Nat) (w : World), w.ownsRow base e size (.slice (some ⟨g, 0, none⟩) n cap) n xs → (w.setCells g o vs).ownsRow base e size (.slice (some ⟨g, 0, none⟩) n cap) n (setR xs o vs)
  | [], _, _, _, h => h
  | v :: r, xs, o, _, h => stored_n r (xs.set o v) (o + 1) _ (h.stored o v).1

theorem mul_add_mod' {k j sz : Nat} (h : j < sz) : (k * sz + j) % sz = j := by
  rw [Nat.add_comm, Nat.add_mul_mod_self_right, Nat.mod_eq_of_lt h]
theorem cell_same' {w w' : World} {b o : Nat} (h : w'.heap[b]? = w.heap[b]?) : w'.cell? ⟨b, o, none⟩ = w.cell? ⟨b, o, none⟩ := World.cell?_of_block h
/-! ### Lists of marks -/
/-- m marks, one behind the other. -/
def IsM (sz : Nat) (mk : List Value) (m : Nat) (xs : List Value) : Prop := xs.length = m * sz ∧ ∀ i, i < m * sz → xs[i]? = mk[i % sz]?
/-- The first k are marks. -/
def Upto (sz : Nat) (mk : List Value) (k : Nat) (xs : List Value) : Prop := ∀ i, i < k * sz → xs[i]? = mk[i % sz]?
theorem Upto.set {sz : Nat} {mk : List Value} {k m : Nat} {xs : List Value} (h : Upto sz mk k xs) (hl : xs.length = m * sz) (hk : k < m) (hm : mk.length = sz) : Upto sz mk (k + 1) (setR xs (k * sz) mk) := by
  intro i hi
  have h1 : (k + 1) * sz ≤ m * sz := Nat.mul_le_mul_right _ hk
  rw [setR_get _ _ _ _ (by omega), hm]
  rw [Nat.add_mul, Nat.one_mul] at hi
  by_cases e : k * sz ≤ i
  · rw [if_pos ⟨e, hi⟩]
    congr 1
    obtain ⟨j, rfl⟩ := Nat.exists_eq_add_of_le e
    rw [Nat.add_sub_cancel_left, mul_add_mod' (by omega)]
  · rw [if_neg fun h => e h.1]
    exact h i (by omega)
theorem IsM.push {sz : Nat} {mk : List Value} {m : Nat} {xs : List Value} (h : IsM sz mk m xs) (hm : mk.length = sz) : IsM sz mk (m + 1) (xs ++ mk) := by
  refine ⟨by rw [List.length_append, h.1, hm, Nat.add_mul, Nat.one_mul], fun i hi => ?_⟩
  rw [Nat.add_mul, Nat.one_mul] at hi
  by_cases e : i < m * sz
  · rw [List.getElem?_append_left (by rw [h.1]; exact e)]; exact h.2 i e
  · rw [List.getElem?_append_right (by rw [h.1]; omega), h.1]
    congr 1
    obtain ⟨j, rfl⟩ := Nat.exists_eq_add_of_le (Nat.le_of_not_lt e)
    rw [Nat.add_sub_cancel_left, mul_add_mod' (by omega)]
/-- What is read in a list of marks. -/
def ReadM (w : World) (sz : Nat) (mk : List Value) (v : Value) (m : Nat) : Prop :=
  ∃ a cap, v = .slice a m cap ∧ ∀ i, i < m → ∃ g, a = some ⟨g, 0, none⟩ ∧ w.rangeAt g (i * sz) mk
theorem IsM.read {w : World} {base sz m : Nat} {e : TypeId} {v : Value} {mk xs : List Value} (h : w.ownsRow base e sz v m xs) (hx : IsM sz mk m xs) (hm : mk.length = sz) : ReadM w sz mk v m := by
  obtain ⟨a, cap, rfl⟩ := ownsRow_shape h
  refine ⟨a, cap, rfl, fun i hi => ?_⟩
  obtain ⟨g, cap', hv⟩ := ownsRow_form' h (by omega)
  cases hv
  refine ⟨g, rfl, fun j u hj => ?_⟩
  have hj2 : j < sz := by have := (List.getElem?_eq_some_iff.1 hj).1; omega
  have h1 : (i + 1) * sz ≤ m * sz := Nat.mul_le_mul_right _ hi
  rw [Nat.add_mul, Nat.one_mul] at h1
  rw [h.cellAt _ (by omega), hx.2 _ (by omega), mul_add_mod' hj2, hj]
theorem ReadM.keep {w w' : World} {sz m : Nat} {mk : List Value} {v : Value} (h : ReadM w sz mk v m) (hk : ∀ g, v.ownBlock = some g → w'.heap[g]? = w.heap[g]?) : ReadM w' sz mk v m := by
  obtain ⟨a, cap, rfl, h2⟩ := h
  refine ⟨a, cap, rfl, fun i hi => ?_⟩
  obtain ⟨g, rfl, h3⟩ := h2 i hi
  exact ⟨g, rfl, fun j u hj => (cell_same' (hk g rfl)).trans (h3 j u hj)⟩
/-- A list of more marks in the same block, or in another one. -/
theorem ReadM.less {w : World} {sz m n cap : Nat} {mk : List Value} {v : Value} {g : Nat} (h : ReadM w sz mk v m) (hv : v.ownBlock = some g) (hn : n ≤ m) : ReadM w sz mk (.slice (some ⟨g, 0, none⟩) n cap) n := by
  obtain ⟨a, cp, rfl, h2⟩ := h
  refine ⟨_, _, rfl, fun i hi => ?_⟩
  obtain ⟨g', rfl, h3⟩ := h2 i (by omega)
  cases hv
  exact ⟨_, rfl, h3⟩

/-! ### What is held -/
structure HL where
  v : Value
  u : Value
  n : Nat
  len : Nat
def HL.cells (h : HL) : List Value := [h.v, h.u, .int .i64 h.n]
def lotV (l : List HL) : List Value := l.flatMap HL.cells
def HL.has (h : HL) (b : Nat) : Prop := h.v.ownBlock = some b ∨ h.u.ownBlock = some b
theorem lotV_len (l : List HL) : (lotV l).length = l.length * 3 := by
  induction l with
  | nil => rfl
  | cons a l ih => unfold lotV at *; rw [List.flatMap_cons, List.length_append, ih]; simp [HL.cells]; omega
theorem lotV_snoc (l : List HL) (h : HL) : lotV (l ++ [h]) = lotV l ++ h.cells := by simp [lotV]
theorem lotV_get : ∀ (l : List HL) (j i : Nat) (h : HL) (u : Value), l[j]? = some h → h.cells[i]? = some u → (lotV l)[j * 3 + i]? = some u
  | [], j, i, h, u, hj, _ => by simp at hj
  | a :: l, 0, i, h, u, hj, hi => by
    have : a = h := by simpa using hj
    subst this
    have h3 : i < 3 := (List.getElem?_eq_some_iff.1 hi).1
    unfold lotV
    rw [List.flatMap_cons, Nat.zero_mul, Nat.zero_add, List.getElem?_append_left (by simpa [HL.cells] using h3)]
    exact hi
  | a :: l, j + 1, i, h, u, hj, hi => by
    have := lotV_get l j i h u (by simpa using hj) hi
    unfold lotV at *
    rw [List.flatMap_cons, List.getElem?_append_right (by simp [HL.cells]; omega), ← this]
    congr 1
    simp [HL.cells]; omega
theorem lotV_setU : ∀ (l : List HL) (j : Nat) (h : HL) (u : Value), l[j]? = some h → (lotV l).set (j * 3 + 1) u = lotV (l.set j { h with u := u })
  | [], j, h, u, hj => by simp at hj
  | a :: l, 0, h, u, hj => by
    have : a = h := by simpa using hj
    subst this
    simp [lotV, HL.cells]
  | a :: l, j + 1, h, u, hj => by
    have := lotV_setU l j h u (by simpa using hj)
    unfold lotV at *
    rw [List.set_cons_succ, List.flatMap_cons, List.flatMap_cons, List.set_append_right _ _ (by simp [HL.cells]; omega), ← this]
    congr 2
    simp [HL.cells]; omega

/-- The blocks of a lot. -/
def LotS (fv : Value) (ls : List HL) (b : Nat) : Prop := fv.ownBlock = some b ∨ ∃ (j : Nat) (h : HL), ls[j]? = some h ∧ h.has b
structure LotX (T TH : TypeId) (w : World) (fv : Value) (ls : List HL) : Prop where
  out : w.ownsRow 0 TH 3 fv ls.length (lotV ls)
  apart : ∀ (i j : Nat) (hi hj : HL) (b : Nat), i ≠ j → ls[i]? = some hi → ls[j]? = some hj → hi.has b → ¬ hj.has b
  typ : ∀ (j : Nat) (h : HL) (b : Nat), ls[j]? = some h → h.has b → ∃ cs, w.heap[b]? = some (.cells cs T (0, 0))
  num : ∀ (j : Nat) (h : HL), ls[j]? = some h → h.n ≤ 1099511627776 ∧ h.len ≤ 4294967296
  few : ls.length ≤ 1073741824
  ne : T ≠ TH
section
variable {T TH : TypeId} {w w' : World} {fv : Value} {ls : List HL}
theorem LotX.lt (h : LotX T TH w fv ls) {b : Nat} (hb : LotS fv ls b) : b < w.heap.size := by
  rcases hb with hb | ⟨j, x, h1, h2⟩
  · exact ownsRow_lt h.out hb
  · obtain ⟨cs, h3⟩ := h.typ j x b h1 h2
    exact heap_lt h3
theorem LotX.kept (h : LotX T TH w fv ls) (hk : ∀ b, LotS fv ls b → w'.heap[b]? = w.heap[b]?) : LotX T TH w' fv ls :=
  ⟨ownsRow_other h.out fun b hb => hk b (.inl hb), h.apart, fun j x b h1 h2 => by
    obtain ⟨cs, h3⟩ := h.typ j x b h1 h2
    exact ⟨cs, (hk b (.inr ⟨j, x, h1, h2⟩)).trans h3⟩, h.num, h.few, h.ne⟩
theorem LotX.types (h : LotX T TH w fv ls) {b : Nat} (hb : LotS fv ls b) : ∃ cs, w.heap[b]? = some (.cells cs T (0, 0)) ∨ w.heap[b]? = some (.cells cs TH (0, 0)) := by
  rcases hb with hb | ⟨j, x, h1, h2⟩
  · obtain ⟨cs, h3⟩ := ownsRow_type h.out hb
    exact ⟨cs, .inr h3⟩
  · obtain ⟨cs, h3⟩ := h.typ j x b h1 h2
    exact ⟨cs, .inl h3⟩
/-- A block of another type is none of a lot's. -/
theorem LotX.not (h : LotX T TH w fv ls) {b : Nat} {cs : Array Value} {T2 : TypeId} {fr : Nat × Nat} (hb : w.heap[b]? = some (.cells cs T2 fr)) (h1 : T2 ≠ T) (h2 : T2 ≠ TH) : ¬ LotS fv ls b := by
  intro hs
  obtain ⟨c2, h3 | h3⟩ := h.types hs
  · rw [hb] at h3; cases h3; exact h1 rfl
  · rw [hb] at h3; cases h3; exact h2 rfl
/-- A list's block is not the block of the lists' lists. -/
theorem LotX.out_ne (h : LotX T TH w fv ls) {j : Nat} {x : HL} (hj : ls[j]? = some x) {b : Nat} (hb : x.has b) : fv.ownBlock ≠ some b := by
  intro e
  obtain ⟨cs, h1⟩ := h.typ j x b hj hb
  obtain ⟨c2, h2⟩ := ownsRow_type h.out e
  rw [h1] at h2; cases h2; exact h.ne rfl
theorem LotX.cells (h : LotX T TH w fv ls) {j : Nat} {x : HL} (hj : ls[j]? = some x) : ∃ g cap, fv = .slice (some ⟨g, 0, none⟩) ls.length cap ∧ w.cell? ⟨g, j * 3, none⟩ = some x.v ∧ w.cell? ⟨g, j * 3 + 1, none⟩ = some x.u ∧ w.cell? ⟨g, j * 3 + 2, none⟩ = some (.int .i64 x.n) ∧ w.frozen? ⟨g, j * 3 + 1, none⟩ = false ∧ w.rangeAt g (j * 3) x.cells := by
  have hlt := (List.getElem?_eq_some_iff.1 hj).1
  obtain ⟨g, cap, hv⟩ := ownsRow_form' h.out (by omega)
  have ho := h.out
  rw [hv] at ho
  refine ⟨g, cap, hv, ?_, ?_, ?_, ho.frozenAt _, fun i u hi => ?_⟩
  · rw [ho.cellAt _ (by omega)]; exact lotV_get ls j 0 x _ hj rfl
  · rw [ho.cellAt _ (by omega)]; exact lotV_get ls j 1 x _ hj rfl
  · rw [ho.cellAt _ (by omega)]; exact lotV_get ls j 2 x _ hj rfl
  · have : i < 3 := (List.getElem?_eq_some_iff.1 hi).1
    rw [ho.cellAt _ (by omega)]; exact lotV_get ls j i x _ hj hi
/-- A list more is held. -/
theorem LotX.push (h : LotX T TH w fv ls) {x : HL} {fv2 : Value} (ho : w'.ownsRow 0 TH 3 fv2 (ls.length + 1) (lotV ls ++ x.cells)) (hk : ∀ b, (∃ (j : Nat) (y : HL), ls[j]? = some y ∧ y.has b) ∨ x.has b → w'.heap[b]? = w.heap[b]?)
    (hap : ∀ (j : Nat) (y : HL) (b : Nat), ls[j]? = some y → y.has b → ¬ x.has b) (htp : ∀ b, x.has b → ∃ cs, w.heap[b]? = some (.cells cs T (0, 0))) (hn : x.n ≤ 1099511627776 ∧ x.len ≤ 4294967296) (hf : ls.length + 1 ≤ 1073741824) : LotX T TH w' fv2 (ls ++ [x]) := by
  have get : ∀ (j : Nat) (y : HL), (ls ++ [x])[j]? = some y → (ls[j]? = some y ∧ j < ls.length) ∨ (j = ls.length ∧ y = x) := by
    intro j y hy
    by_cases e : j < ls.length
    · rw [List.getElem?_append_left e] at hy; exact .inl ⟨hy, e⟩
    · rw [List.getElem?_append_right (by omega)] at hy
      obtain ⟨h1, h2⟩ := List.getElem?_eq_some_iff.1 hy
      simp at h1 h2
      exact .inr ⟨by omega, h2.symm⟩
  refine ⟨by rw [lotV_snoc, List.length_append]; exact ho, fun i j hi hj b hij h1 h2 h3 h4 => ?_, fun j y b h1 h2 => ?_, fun j y h1 => ?_, by simpa using hf, h.ne⟩
  · rcases get i hi h1 with ⟨a1, a2⟩ | ⟨rfl, rfl⟩
    · rcases get j hj h2 with ⟨b1, b2⟩ | ⟨rfl, rfl⟩
      · exact h.apart i j hi hj b hij a1 b1 h3 h4
      · exact hap i hi b a1 h3 h4
    · rcases get j hj h2 with ⟨b1, b2⟩ | ⟨rfl, rfl⟩
      · exact hap j hj b b1 h4 h3
      · exact hij rfl
  · rcases get j y h1 with ⟨a1, a2⟩ | ⟨rfl, rfl⟩
    · obtain ⟨cs, h5⟩ := h.typ j y b a1 h2
      exact ⟨cs, (hk b (.inl ⟨j, y, a1, h2⟩)).trans h5⟩
    · obtain ⟨cs, h5⟩ := htp b h2
      exact ⟨cs, (hk b (.inr h2)).trans h5⟩
  · rcases get j y h1 with ⟨a1, a2⟩ | ⟨rfl, rfl⟩
    · exact h.num j y a1
    · exact hn
end

/-! ### Filled -/
structure LotA (T TH : TypeId) (sz : Nat) (mk : Nat → List Value) (w : World) (fv : Value) (ls : List HL) (p : Nat) : Prop where
  lot : LotX T TH w fv ls
  each : ∀ (j : Nat) (h : HL), ls[j]? = some h → ∃ xs, w.ownsRow 0 T sz h.v h.len xs ∧ (j < p → IsM sz (mk h.n) h.len xs)
  un : ∀ (j : Nat) (h : HL), ls[j]? = some h → h.u = .slice none 0 0
  msz : ∀ n, (mk n).length = sz
def Part (T : TypeId) (sz : Nat) (mk : Nat → List Value) (w : World) (h : HL) (k : Nat) : Prop := ∃ xs, w.ownsRow 0 T sz h.v h.len xs ∧ Upto sz (mk h.n) k xs
section
variable {T TH : TypeId} {sz : Nat} {mk : Nat → List Value} {w w' : World} {fv : Value} {ls : List HL} {p : Nat}
theorem LotA.kept (h : LotA T TH sz mk w fv ls p) (hk : ∀ b, LotS fv ls b → w'.heap[b]? = w.heap[b]?) : LotA T TH sz mk w' fv ls p :=
  ⟨h.lot.kept hk, fun j x h1 => by
    obtain ⟨xs, h2, h3⟩ := h.each j x h1
    exact ⟨xs, ownsRow_other h2 fun b hb => hk b (.inr ⟨j, x, h1, .inl hb⟩), h3⟩, h.un, h.msz⟩
theorem LotA.start (h : LotA T TH sz mk w fv ls p) {j : Nat} {x : HL} (hj : ls[j]? = some x) : Part T sz mk w x 0 := by
  obtain ⟨xs, h1, _⟩ := h.each j x hj
  exact ⟨xs, h1, fun i hi => by rw [Nat.zero_mul] at hi; omega⟩
theorem LotA.store (h : LotA T TH sz mk w fv ls p) {j : Nat} {x : HL} (hj : ls[j]? = some x) (hp : p ≤ j) {k : Nat} (hk : k < x.len) (hpt : Part T sz mk w x k) :
    ∃ g cap, x.v = .slice (some ⟨g, 0, none⟩) x.len cap ∧ (∀ i, i < sz → (w.cell? ⟨g, k * sz + i, none⟩).isSome = true ∧ w.frozen? ⟨g, k * sz + i, none⟩ = false) ∧
      LotA T TH sz mk (w.setCells g (k * sz) (mk x.n)) fv ls p ∧ Part T sz mk (w.setCells g (k * sz) (mk x.n)) x (k + 1) ∧ LotS fv ls g := by
  obtain ⟨xs, h1, h2⟩ := hpt
  obtain ⟨g, cap, hv⟩ := ownsRow_form' h1 (by omega)
  have hg : LotS fv ls g := .inr ⟨j, x, hj, .inl (by rw [hv]; rfl)⟩
  have hown := h1
  rw [hv] at hown
  have hl := hown.1
  have hkm : (k + 1) * sz ≤ x.len * sz := Nat.mul_le_mul_right _ hk
  rw [Nat.add_mul, Nat.one_mul] at hkm
  have hst := stored_n (mk x.n) xs (k * sz) w hown
  refine ⟨g, cap, hv, fun i hi => ⟨?_, hown.frozenAt _⟩, ⟨⟨?_, h.lot.apart, fun i y b h3 h4 => ?_, h.lot.num, h.lot.few, h.lot.ne⟩, fun i y h3 => ?_, h.un, h.msz⟩, ⟨_, by rw [hv]; exact hst, h2.set hl hk (h.msz _)⟩, hg⟩
  · rw [hown.cellAt _ (by omega), List.getElem?_eq_getElem (by omega)]; rfl
  · refine ownsRow_other h.lot.out fun b hb => setCells_other _ _ _ _ _ ?_
    intro e; subst e
    exact h.lot.out_ne hj (.inl (by rw [hv]; rfl)) hb
  · obtain ⟨cs, h5⟩ := h.lot.typ i y b h3 h4
    by_cases e : b = g
    · subst e
      exact ownsRow_type hst rfl
    · exact ⟨cs, (setCells_other _ _ _ _ _ e).trans h5⟩
  · by_cases e : i = j
    · subst e
      have : y = x := by rw [hj] at h3; cases h3; rfl
      subst this
      exact ⟨_, by rw [hv]; exact hst, fun h5 => by omega⟩
    · obtain ⟨ys, h4, h5⟩ := h.each i y h3
      refine ⟨ys, ownsRow_other h4 fun b hb => setCells_other _ _ _ _ _ ?_, h5⟩
      intro e2; subst e2
      exact h.lot.apart i j y x b e h3 hj (.inl hb) (.inl (by rw [hv]; rfl))
theorem LotA.next (h : LotA T TH sz mk w fv ls p) {x : HL} (hj : ls[p]? = some x) (hpt : Part T sz mk w x x.len) : LotA T TH sz mk w fv ls (p + 1) := by
  refine ⟨h.lot, fun j y h1 => ?_, h.un, h.msz⟩
  by_cases e : j = p
  · subst e
    have : y = x := by rw [hj] at h1; cases h1; rfl
    subst this
    obtain ⟨xs, h2, h3⟩ := hpt
    exact ⟨xs, h2, fun _ => ⟨h2.1, h3⟩⟩
  · obtain ⟨xs, h2, h3⟩ := h.each j y h1
    exact ⟨xs, h2, fun h4 => h3 (by omega)⟩
end


/-! ### Grown -/
/-- append onto memory of one's own: in its place, or in a new block, and then the old one is as it was. -/
theorem run_append_two {P : Program} (w : World) (t ty : TypeId) (base : Nat) (e : TypeId) (i : TypeInfo) (z : Value) (size bytes : Nat) (ht : P.underlying t = some (.slice e)) (hi : P.info? e = some i) (hz : i.zero = some z)
    (hsize : i.size = size) (hby : i.bytes = bytes) (hzs : z.cells.size = size) (_hsz : 0 < size)
    (v : Value) (n : Nat) (xs : List Value) (hown : w.ownsRow base e size v n xs)
    (a : Addr) (m c : Nat) (news : List Value) (hl : news.length = m * size) (hnews : ∀ j u, news[j]? = some u → w.cell? (a.add j) = some u) (h1 : ∀ u ∈ news, u.oneCell' = true)
    (hm : 0 < m) (h63 : n + m ≤ maxLen) (hbytes : (n + m) * bytes ≤ 140737488355328) (hbase : base ≤ w.heap.size) :
    ∃ g cap w', (Builtin.append_ #[t, t] ty #[v, .slice (some a) m c]).run P w = .ok (.slice (some ⟨g, 0, none⟩) (n + m) cap) w' ∧
      w'.ownsRow base e size (.slice (some ⟨g, 0, none⟩) (n + m) cap) (n + m) (xs ++ news) ∧ ((v.ownBlock = some g ∧ w.grownBy w' (some g)) ∨ (g = w.heap.size ∧ w.grownBy w' none)) := by
  subst hsize
  subst hby
  have hsmall : n + m ≤ 9223372036854775807 := by simp only [maxLen] at h63; omega
  have hlen : (xs ++ news).length = (n + m) * i.size := by rw [List.length_append, hown.1, hl, Nat.add_mul]
  have grown : ∀ (old : Nat),
      (w.drew.alloc (.cells (xs.toArray ++ news.toArray ++ Builtin.zeroCells z.cells (grownCap w (n + m) old e - (n + m))) e)).ownsRow base e i.size
        (.slice (some ⟨w.heap.size, 0, none⟩) (n + m) (grownCap w (n + m) old e)) (n + m) (xs ++ news) ∧
      w.grownBy (w.drew.alloc (.cells (xs.toArray ++ news.toArray ++ Builtin.zeroCells z.cells (grownCap w (n + m) old e - (n + m))) e)) none := by
    intro old
    have hge := grownCap_ge w (n + m) old e
    have hcm : grownCap w (n + m) old e ≤ maxLen := grownCap_le_maxLen w (n + m) old e h63
    refine ⟨⟨hlen, .inr ⟨w.heap.size, _, _, rfl, hbase, heap_alloc_new w.drew _, hge, hcm, ?_, ?_⟩⟩, ⟨rfl, rfl, rfl, by simp, fun k hk _ => Below.heap_alloc w.drew _ k hk⟩⟩
    · simp only [Array.size_append, List.size_toArray, size_zeroCells, hzs, hown.1, hl, ← Nat.add_mul]
      congr 1
      omega
    · simp only [Array.toList_append, List.append_assoc]
      rw [← List.append_assoc, ← hlen]
      exact List.take_left
  rcases hown.2 with ⟨rfl, rfl⟩ | ⟨g, cap, cur, rfl, hbg, hg, hnc, hcm, hcs, htake⟩
  · have hx : xs = [] := List.eq_nil_of_length_eq_zero (by simpa using hown.1)
    subst hx
    have hr := run_append_nil (P := P) w t ty e i z ht hi hz a m c news hl hnews (by omega) (by omega) (by have hb := hbytes; simp only [Nat.zero_add] at hb; omega)
    have hgr := grown 0
    simp only [Nat.zero_add, List.nil_append, Array.empty_append] at hgr ⊢
    exact ⟨_, _, _, hr, hgr.1, .inr ⟨rfl, hgr.2⟩⟩
  · by_cases hroom : n + m ≤ cap
    · have hfit : n * i.size + news.length ≤ cur.size := by rw [hl, hcs, ← Nat.add_mul]; exact Nat.mul_le_mul_right _ hroom
      have hr := run_append_room (P := P) w t ty e i ht hi g n cap cur hg a m c news hl hnews h1 hroom hfit
      refine ⟨_, _, _, hr, ⟨hlen, .inr ⟨g, cap, _, rfl, hbg, setRow_heap w g cur _ e _ hg, hroom, hcm, ?_, ?_⟩⟩, .inl ⟨rfl, rfl, rfl, rfl, by simp, fun k _ hk => setRow_other w g k _ (fun e => hk (by simp [e]))⟩⟩
      · simp only [List.size_toArray, List.length_append, List.length_take, List.length_drop, Array.length_toList]
        omega
      · rw [htake, ← hlen]
        exact List.take_left
    · have holds : ∀ j u, xs[j]? = some u → w.cell? ((⟨g, 0, none⟩ : Addr).add j) = some u := hown.cells (g := g) rfl
      have hr := run_append_grow (P := P) w t ty e i z ht hi hz ⟨g, 0, none⟩ n cap xs hown.1 holds a m c news hl hnews (by omega) (by omega) (growslice_fits (by omega) hbytes)
      have hgr := grown cap
      exact ⟨_, _, _, hr, hgr.1, .inr ⟨rfl, hgr.2⟩⟩
theorem wpList_append_two {P : Program} {w : World} {ops : Array Oper} {rest : List Oper} {o : Oper} {a : Act} {Q : Exit → Act → World → Prop} (hgd : o.guard = none) (s x : Operand) (t : TypeId)
    (ho : o.op = .call { callee := .builtin .append, args := #[s, x], argTypes := #[t, t] })
    (base : Nat) (e : TypeId) (i : TypeInfo) (z : Value) (size bytes : Nat) (ht : P.underlying t = some (.slice e)) (hi : P.info? e = some i) (hz : i.zero = some z)
    (hsize : i.size = size) (hby : i.bytes = bytes) (hzs : z.cells.size = size) (hsz : 0 < size)
    (v : Value) (n : Nat) (xs : List Value) (hs : a.eval s = v) (hown : w.ownsRow base e size v n xs)
    (ad : Addr) (m c : Nat) (news : List Value) (hx : a.eval x = .slice (some ad) m c) (hl : news.length = m * size) (hnews : ∀ j u, news[j]? = some u → w.cell? (ad.add j) = some u) (h1 : ∀ u ∈ news, u.oneCell' = true)
    (hm : 0 < m) (h63 : n + m ≤ maxLen) (hbytes : (n + m) * bytes ≤ 140737488355328) (hbase : base ≤ w.heap.size) (H : Nat) (hH : w.heap.size = H)
    (h : ∀ g cap w', w'.ownsRow base e size (.slice (some ⟨g, 0, none⟩) (n + m) cap) (n + m) (xs ++ news) → ((v.ownBlock = some g ∧ w.grownBy w' (some g)) ∨ (g = H ∧ w.grownBy w' none)) → wpList P ops Q rest (a.put o.dst (.slice (some ⟨g, 0, none⟩) (n + m) cap)) w') : wpList P ops Q (o :: rest) a w := by
  subst hH
  obtain ⟨g, cap, w', hr, h2, h3⟩ := run_append_two (P := P) w t o.type base e i z size bytes ht hi hz hsize hby hzs hsz v n xs hown ad m c news hl hnews h1 hm h63 hbytes hbase
  refine wpList_plain hgd fun _ hK => ?_
  unfold Oper.wp execOp
  simp only [ho, resolve, invoke, builtin, Sem.run_bind, Sem.run_pure, Result.andThen_ok, List.map_toArray, List.map_cons, List.map_nil, hs, hx, hr]
  exact hK _ _ (h g cap w' h2 h3)

structure LotB (T TH : TypeId) (sz : Nat) (mk : Nat → List Value) (w : World) (fv : Value) (ls : List HL) (q : Nat) : Prop where
  lot : LotX T TH w fv ls
  done : ∀ (j : Nat) (h : HL), j < q → ls[j]? = some h → ReadM w sz (mk h.n) h.v h.len ∧ ReadM w sz (mk h.n) h.u (h.len + 70)
  rest : ∀ (j : Nat) (h : HL), q ≤ j → ls[j]? = some h → (∃ xs, w.ownsRow 0 T sz h.v h.len xs ∧ IsM sz (mk h.n) h.len xs) ∧ h.u = .slice none 0 0
  msz : ∀ n, (mk n).length = sz
/-- The list that grows: k marks more than the list that is held; in its block, or in a new one. -/
structure Grows (T : TypeId) (sz : Nat) (mk : Nat → List Value) (w0 w : World) (x : HL) (k : Nat) (u : Value) : Prop where
  own : ∃ xs, w.ownsRow 0 T sz u (x.len + k) xs ∧ IsM sz (mk x.n) (x.len + k) xs
  v : ReadM w sz (mk x.n) x.v x.len
  at_ : u.ownBlock = x.v.ownBlock ∨ ∃ g, u.ownBlock = some g ∧ w0.heap.size ≤ g
  vt : ∀ b, x.v.ownBlock = some b → ∃ cs, w.heap[b]? = some (.cells cs T (0, 0))
section
variable {T TH : TypeId} {sz : Nat} {mk : Nat → List Value} {w w' : World} {fv : Value} {ls : List HL} {q : Nat}
theorem LotA.grow (h : LotA T TH sz mk w fv ls ls.length) : LotB T TH sz mk w fv ls 0 :=
  ⟨h.lot, fun j x hj => by omega, fun j x _ hx => by
    obtain ⟨xs, h1, h2⟩ := h.each j x hx
    exact ⟨⟨xs, h1, h2 (List.getElem?_eq_some_iff.1 hx).1⟩, h.un j x hx⟩, h.msz⟩
theorem LotB.kept (h : LotB T TH sz mk w fv ls q) (hk : ∀ b, LotS fv ls b → w'.heap[b]? = w.heap[b]?) : LotB T TH sz mk w' fv ls q :=
  ⟨h.lot.kept hk, fun j x h1 h2 => ⟨(h.done j x h1 h2).1.keep fun b hb => hk b (.inr ⟨j, x, h2, .inl hb⟩), (h.done j x h1 h2).2.keep fun b hb => hk b (.inr ⟨j, x, h2, .inr hb⟩)⟩, fun j x h1 h2 => by
    obtain ⟨⟨xs, h3, h4⟩, h5⟩ := h.rest j x h1 h2
    exact ⟨⟨xs, ownsRow_other h3 fun b hb => hk b (.inr ⟨j, x, h2, .inl hb⟩), h4⟩, h5⟩, h.msz⟩
theorem LotB.begins (h : LotB T TH sz mk w fv ls q) {x : HL} (hq : ls[q]? = some x) : Grows T sz mk w w x 0 x.v := by
  obtain ⟨⟨xs, h1, h2⟩, _⟩ := h.rest q x (Nat.le_refl _) hq
  exact ⟨⟨xs, h1, h2⟩, h2.read h1 (h.msz _), .inl rfl, fun b hb => h.lot.typ q x b hq (.inl hb)⟩
theorem Grows.kept {w0 : World} {x : HL} {k : Nat} {u : Value} (h : Grows T sz mk w0 w x k u) (hb : Below w.heap.size w w') : Grows T sz mk w0 w' x k u := by
  obtain ⟨xs, h1, h2⟩ := h.own
  refine ⟨⟨xs, ownsRow_other h1 fun b hb' => hb.block b (ownsRow_lt h1 hb'), h2⟩, h.v.keep fun b hv => ?_, h.at_, fun b hv => ?_⟩
  · obtain ⟨cs, h3⟩ := h.vt b hv
    exact hb.block b (heap_lt h3)
  · obtain ⟨cs, h3⟩ := h.vt b hv
    exact ⟨cs, below_keep hb h3⟩
/-- An element more. -/
theorem Grows.push {w0 : World} {x : HL} {k gu ucap : Nat} {u : Value} {xs : List Value} (h : Grows T sz mk w0 w x k u) (hm : (mk x.n).length = sz) (hxs : IsM sz (mk x.n) (x.len + k) xs) (hs : w0.heap.size ≤ w.heap.size) (ho : w'.ownsRow 0 T sz (.slice (some ⟨gu, 0, none⟩) (x.len + k + 1) ucap) (x.len + k + 1) (xs ++ mk x.n))
    (hg : (u.ownBlock = some gu ∧ w.grownBy w' (some gu)) ∨ (gu = w.heap.size ∧ w.grownBy w' none)) : Grows T sz mk w0 w' x (k + 1) (.slice (some ⟨gu, 0, none⟩) (x.len + k + 1) ucap) := by
  have hnew := hxs.push hm
  have hrd : ReadM w' sz (mk x.n) (.slice (some ⟨gu, 0, none⟩) (x.len + k + 1) ucap) (x.len + k + 1) := hnew.read ho hm
  refine ⟨⟨_, ho, hnew⟩, ?_, ?_, fun b hb => ?_⟩
  · by_cases e : x.v.ownBlock = some gu
    · obtain ⟨a, cap, hv, h2⟩ := h.v
      rw [hv] at e ⊢
      refine ⟨a, cap, rfl, fun i hi => ?_⟩
      obtain ⟨g2, rfl, _⟩ := h2 i hi
      cases e
      obtain ⟨_, _, h5, h6⟩ := hrd
      cases h5
      obtain ⟨g3, h7, h8⟩ := h6 i (by omega)
      cases h7
      exact ⟨_, rfl, h8⟩
    · refine h.v.keep fun b hb => ?_
      obtain ⟨cs, h1⟩ := h.vt b hb
      rcases hg with ⟨h2, h3⟩ | ⟨h2, h3⟩
      · exact h3.block b (heap_lt h1) fun e2 => by cases e2; exact e hb
      · exact h3.block b (heap_lt h1) fun e2 => by cases e2
  · rcases hg with ⟨h2, h3⟩ | ⟨h2, h3⟩
    · rcases h.at_ with h4 | ⟨g, h4, h5⟩
      · left; rw [← h4, h2]; rfl
      · right; rw [h2] at h4; cases h4; exact ⟨gu, rfl, h5⟩
    · right; exact ⟨gu, rfl, by omega⟩
  · obtain ⟨cs, h1⟩ := h.vt b hb
    by_cases e : b = gu
    · subst e; exact ownsRow_type ho rfl
    · rcases hg with ⟨h2, h3⟩ | ⟨h2, h3⟩
      · exact ⟨cs, by rw [h3.block b (heap_lt h1) fun e2 => by cases e2; exact e rfl]; exact h1⟩
      · exact ⟨cs, by rw [h3.block b (heap_lt h1) fun e2 => by cases e2]; exact h1⟩
/-- The list has grown: w0, where it began. -/
theorem LotB.next {w0 : World} (h : LotB T TH sz mk w0 fv ls q) {x : HL} (hq : ls[q]? = some x) {u : Value} (hg : Grows T sz mk w0 w x 70 u) (hk : ∀ b, b < w0.heap.size → x.v.ownBlock ≠ some b → w.heap[b]? = w0.heap[b]?) {g cap : Nat} (hv : fv = .slice (some ⟨g, 0, none⟩) ls.length cap) :
    LotB T TH sz mk (w.setCell ⟨g, q * 3 + 1, none⟩ u) fv (ls.set q { x with u := u }) (q + 1) := by
  have hql := (List.getElem?_eq_some_iff.1 hq).1
  have hgo : fv.ownBlock = some g := by rw [hv]; rfl
  have hgx : x.v.ownBlock ≠ some g := fun e => h.lot.out_ne hq (.inl e) hgo
  have hglt : g < w0.heap.size := h.lot.lt (.inl hgo)
  have hug : ∀ b, u.ownBlock = some b → b ≠ g := fun b hb e => by
    subst e
    rcases hg.at_ with h1 | ⟨g', h1, h2⟩
    · rw [hb] at h1; exact hgx h1.symm
    · rw [hb] at h1; cases h1; omega
  have get : ∀ (j : Nat) (y : HL), (ls.set q { x with u := u })[j]? = some y → (j ≠ q ∧ ls[j]? = some y) ∨ (j = q ∧ y = { x with u := u }) := by
    intro j y hy
    by_cases e : q = j
    · subst e; rw [List.getElem?_set_self hql] at hy; exact .inr ⟨rfl, (Option.some.inj hy).symm⟩
    · rw [List.getElem?_set_ne e] at hy; exact .inl ⟨fun e2 => e e2.symm, hy⟩
  -- the blocks of the other lists are as they were
  have oth : ∀ (j : Nat) (y : HL) (b : Nat), j ≠ q → ls[j]? = some y → y.has b → (w.setCell ⟨g, q * 3 + 1, none⟩ u).heap[b]? = w0.heap[b]? := by
    intro j y b hj hy hb
    rw [heap_setCell_ne (fun e => h.lot.out_ne hy hb (by rw [e]; exact hgo))]
    exact hk b (h.lot.lt (.inr ⟨j, y, hy, hb⟩)) fun e => h.lot.apart j q y x b hj hy hq hb (.inl e)
  have new : ∀ b, u.ownBlock = some b → x.v.ownBlock = some b ∨ w0.heap.size ≤ b := fun b hb => by
    rcases hg.at_ with h1 | ⟨g', h1, h2⟩
    · left; rw [← h1]; exact hb
    · right; rw [hb] at h1; cases h1; exact h2
  have hown : w.ownsRow 0 TH 3 (.slice (some ⟨g, 0, none⟩) ls.length cap) ls.length (lotV ls) := by
    rw [← hv]
    exact ownsRow_other h.lot.out fun b hb => by
      rw [hgo] at hb; cases hb
      exact hk g hglt hgx
  obtain ⟨xs, hx1, hx2⟩ := hg.own
  refine ⟨⟨?_, fun i j hi hj b hij h1 h2 h3 h4 => ?_, fun j y b h1 h2 => ?_, fun j y h1 => ?_, by rw [List.length_set]; exact h.lot.few, h.lot.ne⟩, fun j y h1 h2 => ?_, fun j y h1 h2 => ?_, h.msz⟩
  · rw [hv, List.length_set, ← lotV_setU ls q x u hq]
    exact (hown.stored (q * 3 + 1) u).1
  · rcases get i hi h1 with ⟨a1, a2⟩ | ⟨rfl, rfl⟩
    · rcases get j hj h2 with ⟨b1, b2⟩ | ⟨rfl, rfl⟩
      · exact h.lot.apart i j hi hj b hij a2 b2 h3 h4
      · rcases h4 with h4 | h4
        · exact h.lot.apart i j hi x b hij a2 hq h3 (.inl h4)
        · rcases new b h4 with h5 | h5
          · exact h.lot.apart i j hi x b hij a2 hq h3 (.inl h5)
          · have := h.lot.lt (.inr ⟨i, hi, a2, h3⟩); omega
    · rcases get j hj h2 with ⟨b1, b2⟩ | ⟨rfl, rfl⟩
      · rcases h3 with h3 | h3
        · exact h.lot.apart i j x hj b hij hq b2 (.inl h3) h4
        · rcases new b h3 with h5 | h5
          · exact h.lot.apart i j x hj b hij hq b2 (.inl h5) h4
          · have := h.lot.lt (.inr ⟨j, hj, b2, h4⟩); omega
      · exact hij rfl
  · rcases get j y h1 with ⟨a1, a2⟩ | ⟨rfl, rfl⟩
    · obtain ⟨cs, h5⟩ := h.lot.typ j y b a2 h2
      exact ⟨cs, (oth j y b a1 a2 h2).trans h5⟩
    · rcases h2 with h2 | h2
      · obtain ⟨cs, h5⟩ := hg.vt b h2
        exact ⟨cs, by rw [heap_setCell_ne (fun e => by subst e; exact hgx h2)]; exact h5⟩
      · obtain ⟨cs, h5⟩ := ownsRow_type hx1 h2
        exact ⟨cs, by rw [heap_setCell_ne (hug b h2)]; exact h5⟩
  · rcases get j y h1 with ⟨a1, a2⟩ | ⟨rfl, rfl⟩
    · exact h.lot.num j y a2
    · exact h.lot.num j x hq
  · rcases get j y h2 with ⟨a1, a2⟩ | ⟨rfl, rfl⟩
    · obtain ⟨c1, c2⟩ := h.done j y (by omega) a2
      exact ⟨c1.keep fun b hb => oth j y b a1 a2 (.inl hb), c2.keep fun b hb => oth j y b a1 a2 (.inr hb)⟩
    · refine ⟨hg.v.keep fun b hb => heap_setCell_ne fun e => by subst e; exact hgx hb, ?_⟩
      exact (hx2.read hx1 (h.msz _)).keep fun b hb => heap_setCell_ne (hug b hb)
  · rcases get j y h2 with ⟨a1, a2⟩ | ⟨rfl, rfl⟩
    · obtain ⟨⟨ys, c1, c2⟩, c3⟩ := h.rest j y (by omega) a2
      exact ⟨⟨ys, ownsRow_other c1 fun b hb => oth j y b a1 a2 (.inl hb), c2⟩, c3⟩
    · omega
end

/-! ### Steps -/
section
variable {P : Program}
theorem step_store_mid {w : World} {ops : Array Oper} {o : Oper} {a : Act} {K : Act → World → Prop} {Q : Exit → Act → World → Prop} {E : Prop} (hgd : o.guard = none) (ty : TypeId) (x y : Operand) (ho : o.op = .store ty x y)
    (b off : Nat) (cells : Array Value) (hx : a.eval x = .pointer (some ⟨b, off, none⟩)) (hy : a.eval y = .agg cells) (ht : w.there b off cells.size) (hi : (P.info? ty).map (·.size) = some cells.size) (h1 : cells.all (·.oneCell') = true)
    (h : K (a.put o.dst undef) (w.setCells b off cells.toList)) : if Region.wanted o (yielded ops a.tmps) = true then Oper.wp P o a w K Q else E := by
  have hw : Region.wanted o (yielded ops a.tmps) = true := by simp [Region.wanted, hgd]
  rw [if_pos hw]
  exact wp_store_mid ty x y ho b off cells hx hy ht hi h1 h
theorem quiet_load_mid {o : Oper} {a : Act} {W : World} {K : Act → Prop} (ty : TypeId) (x : Operand) (ho : o.op = .load ty x) (b off : Nat) (hx : a.eval x = .pointer (some ⟨b, off, none⟩)) (cs : List Value) (d : TypeDesc) (hc : W.rangeAt b off cs) (hb : b < W.heap.size)
    (hu : P.underlying ty = some d) (hd : d.isRow = true) (hi : (P.info? ty).map (·.size) = some cs.length) (h : K (a.put o.dst (.agg cs.toArray))) : o.quiet P a (fun w' => ∃ X : Bw W, w' = X.1) K := by
  refine ⟨.agg cs.toArray, ?_, h⟩
  rintro w ⟨X, rfl⟩
  have hc' : X.1.rangeAt b off cs := fun j v hj => (X.cell b _ hb).trans (hc j v hj)
  unfold Oper.quietAt execOp
  simp only [ho, hx, Instr.loadAt, Instr.sureAddr, Sem.run_bind, Sem.run_pure, Result.andThen_ok, run_loadVar_mid X.1 b off ty cs d hc' hu hd hi]
  exact ⟨rfl, rfl⟩
end
theorem range_below {w w' : World} {g o : Nat} {cs : List Value} (hb : Below w.heap.size w w') (h : w.rangeAt g o cs) : w'.rangeAt g o cs := fun j v hj => by
  have h1 := h j v hj
  have hlt := World.block_lt_of_cell? _ _ h1
  exact (World.cell?_of_block (hb.block g hlt)).trans h1
theorem Below.ofDrew {w w' : World} (h : Below w.drew.heap.size w.drew w') : Below w.heap.size w w' := ⟨h.os, h.tape, h.output, h.size, h.block⟩

/-! ### The book -/
/-- Its number; its lists' lists, by kind. -/
def BookAt (w : World) (TB : TypeId) (gb o n : Nat) (F : Nat → Value) : Prop :=
  ∃ cs, w.heap[gb]? = some (.cells cs TB (0, 0)) ∧ cs[o]? = some (.int .i64 n) ∧ ∀ i, i < 25 → cs[o + (i + 1)]? = some (F i)
section
variable {w w' : World} {TB : TypeId} {gb o n : Nat} {F : Nat → Value}
theorem BookAt.kept (h : BookAt w TB gb o n F) (hk : w'.heap[gb]? = w.heap[gb]?) : BookAt w' TB gb o n F := by
  obtain ⟨cs, h1, h2, h3⟩ := h
  exact ⟨cs, hk.trans h1, h2, h3⟩
theorem BookAt.below (h : BookAt w TB gb o n F) (hb : Below w.heap.size w w') : BookAt w' TB gb o n F := by
  obtain ⟨cs, h1, h2, h3⟩ := h
  exact ⟨cs, below_keep hb h1, h2, h3⟩
theorem BookAt.lt (h : BookAt w TB gb o n F) : gb < w.heap.size := by
  obtain ⟨cs, h1, _⟩ := h
  exact heap_lt h1
theorem BookAt.num (h : BookAt w TB gb o n F) : w.cell? ⟨gb, o, none⟩ = some (.int .i64 n) ∧ w.frozen? ⟨gb, o, none⟩ = false := by
  obtain ⟨cs, h1, h2, h3⟩ := h
  exact ⟨row_cell h1 o _ h2, free_row h1 o⟩
theorem BookAt.fld (h : BookAt w TB gb o n F) (i : Nat) (hi : i < 25) : w.cell? ⟨gb, o + (i + 1), none⟩ = some (F i) ∧ w.frozen? ⟨gb, o + (i + 1), none⟩ = false := by
  obtain ⟨cs, h1, h2, h3⟩ := h
  exact ⟨row_cell h1 _ _ (h3 i hi), free_row h1 _⟩
theorem BookAt.setN (h : BookAt w TB gb o n F) (m : Nat) : BookAt (w.setCell ⟨gb, o, none⟩ (.int .i64 m)) TB gb o m F := by
  obtain ⟨cs, h1, h2, h3⟩ := h
  have hl := (Array.getElem?_eq_some_iff.1 h2).1
  refine ⟨_, row_setCell h1 _ _, by simp [hl], fun i hi => ?_⟩
  rw [Array.getElem?_setIfInBounds_ne (by omega)]; exact h3 i hi
theorem BookAt.setF (h : BookAt w TB gb o n F) {i : Nat} (hi : i < 25) (v : Value) : BookAt (w.setCell ⟨gb, o + (i + 1), none⟩ v) TB gb o n (fun k => if k = i then v else F k) := by
  obtain ⟨cs, h1, h2, h3⟩ := h
  have hl := (Array.getElem?_eq_some_iff.1 (h3 i hi)).1
  refine ⟨_, row_setCell h1 _ _, by rw [Array.getElem?_setIfInBounds_ne (by omega)]; exact h2, fun k hk => ?_⟩
  by_cases e : k = i
  · subst e; simp [hl]
  · rw [Array.getElem?_setIfInBounds_ne (by omega)]
    show cs[o + (k + 1)]? = some (if k = i then v else F k)
    rw [if_neg e]; exact h3 k hk
/-- A block of another type than a lot's. -/
theorem BookAt.not (h : BookAt w TB gb o n F) {T TH : TypeId} {fv : Value} {ls : List HL} (hl : LotX T TH w fv ls) (h1 : TB ≠ T) (h2 : TB ≠ TH) : ¬ LotS fv ls gb := by
  obtain ⟨cs, h3, _⟩ := h
  exact hl.not h3 h1 h2
end

/-- One list more is held: what the append and the two stores leave. -/
theorem keep_lot {T TH TB : TypeId} {sz : Nat} {mk : Nat → List Value} {w w5 : World} {gb o n i len : Nat} {F : Nat → Value} {ls : List HL} {v fv2 : Value} {xs : List Value} (hbk : BookAt w TB gb o n F) (hi : i < 25) (hT1 : TB ≠ T) (hT2 : TB ≠ TH) (hl : LotA T TH sz mk w (F i) ls 0) (hls : ls.length + 1 ≤ 1073741824) (hn : n < 1099511627776) (hlen : len ≤ 4294967296)
    (hv : w.ownsRow 0 T sz v len xs) (hap : ∀ (j : Nat) (y : HL) (b : Nat), ls[j]? = some y → y.has b → v.ownBlock ≠ some b)
    (ho : w5.ownsRow 0 TH 3 fv2 (ls.length + 1) (lotV ls ++ [v, .slice none 0 0, .int .i64 ((n + 1 : Nat) : Int)])) (hg : ((w.setCell ⟨gb, o, none⟩ (.int .i64 ((n + 1 : Nat) : Int))).drew.alloc (.cells #[v, .slice none 0 0, .int .i64 ((n + 1 : Nat) : Int)] TH)).grownBy w5 (F i).ownBlock) :
    BookAt w5 TB gb o (n + 1) F ∧ BookAt (w5.setCell ⟨gb, o + (i + 1), none⟩ fv2) TB gb o (n + 1) (fun k => if k = i then fv2 else F k) ∧ LotA T TH sz mk (w5.setCell ⟨gb, o + (i + 1), none⟩ fv2) fv2 (ls ++ [⟨v, .slice none 0 0, n + 1, len⟩]) 0 ∧ Kp (fun b => b = gb ∨ (F i).ownBlock = some b) w (w5.setCell ⟨gb, o + (i + 1), none⟩ fv2) := by
  have hgb := hbk.lt
  have hb1 := hbk.setN (n + 1)
  have hfg : (F i).ownBlock ≠ some gb := fun e => (hbk.not hl.lot hT1 hT2) (.inl e)
  have far : ∀ b, b < w.heap.size → b ≠ gb → (F i).ownBlock ≠ some b → w5.heap[b]? = w.heap[b]? := fun b hb h1 h2 => by
    rw [hg.block b (by rw [alloc_size]; show b < (w.setCell _ _).heap.size + 1; rw [setCell_size]; omega) (fun e => h2 e.symm), Below.heap_alloc _ _ _ (by show b < (w.setCell _ _).heap.size; rw [setCell_size]; exact hb)]
    exact heap_setCell_ne h1
  have hb5 : BookAt w5 TB gb o (n + 1) F := hb1.kept (by
    rw [hg.block gb (by rw [alloc_size]; show gb < (w.setCell _ _).heap.size + 1; rw [setCell_size]; omega) (fun e => hfg e.symm), Below.heap_alloc _ _ _ (by show gb < (w.setCell _ _).heap.size; rw [setCell_size]; exact hgb)]
    rfl)
  have hvg : ∀ b, v.ownBlock = some b → b ≠ gb ∧ (F i).ownBlock ≠ some b ∧ b < w.heap.size := fun b hb => by
    obtain ⟨cs, h1⟩ := ownsRow_type hv hb
    refine ⟨fun e => ?_, fun e => ?_, heap_lt h1⟩
    · subst e
      obtain ⟨c2, h2, _⟩ := hbk
      rw [h1] at h2; cases h2; exact hT1 rfl
    · obtain ⟨c2, h2⟩ := ownsRow_type hl.lot.out e
      rw [h1] at h2; cases h2; exact hl.lot.ne rfl
  have hlg : ∀ (j : Nat) (y : HL) (b : Nat), ls[j]? = some y → y.has b → b ≠ gb ∧ (F i).ownBlock ≠ some b ∧ b < w.heap.size := fun j y b hy hb => by
    refine ⟨fun e => ?_, hl.lot.out_ne hy hb, hl.lot.lt (.inr ⟨j, y, hy, hb⟩)⟩
    subst e
    exact (hbk.not hl.lot hT1 hT2) (.inr ⟨j, y, hy, hb⟩)
  have far2 : ∀ b, b < w.heap.size → b ≠ gb → (F i).ownBlock ≠ some b → (w5.setCell ⟨gb, o + (i + 1), none⟩ fv2).heap[b]? = w.heap[b]? := fun b hb h1 h2 => (heap_setCell_ne h1).trans (far b hb h1 h2)
  have ho2 : (w5.setCell ⟨gb, o + (i + 1), none⟩ fv2).ownsRow 0 TH 3 fv2 (ls.length + 1) (lotV ls ++ [v, .slice none 0 0, .int .i64 ((n + 1 : Nat) : Int)]) := ownsRow_other ho fun b hb => heap_setCell_ne fun e => by
    subst e
    obtain ⟨c2, h2⟩ := ownsRow_type ho hb
    obtain ⟨c3, h3, _⟩ := hb5
    rw [h2] at h3; cases h3; exact hT2 rfl
  have hxh : ∀ b, (⟨v, .slice none 0 0, n + 1, len⟩ : HL).has b → v.ownBlock = some b := fun b hb => by
    rcases hb with hb | hb
    · exact hb
    · cases hb
  refine ⟨hb5, hb5.setF hi fv2, ⟨hl.lot.push (x := ⟨v, .slice none 0 0, n + 1, len⟩) ho2 (fun b hb => ?_) (fun j y b hy hb hx => hap j y b hy hb (hxh b hx)) (fun b hb => ownsRow_type hv (hxh b hb)) ⟨hn, hlen⟩ hls, fun j x hj => ?_, fun j x hj => ?_, hl.msz⟩, ?_⟩
  · rcases hb with ⟨j, y, hy, hb⟩ | hb
    · obtain ⟨h1, h2, h3⟩ := hlg j y b hy hb
      exact far2 b h3 h1 h2
    · obtain ⟨h1, h2, h3⟩ := hvg b (hxh b hb)
      exact far2 b h3 h1 h2
  · by_cases e : j < ls.length
    · rw [List.getElem?_append_left e] at hj
      obtain ⟨ys, h1, _⟩ := hl.each j x hj
      exact ⟨ys, ownsRow_other h1 fun b hb => by obtain ⟨h1, h2, h3⟩ := hlg j x b hj (.inl hb); exact far2 b h3 h1 h2, fun h => by omega⟩
    · rw [List.getElem?_append_right (by omega)] at hj
      obtain ⟨h1, h2⟩ := List.getElem?_eq_some_iff.1 hj
      simp at h1 h2
      subst h2
      exact ⟨xs, ownsRow_other hv fun b hb => by obtain ⟨h1, h2, h3⟩ := hvg b hb; exact far2 b h3 h1 h2, fun h => by omega⟩
  · by_cases e : j < ls.length
    · rw [List.getElem?_append_left e] at hj
      exact hl.un j x hj
    · rw [List.getElem?_append_right (by omega)] at hj
      obtain ⟨h1, h2⟩ := List.getElem?_eq_some_iff.1 hj
      simp at h1 h2
      subst h2
      rfl
  · have k1 : Kp (fun b => b = gb ∨ (F i).ownBlock = some b) w (w.setCell ⟨gb, o, none⟩ (.int .i64 ((n + 1 : Nat) : Int))) := (Kp.refl _ _).setCell (.inl (.inl rfl)) _ _
    exact ((k1.drew.alloc _).grown hg fun b hb => .inl (.inr hb)).setCell (.inl (.inl rfl)) _ _
theorem LotX.sep {T TH T2 TH2 : TypeId} {w : World} {fv fv2 : Value} {ls ls2 : List HL} (h : LotX T TH w fv ls) (h2 : LotX T2 TH2 w fv2 ls2) (a1 : T ≠ T2) (a2 : T ≠ TH2) (a3 : TH ≠ T2) (a4 : TH ≠ TH2) {b : Nat} (hb : LotS fv ls b) : ¬ LotS fv2 ls2 b := by
  obtain ⟨cs, h3 | h3⟩ := h.types hb
  · exact h2.not h3 a1 a2
  · exact h2.not h3 a3 a4
theorem LotA.empty {T TH : TypeId} {sz : Nat} {mk : Nat → List Value} (w : World) (h1 : T ≠ TH) (h2 : ∀ n, (mk n).length = sz) : LotA T TH sz mk w (.slice none 0 0) [] 0 :=
  ⟨⟨ownsRow_nil _ _ _ _, fun i j hi hj b _ h => by simp at h, fun j h b hj => by simp at hj, fun j h hj => by simp at hj, by simp, h1⟩, fun j h hj => by simp at hj, fun j h hj => by simp at hj, h2⟩
end Go.Proofs.Ytkaalppmheikgaa
