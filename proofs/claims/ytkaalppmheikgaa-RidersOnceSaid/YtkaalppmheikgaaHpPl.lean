/- A heap of ids by ticks and numbers, plain. -/
import Derived.Test.YtkaalppmheikgaaMapV
namespace Go.Proofs.Ytkaalppmheikgaa
open Go.RowKit

/-- An item: its key, its rank, the how-manieth it came. -/
structure It where
  key : Id8
  tick : Int
  num : Int
  came : Int
/-- Comes a rank ahead of another one? -/
def rkLt (a b : It) : Bool := decide (a.tick < b.tick ∨ (a.tick = b.tick ∧ a.num < b.num))
def itLt (a b : It) : Bool := rkLt a b || (!rkLt b a && decide (a.came < b.came))
theorem itLt_iff (a b : It) : itLt a b = true ↔ a.tick < b.tick ∨ (a.tick = b.tick ∧ (a.num < b.num ∨ (a.num = b.num ∧ a.came < b.came))) := by
  unfold itLt rkLt
  simp only [Bool.or_eq_true, Bool.and_eq_true, Bool.not_eq_true', decide_eq_true_eq, decide_eq_false_iff_not]
  omega
theorem itLt_asymm {a b : It} (h : itLt a b = true) : itLt b a = false := by
  have := (itLt_iff a b).1 h
  cases e : itLt b a
  · rfl
  · have := (itLt_iff b a).1 e; omega
theorem itLt_not {a b : It} : itLt a b = false ↔ ¬ (a.tick < b.tick ∨ (a.tick = b.tick ∧ (a.num < b.num ∨ (a.num = b.num ∧ a.came < b.came)))) := by
  rw [← itLt_iff]; simp
theorem itLe_trans {a b c : It} (h1 : itLt a b = false) (h2 : itLt b c = false) : itLt a c = false := by
  rw [itLt_not] at *; omega
/-- Two of a list changed over. -/
def swp (l : List It) (i j : Nat) : List It := match l[i]?, l[j]? with
  | some a, some b => (l.set i b).set j a
  | _, _ => l
theorem swp_len (l : List It) (i j : Nat) : (swp l i j).length = l.length := by unfold swp; split <;> simp
theorem swp_get {l : List It} {i j : Nat} {a b : It} (hi : l[i]? = some a) (hj : l[j]? = some b) (k : Nat) : (swp l i j)[k]? = if k = j then some a else if k = i then some b else l[k]? := by
  have h1 := (List.getElem?_eq_some_iff.1 hi).1
  have h2 := (List.getElem?_eq_some_iff.1 hj).1
  unfold swp
  rw [hi, hj]
  dsimp only
  rw [List.getElem?_set]
  by_cases e : j = k
  · subst e; rw [if_pos rfl, if_pos (by simpa using h2), if_pos rfl]
  · rw [if_neg e, if_neg (fun h => e h.symm), List.getElem?_set]
    by_cases e2 : i = k
    · subst e2; rw [if_pos rfl, if_pos h1, if_pos rfl]
    · rw [if_neg e2, if_neg (fun h => e2 h.symm)]
theorem swp_perm {l : List It} {i j : Nat} (hi : i < l.length) (hj : j < l.length) : (swp l i j).Perm l := by
  have h1 : l[i]? = some l[i] := List.getElem?_eq_getElem hi
  have h2 : l[j]? = some l[j] := List.getElem?_eq_getElem hj
  unfold swp
  rw [h1, h2]
  dsimp only
  exact List.set_set_perm hi hj
/-- The item at k does not come ahead of the one above it. -/
def okAt (l : List It) (k : Nat) : Prop := ∀ a b, 0 < k → l[k]? = some a → l[(k - 1) / 2]? = some b → itLt a b = false
def HeapOk (l : List It) : Prop := ∀ k, okAt l k
/-- All is well, but for the one at i: what is below it does not come ahead of what is above it. -/
structure HoleOk (l : List It) (i : Nat) : Prop where
  far : ∀ k, k ≠ i → (k - 1) / 2 ≠ i → okAt l k
  past : ∀ k a b, 0 < k → k ≠ i → (k - 1) / 2 = i → 0 < i → l[k]? = some a → l[(i - 1) / 2]? = some b → itLt a b = false
theorem heap_root {l : List It} (h : HeapOk l) {a : It} (h0 : l[0]? = some a) : ∀ (k : Nat) (b : It), l[k]? = some b → itLt b a = false := by
  intro k
  induction k using Nat.strongRecOn with
  | ind k ih =>
    intro b hb
    by_cases hk : k = 0
    · subst hk
      rw [h0] at hb; cases hb
      rw [itLt_not]; omega
    · have hlt : (k - 1) / 2 < k := by omega
      have hlen := (List.getElem?_eq_some_iff.1 hb).1
      have hp : l[(k - 1) / 2]? = some l[(k - 1) / 2] := List.getElem?_eq_getElem (by omega)
      exact itLe_trans (h k b _ (by omega) hb hp) (ih _ hlt _ hp)
/-- One step up. -/
theorem hole_up {l : List It} {i : Nat} (h : HoleOk l i) (hi : 0 < i) {a b : It} (ha : l[i]? = some a) (hb : l[(i - 1) / 2]? = some b) (_ : itLt a b = true) : HoleOk (swp l i ((i - 1) / 2)) ((i - 1) / 2) := by
  have hne : (i - 1) / 2 ≠ i := by omega
  have hbl := (List.getElem?_eq_some_iff.1 hb).1
  refine ⟨fun k h1 h2 => ?_, fun k x y hk h1 h2 hp hx hy => ?_⟩
  · intro x y hk hx hy
    rw [swp_get ha hb] at hx hy
    rw [if_neg h1] at hx
    rw [if_neg h2] at hy
    by_cases e : k = i
    · subst e; exact absurd rfl h2
    rw [if_neg e] at hx
    by_cases e2 : (k - 1) / 2 = i
    · rw [if_pos e2] at hy
      cases hy
      -- a child of i, now below what was above
      exact h.past k x b hk e e2 hi hx hb
    · rw [if_neg e2] at hy
      exact h.far k e e2 x y hk hx hy
  · rw [swp_get ha hb, if_neg h1] at hx
    rw [swp_get ha hb, if_neg (by omega), if_neg (by omega)] at hy
    have hpp := h.far ((i - 1) / 2) hne (by omega)
    by_cases e : k = i
    · subst e
      rw [if_pos rfl] at hx; cases hx
      exact hpp b y hp hb hy
    · rw [if_neg e] at hx
      have h3 := h.far k e (by omega) x b hk hx (by rw [h2]; exact hb)
      exact itLe_trans h3 (hpp b y hp hb hy)
/-- One step down: to the child c that comes ahead of it and of the other one. -/
theorem hole_down {l : List It} {i c : Nat} (h : HoleOk l i) (hok : okAt l i) (hc : c = 2 * i + 1 ∨ c = 2 * i + 2) {a b : It} (ha : l[i]? = some a) (hb : l[c]? = some b) (hlt : itLt b a = true)
    (hs : ∀ s x, (s = 2 * i + 1 ∨ s = 2 * i + 2) → l[s]? = some x → itLt x b = false) : HoleOk (swp l i c) c ∧ okAt (swp l i c) c := by
  have hci : (c - 1) / 2 = i := by omega
  have hne : c ≠ i := by omega
  refine ⟨⟨fun k h1 h2 => ?_, fun k x y hk h1 h2 hp hx hy => ?_⟩, fun x y hk hx hy => ?_⟩
  · intro x y hk hx hy
    rw [swp_get ha hb] at hx hy
    rw [if_neg h1] at hx
    rw [if_neg h2] at hy
    by_cases e : k = i
    · subst e
      rw [if_pos rfl] at hx; cases hx
      rw [if_neg (by omega)] at hy
      exact h.past c b y (by omega) hne hci hk hb hy
    rw [if_neg e] at hx
    by_cases e2 : (k - 1) / 2 = i
    · rw [if_pos e2] at hy; cases hy
      exact hs k x (by omega) hx
    · rw [if_neg e2] at hy
      exact h.far k e e2 x y hk hx hy
  · rw [hci] at hy
    rw [swp_get ha hb, if_neg h1] at hx
    rw [swp_get ha hb, if_neg (by omega), if_pos rfl] at hy
    cases hy
    rw [if_neg (by omega)] at hx
    exact h.far k (by omega) (by omega) x b hk hx (by rw [h2]; exact hb)
  · rw [hci] at hy
    rw [swp_get ha hb, if_pos rfl] at hx
    rw [swp_get ha hb, if_neg (by omega), if_pos rfl] at hy
    cases hx; cases hy
    exact itLt_asymm hlt
/-- Where no child comes ahead. -/
theorem hole_end {l : List It} {i : Nat} (h : HoleOk l i) (hok : okAt l i) {a : It} (ha : l[i]? = some a) (hs : ∀ s x, (s = 2 * i + 1 ∨ s = 2 * i + 2) → l[s]? = some x → itLt x a = false) : HeapOk l := by
  intro k x y hk hx hy
  by_cases e : k = i
  · subst e; exact hok x y hk hx hy
  by_cases e2 : (k - 1) / 2 = i
  · rw [e2, ha] at hy; cases hy
    exact hs k x (by omega) hx
  · exact h.far k e e2 x y hk hx hy
/-- An item changed, or put behind the others. -/
theorem hole_set {l : List It} (h : HeapOk l) (i : Nat) (x : It) : HoleOk (l.set i x) i := by
  refine ⟨fun k h1 h2 a b hk ha hb => ?_, fun k a b hk h1 h2 hp ha hb => ?_⟩
  · rw [List.getElem?_set_ne (fun e => h1 e.symm)] at ha
    rw [List.getElem?_set_ne (fun e => h2 e.symm)] at hb
    exact h k a b hk ha hb
  · rw [List.getElem?_set_ne (fun e => h1 e.symm)] at ha
    rw [List.getElem?_set_ne (by omega)] at hb
    have hlen := (List.getElem?_eq_some_iff.1 ha).1
    have hi : l[i]? = some l[i] := List.getElem?_eq_getElem (by omega)
    exact itLe_trans (h k a l[i] hk ha (by rw [h2]; exact hi)) (h i l[i] b hp hi hb)
theorem hole_app {l : List It} (h : HeapOk l) (x : It) : HoleOk (l ++ [x]) l.length := by
  refine ⟨fun k h1 h2 a b hk ha hb => ?_, fun k a b hk h1 h2 hp ha hb => ?_⟩
  · have hlen := (List.getElem?_eq_some_iff.1 ha).1
    rw [List.length_append, List.length_singleton] at hlen
    rw [List.getElem?_append_left (by omega)] at ha
    rw [List.getElem?_append_left (by omega)] at hb
    exact h k a b hk ha hb
  · have hlen := (List.getElem?_eq_some_iff.1 ha).1
    rw [List.length_append, List.length_singleton] at hlen
    omega
theorem heap_take {l : List It} (h : HeapOk l) (n : Nat) : HeapOk (l.take n) := by
  intro k a b hk ha hb
  rw [List.getElem?_take] at ha hb
  split at ha
  · split at hb
    · exact h k a b hk ha hb
    · cases hb
  · cases ha
theorem hole_take {l : List It} {i : Nat} (h : HoleOk l i) (n : Nat) : HoleOk (l.take n) i := by
  refine ⟨fun k h1 h2 a b hk ha hb => ?_, fun k a b hk h1 h2 hp ha hb => ?_⟩
  · rw [List.getElem?_take] at ha hb
    split at ha
    · split at hb
      · exact h.far k h1 h2 a b hk ha hb
      · cases hb
    · cases ha
  · rw [List.getElem?_take] at ha hb
    split at ha
    · split at hb
      · exact h.past k a b hk h1 h2 hp ha hb
      · cases hb
    · cases ha
/-- What the map of places says. -/
def AtOk (T : List (Id8 × Int)) (l : List It) : Prop := ∀ x (i : Int), lkp x T = some i ↔ ∃ (k : Nat) (a : It), i = k ∧ l[k]? = some a ∧ a.key = x
theorem AtOk.keys {T : List (Id8 × Int)} {l : List It} (h : AtOk T l) {i j : Nat} {a b : It} (hi : l[i]? = some a) (hj : l[j]? = some b) (e : a.key = b.key) : i = j := by
  have h1 := (h b.key i).2 ⟨i, a, rfl, hi, e⟩
  have h2 := (h b.key j).2 ⟨j, b, rfl, hj, rfl⟩
  rw [h1] at h2
  have := Option.some.inj h2
  omega
theorem AtOk.swp {T : List (Id8 × Int)} {l : List It} (h : AtOk T l) {i j : Nat} {a b : It} (hi : l[i]? = some a) (hj : l[j]? = some b) : AtOk (putM (putM T b.key i) a.key j) (swp l i j) := by
  intro x n
  rw [lkp_putM, lkp_putM]
  by_cases e1 : a.key = x
  · rw [if_pos e1]
    constructor
    · intro e; cases e
      exact ⟨j, a, rfl, by rw [swp_get hi hj, if_pos rfl], e1⟩
    · rintro ⟨k, c, rfl, hk, e2⟩
      rw [swp_get hi hj] at hk
      by_cases q : k = j
      · rw [q]
      · rw [if_neg q] at hk
        by_cases q2 : k = i
        · rw [if_pos q2] at hk; cases hk
          have := h.keys hi hj (e1.trans e2.symm)
          omega
        · rw [if_neg q2] at hk
          exact absurd (h.keys hi hk (e1.trans e2.symm)).symm q2
  · rw [if_neg e1]
    by_cases e2 : b.key = x
    · rw [if_pos e2]
      constructor
      · intro e; cases e
        by_cases q : i = j
        · subst q; rw [hi] at hj; cases hj; exact absurd e2 e1
        · exact ⟨i, b, rfl, by rw [swp_get hi hj, if_neg q, if_pos rfl], e2⟩
      · rintro ⟨k, c, rfl, hk, e3⟩
        rw [swp_get hi hj] at hk
        by_cases q : k = j
        · rw [if_pos q] at hk; cases hk; exact absurd e3 e1
        · rw [if_neg q] at hk
          by_cases q2 : k = i
          · rw [q2]
          · rw [if_neg q2] at hk
            exact absurd (h.keys hj hk (e2.trans e3.symm)).symm q
    · rw [if_neg e2, h]
      constructor
      · rintro ⟨k, c, rfl, hk, e3⟩
        refine ⟨k, c, rfl, ?_, e3⟩
        rw [swp_get hi hj, if_neg (fun q => e2 (by rw [q, hj] at hk; cases hk; exact e3)), if_neg (fun q => e1 (by rw [q, hi] at hk; cases hk; exact e3))]
        exact hk
      · rintro ⟨k, c, rfl, hk, e3⟩
        rw [swp_get hi hj] at hk
        by_cases q : k = j
        · rw [if_pos q] at hk; cases hk; exact absurd e3 e1
        · rw [if_neg q] at hk
          by_cases q2 : k = i
          · rw [if_pos q2] at hk; cases hk; exact absurd e3 e2
          · rw [if_neg q2] at hk; exact ⟨k, c, rfl, hk, e3⟩
theorem AtOk.app {T : List (Id8 × Int)} {l : List It} (h : AtOk T l) {x : It} (hx : lkp x.key T = none) : AtOk (putM T x.key l.length) (l ++ [x]) := by
  intro y n
  rw [lkp_putM]
  by_cases e : x.key = y
  · rw [if_pos e]
    constructor
    · intro e2; cases e2
      exact ⟨l.length, x, rfl, by simp, e⟩
    · rintro ⟨k, c, rfl, hk, e2⟩
      by_cases q : k < l.length
      · rw [List.getElem?_append_left q] at hk
        have := (h y k).2 ⟨k, c, rfl, hk, e2⟩
        rw [← e, hx] at this; cases this
      · have := (List.getElem?_eq_some_iff.1 hk).1
        rw [List.length_append, List.length_singleton] at this
        rw [show k = l.length by omega]
  · rw [if_neg e, h]
    constructor
    · rintro ⟨k, c, rfl, hk, e2⟩
      exact ⟨k, c, rfl, by rw [List.getElem?_append_left (List.getElem?_eq_some_iff.1 hk).1]; exact hk, e2⟩
    · rintro ⟨k, c, rfl, hk, e2⟩
      by_cases q : k < l.length
      · rw [List.getElem?_append_left q] at hk; exact ⟨k, c, rfl, hk, e2⟩
      · have h2 := (List.getElem?_eq_some_iff.1 hk).1
        rw [List.length_append, List.length_singleton] at h2
        rw [show k = l.length by omega, List.getElem?_append_right (Nat.le_refl _)] at hk
        simp at hk; subst hk; exact absurd e2 e
theorem lkp_delM {V : Type} (T : List (Id8 × V)) (x y : Id8) : lkp y (delM T x) = if x = y then none else lkp y T := by
  by_cases h : x = y
  · subst h
    rw [if_pos rfl, lkp_none, keys_delM]; simp
  · rw [if_neg h]
    have := lkp_putM (V := V) T x y
    unfold delM
    induction T with
    | nil => rfl
    | cons p T ih =>
      obtain ⟨z, u⟩ := p
      by_cases hz : z = x
      · subst hz
        rw [List.filter_cons_of_neg (by simp), ih (fun v => lkp_putM T z y v), lkp, if_neg h]
      · rw [List.filter_cons_of_pos (by simpa using hz), lkp, lkp, ih (fun v => lkp_putM T x y v)]
/-- The last one struck. -/
theorem AtOk.cut {T : List (Id8 × Int)} {l : List It} (h : AtOk T l) {x : It} (hx : l[l.length - 1]? = some x) : AtOk (delM T x.key) (l.take (l.length - 1)) := by
  have hpos := (List.getElem?_eq_some_iff.1 hx).1
  intro y n
  rw [lkp_delM]
  by_cases e : x.key = y
  · rw [if_pos e]
    constructor
    · intro h; cases h
    · rintro ⟨k, c, rfl, hk, e2⟩
      rw [List.getElem?_take] at hk
      split at hk
      · have := h.keys hk hx (e2.trans e.symm); omega
      · cases hk
  · rw [if_neg e, h]
    constructor
    · rintro ⟨k, c, rfl, hk, e2⟩
      refine ⟨k, c, rfl, ?_, e2⟩
      have hlt := (List.getElem?_eq_some_iff.1 hk).1
      rw [List.getElem?_take_of_lt]
      · exact hk
      · by_cases q : k = l.length - 1
        · rw [q, hx] at hk; cases hk; exact absurd e2 e
        · omega
    · rintro ⟨k, c, rfl, hk, e2⟩
      rw [List.getElem?_take] at hk
      split at hk
      · exact ⟨k, c, rfl, hk, e2⟩
      · cases hk
end Go.Proofs.Ytkaalppmheikgaa
