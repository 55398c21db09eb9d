/- A list of lists of integers, each in memory of its own. -/
import Derived.Test.YtkaalppmheikgaaTab
import Derived.Maps.AppendAt
namespace Go.Proofs.Ytkaalppmheikgaa
open Go.RowKit

def intV (l : List Int) : List Value := l.map (Value.int .i64)
/-- The outer list's type of elements, the inner one's: TL, TI. -/
structure LLs (TL TI : TypeId) (w : World) (base : Nat) (v : Value) (vs : List Value) (L : List (List Int)) : Prop where
  out : w.ownsRow base TL 1 v L.length vs
  each : ∀ (i : Nat) l, L[i]? = some l → ∃ u, vs[i]? = some u ∧ w.ownsRow base TI 1 u l.length (intV l)
  apart : ∀ (i j : Nat) u u' g, i ≠ j → vs[i]? = some u → vs[j]? = some u' → u.ownBlock = some g → u'.ownBlock ≠ some g

theorem ownsRow_type {w : World} {base size n : Nat} {e : TypeId} {v : Value} {xs : List Value} (h : w.ownsRow base e size v n xs) {g : Nat} (hg : v.ownBlock = some g) : ∃ cur, w.heap[g]? = some (.cells cur e (0, 0)) := by
  obtain ⟨_, ⟨hv, _⟩ | ⟨g', cap, cur, hv, _, hh, _⟩⟩ := h
  · rw [hv] at hg; cases hg
  · rw [hv] at hg; cases hg; exact ⟨cur, hh⟩
theorem ownsRow_lt {w : World} {base size n : Nat} {e : TypeId} {v : Value} {xs : List Value} (h : w.ownsRow base e size v n xs) {g : Nat} (hg : v.ownBlock = some g) : g < w.heap.size := by
  obtain ⟨cur, hc⟩ := ownsRow_type h hg
  exact heap_lt hc
theorem ownsRow_other {w w' : World} {base size n : Nat} {e : TypeId} {v : Value} {xs : List Value} (h : w.ownsRow base e size v n xs) (hk : ∀ g, v.ownBlock = some g → w'.heap[g]? = w.heap[g]?) : w'.ownsRow base e size v n xs := by
  obtain ⟨h1, h2⟩ := h
  refine ⟨h1, ?_⟩
  rcases h2 with h2 | ⟨g, cap, cur, hv, hg, hh, r⟩
  · exact .inl h2
  · exact .inr ⟨g, cap, cur, hv, hg, by rw [hk g (by rw [hv]; rfl)]; exact hh, r⟩
theorem ownsRow_shape {w : World} {base n : Nat} {e : TypeId} {v : Value} {xs : List Value} {size : Nat} (h : w.ownsRow base e size v n xs) : ∃ a cap, v = .slice a n cap := by
  obtain ⟨_, ⟨hv, hn⟩ | ⟨g', cap, cur, hv, _⟩⟩ := h
  · exact ⟨none, 0, by rw [hv, hn]⟩
  · exact ⟨_, _, hv⟩
theorem ownsRow_nil (w : World) (base : Nat) (e : TypeId) (size : Nat) : w.ownsRow base e size (.slice none 0 0) 0 [] := ⟨by simp, .inl ⟨rfl, rfl⟩⟩
theorem ownsRow_len {w : World} {base n : Nat} {e : TypeId} {v : Value} {xs : List Value} (h : w.ownsRow base e 1 v n xs) : xs.length = n := by simpa using h.1
theorem ownBlock_setCell_ne {w : World} {a : Addr} {u : Value} {g : Nat} (h : g ≠ a.block) : (w.setCell a u).heap[g]? = w.heap[g]? := Below.heap_setCell w a u g h

theorem row_apart {w : World} {g : Nat} {cs : Array Value} {T : TypeId} {fr : Nat × Nat} (ht : w.heap[g]? = some (.cells cs T fr)) {base size n : Nat} {e : TypeId} {v : Value} {xs : List Value} (ho : w.ownsRow base e size v n xs) (hne : T ≠ e) : some g ≠ v.ownBlock := by
  intro h
  obtain ⟨cur, hc⟩ := ownsRow_type ho h.symm
  rw [hc] at ht; cases ht; exact hne rfl
section
variable {TL TI : TypeId}
theorem LLs.nil (w : World) (base : Nat) : LLs TL TI w base (.slice none 0 0) [] [] :=
  ⟨ownsRow_nil _ _ _ _, fun i l h => by simp at h, fun i j u u' g _ h => by simp at h⟩
theorem LLs.keep {w w' : World} {base : Nat} {v : Value} {vs : List Value} {L : List (List Int)} (h : LLs TL TI w base v vs L)
    (hk : ∀ g cur e, base ≤ g → (e = TL ∨ e = TI) → w.heap[g]? = some (.cells cur e (0, 0)) → w'.heap[g]? = w.heap[g]?) : LLs TL TI w' base v vs L := by
  refine ⟨ownsRow_other h.out fun g hg => ?_, fun i l hl => ?_, h.apart⟩
  · obtain ⟨cur, hc⟩ := ownsRow_type h.out hg
    exact hk g cur _ (ownsRow_block h.out g hg) (.inl rfl) hc
  · obtain ⟨u, hu, ho⟩ := h.each i l hl
    refine ⟨u, hu, ownsRow_other ho fun g hg => ?_⟩
    obtain ⟨cur, hc⟩ := ownsRow_type ho hg
    exact hk g cur _ (ownsRow_block ho g hg) (.inr rfl) hc
theorem LLs.below {w w' : World} {base : Nat} {v : Value} {vs : List Value} {L : List (List Int)} (h : LLs TL TI w base v vs L) (hb : Below w.heap.size w w') : LLs TL TI w' base v vs L :=
  h.keep fun g _ _ _ _ hc => hb.block g (heap_lt hc)
theorem LLs.same {w w' : World} {base : Nat} {v : Value} {vs : List Value} {L : List (List Int)} (h : LLs TL TI w base v vs L) (hh : w'.heap = w.heap) : LLs TL TI w' base v vs L :=
  h.keep fun g _ _ _ _ _ => by rw [hh]
theorem LLs.alloc {w : World} {base : Nat} {v : Value} {vs : List Value} {L : List (List Int)} (h : LLs TL TI w base v vs L) (o : Obj) : LLs TL TI (w.alloc o) base v vs L :=
  h.below ((Below.refl _ _).alloc (Nat.le_refl _) _)
/-- A block of another type is written. -/
theorem LLs.setCell {w : World} {base : Nat} {v : Value} {vs : List Value} {L : List (List Int)} (h : LLs TL TI w base v vs L) {b : Nat} {cs : Array Value} {T : TypeId} {fr : Nat × Nat} (hb : w.heap[b]? = some (.cells cs T fr)) (h1 : T ≠ TL) (h2 : T ≠ TI) (k : Nat) (u : Value) :
    LLs TL TI (w.setCell ⟨b, k, none⟩ u) base v vs L :=
  h.keep fun g cur e _ he hc => heap_setCell_ne (fun e2 => by
    subst e2
    rw [hc] at hb
    cases hb
    rcases he with rfl | rfl
    · exact h1 rfl
    · exact h2 rfl)
theorem LLs.length {w : World} {base : Nat} {v : Value} {vs : List Value} {L : List (List Int)} (h : LLs TL TI w base v vs L) : vs.length = L.length := ownsRow_len h.out
/-- The outer list has one element more, an empty list. -/
theorem LLs.push {w w' : World} {base : Nat} {v v' : Value} {vs : List Value} {L : List (List Int)} (h : LLs TL TI w base v vs L) (hne : TL ≠ TI) (ho : w'.ownsRow base TL 1 v' (L.length + 1) (vs ++ [.slice none 0 0])) (hg : w.grownBy w' v.ownBlock) :
    LLs TL TI w' base v' (vs ++ [.slice none 0 0]) (L ++ [[]]) := by
  have hlen := h.length
  refine ⟨by simpa using ho, fun i l hl => ?_, fun i j u u' g hij hi hj hu => ?_⟩
  · rw [List.getElem?_append] at hl
    split at hl
    · rename_i hlt
      obtain ⟨u, hu, hown⟩ := h.each i l hl
      refine ⟨u, by rw [List.getElem?_append_left (by omega)]; exact hu, ownsRow_other hown fun g hgu => ?_⟩
      obtain ⟨cur, hc⟩ := ownsRow_type hown hgu
      refine hg.block g (heap_lt hc) fun e => ?_
      obtain ⟨cur', hc'⟩ := ownsRow_type h.out e.symm
      rw [hc] at hc'
      cases hc'
      exact hne rfl
    · rename_i hlt
      have hi : i = L.length := by
        have := (List.getElem?_eq_some_iff.1 hl).1
        simp at this; omega
      subst hi
      simp at hl
      subst hl
      exact ⟨.slice none 0 0, by rw [List.getElem?_append_right (by omega)]; simp [hlen], ownsRow_nil _ _ _ _⟩
  · rw [List.getElem?_append] at hi hj
    split at hi
    · split at hj
      · exact h.apart i j u u' g hij hi hj hu
      · have e : u' = .slice none 0 0 := by
          have := List.mem_of_getElem? hj
          simpa using this
        rw [e]; intro h; cases h
    · have e : u = .slice none 0 0 := by
        have := List.mem_of_getElem? hi
        simpa using this
      rw [e] at hu; cases hu
/-- One inner list grows: the append, and the store of what it made. -/
theorem LLs.grow {w w' : World} {base : Nat} {v u u' : Value} {vs : List Value} {L : List (List Int)} {l : List Int} (h : LLs TL TI w base v vs L) (hne : TL ≠ TI) {i : Nat} {x : Int} (hl : L[i]? = some l) (hu : vs[i]? = some u)
    (ho : w'.ownsRow base TI 1 u' (l.length + 1) (intV l ++ [.int .i64 x])) (hg : w.grownBy w' u.ownBlock) (hat : u'.ownBlock = u.ownBlock ∨ u'.ownBlock = some w.heap.size) {g cap : Nat} (hv : v = .slice (some ⟨g, 0, none⟩) L.length cap) :
    LLs TL TI (w'.setCell ⟨g, i, none⟩ u') base v (vs.set i u') (L.set i (l ++ [x])) := by
  have hlen := h.length
  have hil : i < L.length := (List.getElem?_eq_some_iff.1 hl).1
  have hgo : v.ownBlock = some g := by rw [hv]; rfl
  obtain ⟨curv, hcv⟩ := ownsRow_type h.out hgo
  have hou : w.ownsRow base TI 1 u l.length (intV l) := by
    obtain ⟨u2, h1, h2⟩ := h.each i l hl
    rw [hu] at h1; cases h1; exact h2
  have hgv : w'.heap[g]? = w.heap[g]? := by
    refine hg.block g (heap_lt hcv) fun e => ?_
    obtain ⟨c2, hc2⟩ := ownsRow_type hou e.symm
    rw [hcv] at hc2; cases hc2; exact hne rfl
  have hun : u'.ownBlock ≠ some g := by
    intro e
    obtain ⟨c2, hc2⟩ := ownsRow_type ho e
    rw [hgv, hcv] at hc2; cases hc2; exact hne rfl
  -- the other inner lists' blocks
  have hoth : ∀ (j : Nat) u2 l2, j ≠ i → L[j]? = some l2 → vs[j]? = some u2 → w.ownsRow base TI 1 u2 l2.length (intV l2) → ∀ g2, u2.ownBlock = some g2 → w'.heap[g2]? = w.heap[g2]? ∧ g2 ≠ g := by
    intro j u2 l2 hj hl2 hu2 ho2 g2 hg2
    obtain ⟨c2, hc2⟩ := ownsRow_type ho2 hg2
    refine ⟨hg.block g2 (heap_lt hc2) fun e => ?_, fun e => ?_⟩
    · exact h.apart j i u2 u g2 hj hu2 hu hg2 e.symm
    · subst e; rw [hcv] at hc2; cases hc2; exact hne rfl
  refine ⟨?_, fun j l2 hl2 => ?_, fun a b x1 x2 g2 hab ha hb hx => ?_⟩
  · obtain ⟨h1, h2⟩ := h.out
    refine ⟨by simp at h1 ⊢; omega, .inr ?_⟩
    rcases h2 with ⟨hv2, _⟩ | ⟨g', cap', cur, hv2, hb, hh, hn, hcap, hsz, htk⟩
    · rw [hv] at hv2; cases hv2
    · rw [hv] at hv2
      cases hv2
      refine ⟨g, cap, cur.setIfInBounds i u', by rw [hv]; simp, hb, row_setCell (by rw [hgv]; exact hh) _ _, by simpa using hn, hcap, by simpa using hsz, ?_⟩
      simp only [List.length_set, Nat.mul_one] at htk ⊢
      rw [← htk]
      apply List.ext_getElem?
      intro q
      simp only [List.getElem?_take, List.getElem?_set, List.length_take, Array.toList_setIfInBounds, List.length_take]
      by_cases hq : q < L.length
      · simp only [if_pos hq]
        by_cases e : i = q
        · subst e
          have : i < cur.size := by rw [hsz]; omega
          simp [this]; omega
        · simp [e]
      · simp only [if_neg hq]
        by_cases e : i = q
        · omega
        · simp [e]
  · rw [List.getElem?_set] at hl2
    by_cases e : i = j
    · subst e
      rw [if_pos rfl, if_pos hil] at hl2
      cases hl2
      refine ⟨u', by rw [List.getElem?_set, if_pos rfl, if_pos (by omega)], ?_⟩
      refine ownsRow_other (w := w') (by simpa [intV] using ho) fun g2 hg2 => heap_setCell_ne fun e => ?_
      rw [e] at hg2; exact hun hg2
    · rw [if_neg e] at hl2
      obtain ⟨u2, hu2, ho2⟩ := h.each j l2 hl2
      refine ⟨u2, by rw [List.getElem?_set, if_neg e]; exact hu2, ownsRow_other ho2 fun g2 hg2 => ?_⟩
      obtain ⟨h1, h2⟩ := hoth j u2 l2 (Ne.symm e) hl2 hu2 ho2 g2 hg2
      rw [heap_setCell_ne h2, h1]
  · have hlt : ∀ (j : Nat) u2, vs[j]? = some u2 → ∀ g2, u2.ownBlock = some g2 → g2 < w.heap.size := by
      intro j u2 hj g2 hg2
      have hjl : j < L.length := by have := (List.getElem?_eq_some_iff.1 hj).1; omega
      obtain ⟨u3, hu3, ho3⟩ := h.each j _ (List.getElem?_eq_getElem hjl)
      rw [hj] at hu3; cases hu3
      exact ownsRow_lt ho3 hg2
    rw [List.getElem?_set] at ha hb
    by_cases e1 : i = a
    · subst e1
      rw [if_pos rfl, if_pos (by omega)] at ha
      cases ha
      rw [if_neg hab] at hb
      rcases hat with hat | hat
      · rw [hat] at hx; exact h.apart i b u x2 g2 hab hu hb hx
      · rw [hat] at hx; cases hx
        intro e; exact absurd (hlt b x2 hb _ e) (by omega)
    · rw [if_neg e1] at ha
      by_cases e2 : i = b
      · subst e2
        rw [if_pos rfl, if_pos (by omega)] at hb
        cases hb
        rcases hat with hat | hat
        · rw [hat]; exact h.apart a i x1 u g2 hab ha hu hx
        · rw [hat]; intro e; cases e; exact absurd (hlt a x1 ha _ hx) (by omega)
      · rw [if_neg e2] at hb
        exact h.apart a b x1 x2 g2 hab ha hb hx
end
end Go.Proofs.Ytkaalppmheikgaa
