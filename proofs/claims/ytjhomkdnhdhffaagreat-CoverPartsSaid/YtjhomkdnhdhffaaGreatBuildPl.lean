/- What cover.build makes: by row its columns, in memory of their own; the pairs, row by row. -/
import Derived.Test.YtjhomkdnhdhffaaGreatPlaceW
import Derived.Test.YtjhomkdnhdhffaaGreatPartsW
import Derived.Test.YtjhomkdnhdhffaaGreatAltPl
namespace Go.Proofs.YtjhomkdnhdhffaaGreat
open Go.RowKit

def toOf (es : List Ed) : List (List Nat) := (List.range 64).map fun r => (es.filter fun x => x.r = ((r : Nat) : Int)).map fun x => x.c.toNat
/-- Lists, each in memory of its own. -/
structure Inn (w : World) (base : Nat) (vs : List Value) (L : List (List Nat)) : Prop where
  len : vs.length = L.length
  each : ∀ (i : Nat) l, L[i]? = some l → ∃ u, vs[i]? = some u ∧ w.ownsRow base 3 1 u l.length (intV (nats l))
  apart : ∀ (i j : Nat) u u' g, i ≠ j → vs[i]? = some u → vs[j]? = some u' → u.ownBlock = some g → u'.ownBlock ≠ some g

theorem Inn.keep {w w' : World} {base : Nat} {vs : List Value} {L : List (List Nat)} (h : Inn w base vs L)
    (hk : ∀ g cur, base ≤ g → w.heap[g]? = some (.cells cur 3 (0, 0)) → w'.heap[g]? = w.heap[g]?) : Inn w' base vs L := by
  refine ⟨h.len, fun i l hl => ?_, h.apart⟩
  obtain ⟨u, hu, ho⟩ := h.each i l hl
  refine ⟨u, hu, ownsRow_other ho fun g hg => ?_⟩
  obtain ⟨cur, hc⟩ := ownsRow_type ho hg
  exact hk g cur (ownsRow_block ho g hg) hc
theorem Inn.below {w w' : World} {base : Nat} {vs : List Value} {L : List (List Nat)} (h : Inn w base vs L) (hb : Below w.heap.size w w') : Inn w' base vs L :=
  h.keep fun g _ _ hc => hb.block g (heap_lt hc)
theorem Inn.same {w w' : World} {base : Nat} {vs : List Value} {L : List (List Nat)} (h : Inn w base vs L) (hh : w'.heap = w.heap) : Inn w' base vs L :=
  h.keep fun g _ _ _ => by rw [hh]
/-- A block of another type is written. -/
theorem Inn.setCell {w : World} {base : Nat} {vs : List Value} {L : List (List Nat)} (h : Inn w base vs L) {b : Nat} {cs : Array Value} {T : TypeId} {fr : Nat × Nat} (hb : w.heap[b]? = some (.cells cs T fr)) (h2 : T ≠ 3) (k : Nat) (u : Value) :
    Inn (w.setCell ⟨b, k, none⟩ u) base vs L :=
  h.keep fun _ _ _ hc => heap_setCell_ne (block_ne hc hb (Ne.symm h2))
/-- One list grows. -/
theorem Inn.grow {w w' : World} {base : Nat} {u u' : Value} {vs : List Value} {L : List (List Nat)} {l : List Nat} (h : Inn w base vs L) {i x : Nat} (hl : L[i]? = some l) (hu : vs[i]? = some u)
    (ho : w'.ownsRow base 3 1 u' (l.length + 1) (intV (nats l) ++ [.int .i64 x])) (hg : w.grownBy w' u.ownBlock) (hat : u'.ownBlock = u.ownBlock ∨ u'.ownBlock = some w.heap.size) :
    Inn w' base (vs.set i u') (L.set i (l ++ [x])) := by
  have hlen := h.len
  have hil : i < L.length := (List.getElem?_eq_some_iff.1 hl).1
  have hlt : ∀ (j : Nat) u2, vs[j]? = some u2 → ∀ g2, u2.ownBlock = some g2 → g2 < w.heap.size := by
    intro j u2 hj g2 hg2
    have hjl : j < L.length := by have := (List.getElem?_eq_some_iff.1 hj).1; omega
    obtain ⟨u3, hu3, ho3⟩ := h.each j _ (List.getElem?_eq_getElem hjl)
    rw [hj] at hu3; cases hu3
    exact ownsRow_lt ho3 hg2
  refine ⟨by simp [hlen], fun j l2 hl2 => ?_, fun a b x1 x2 g2 hab ha hb hx => ?_⟩
  · rw [List.getElem?_set] at hl2
    by_cases e : i = j
    · subst e
      rw [if_pos rfl, if_pos hil] at hl2
      cases hl2
      exact ⟨u', by rw [List.getElem?_set, if_pos rfl, if_pos (by omega)], by simpa [intV, nats] using ho⟩
    · rw [if_neg e] at hl2
      obtain ⟨u2, hu2, ho2⟩ := h.each j l2 hl2
      refine ⟨u2, by rw [List.getElem?_set, if_neg e]; exact hu2, ownsRow_other ho2 fun g2 hg2 => ?_⟩
      exact hg.block g2 (hlt j u2 hu2 g2 hg2) fun e2 => h.apart j i u2 u g2 (Ne.symm e) hu2 hu hg2 e2.symm
  · rw [List.getElem?_set] at ha hb
    by_cases e1 : i = a
    · subst e1
      rw [if_pos rfl, if_pos (by omega)] at ha
      cases ha
      rw [if_neg hab] at hb
      rcases hat with hat | hat
      · rw [hat] at hx; exact h.apart i b u x2 g2 hab hu hb hx
      · rw [hat] at hx; cases hx
        intro e; exact absurd (hlt b x2 hb _ e) (by omega)
    · rw [if_neg e1] at ha
      by_cases e2 : i = b
      · subst e2
        rw [if_pos rfl, if_pos (by omega)] at hb
        cases hb
        rcases hat with hat | hat
        · rw [hat]; exact h.apart a i x1 u g2 hab ha hu hx
        · rw [hat]; intro e; cases e; exact absurd (hlt a x1 ha _ hx) (by omega)
      · rw [if_neg e2] at hb
        exact h.apart a b x1 x2 g2 hab ha hb hx
theorem toOf_len (es : List Ed) : (toOf es).length = 64 := by simp [toOf]
theorem toOf_get (es : List Ed) {r : Nat} (hr : r < 64) : (toOf es)[r]? = some ((es.filter fun x => x.r = (r : Int)).map fun x => x.c.toNat) := by simp [toOf, hr]
theorem toOf_snoc (es : List Ed) (x : Ed) {r c : Nat} (hr : x.r = r) (hc : x.c = c) (hr64 : r < 64) : toOf (es ++ [x]) = (toOf es).set r (((es.filter fun x => x.r = (r : Int)).map fun x => x.c.toNat) ++ [c]) := by
  apply List.ext_getElem?
  intro i
  rw [List.getElem?_set, toOf_len]
  by_cases hi : i < 64
  · rw [toOf_get _ hi]
    by_cases e : r = i
    · subst e
      rw [if_pos rfl, if_pos hi, List.filter_append, List.map_append]
      simp [hr, hc]
    · rw [if_neg e, toOf_get _ hi, List.filter_append, List.map_append]
      have : ([x].filter fun x => decide (x.r = (i : Int))) = [] := by simp [hr]; omega
      rw [this]; simp
  · have h1 : (toOf (es ++ [x]))[i]? = none := by rw [List.getElem?_eq_none]; rw [toOf_len]; omega
    rw [h1]
    by_cases e : r = i
    · omega
    · rw [if_neg e]; symm; rw [List.getElem?_eq_none]; rw [toOf_len]; omega

/-! ### Of a graph that may be, each row's columns rise -/
def lexE (x y : Ed) : Prop := x.r < y.r ∨ x.r = y.r ∧ x.c < y.c
theorem lexE_of {x y : Ed} (h : ordBad x y = false) : lexE x y := by
  simp [ordBad] at h
  unfold lexE
  omega
theorem lexE_trans {x y z : Ed} (h : lexE x y) (k : lexE y z) : lexE x z := by unfold lexE at *; omega
theorem badFrom_rising {rows cols : Int} : ∀ (l : List Ed) (p : Ed), badFrom rows cols p l = false → (∀ y ∈ l, lexE p y) ∧ l.Pairwise lexE
  | [], _, _ => ⟨by simp, List.Pairwise.nil⟩
  | x :: l, p, h => by
    simp only [badFrom, Bool.or_eq_false_iff] at h
    obtain ⟨h1, h2⟩ := badFrom_rising l x h.2
    have hp := lexE_of h.1.2
    refine ⟨fun y hy => ?_, List.Pairwise.cons h1 h2⟩
    rcases List.mem_cons.1 hy with rfl | hy
    · exact hp
    · exact lexE_trans hp (h1 y hy)
theorem chk_rising {g : Gr} (h : chk g = true) : g.es.Pairwise lexE := by
  simp only [chk, Bool.not_eq_true', Bool.or_eq_false_iff] at h
  exact (badFrom_rising _ _ h.2).2
theorem rising_len : ∀ (l : List Nat) (a n : Nat), l.Pairwise (· < ·) → (∀ x ∈ l, a ≤ x ∧ x < n) → l.length ≤ n - a
  | [], _, _, _, _ => by simp
  | x :: l, a, n, hp, hb => by
    have h1 := hb x (by simp)
    have := rising_len l (x + 1) n (List.Pairwise.of_cons hp) (fun y hy => ⟨List.rel_of_pairwise_cons hp hy, (hb y (by simp [hy])).2⟩)
    simp only [List.length_cons]
    omega
theorem toOf_rising {g : Gr} (h : chk g = true) (k r : Nat) : ((g.es.take k).filter fun x => x.r = (r : Int)).map (fun x => x.c.toNat) |>.Pairwise (· < ·) := by
  have hp : (g.es.take k).Pairwise lexE := List.Pairwise.sublist (List.take_sublist _ _) (chk_rising h)
  rw [List.pairwise_map]
  refine List.Pairwise.imp_of_mem ?_ (List.Pairwise.filter (fun x => decide (x.r = (r : Int))) hp)
  intro x y hx hy hxy
  have mx := List.mem_filter.1 hx
  have my := List.mem_filter.1 hy
  have ex : x.r = r := by simpa using mx.2
  have ey : y.r = r := by simpa using my.2
  obtain ⟨r1, c1, _, e1, _⟩ := edge_ok h (List.mem_of_mem_take mx.1)
  obtain ⟨r2, c2, _, e2, _⟩ := edge_ok h (List.mem_of_mem_take my.1)
  unfold lexE at hxy
  show x.c.toNat < y.c.toNat
  omega
theorem toOf_cols {g : Gr} (h : chk g = true) (k r : Nat) : ∀ c ∈ ((g.es.take k).filter fun x => x.r = (r : Int)).map (fun x => x.c.toNat), c < 64 := by
  intro c hc
  obtain ⟨x, hx, rfl⟩ := List.mem_map.1 hc
  obtain ⟨r1, c1, _, e1, _, _, _, h64⟩ := edge_ok h (List.mem_of_mem_take (List.mem_filter.1 hx).1)
  rw [e1, Int.toNat_natCast]; exact h64
theorem toOf_short {g : Gr} (h : chk g = true) (k r : Nat) : (((g.es.take k).filter fun x => x.r = (r : Int)).map (fun x => x.c.toNat)).length ≤ 64 :=
  rising_len _ 0 64 (toOf_rising h k r) fun c hc => ⟨Nat.zero_le _, toOf_cols h k r c hc⟩
theorem toOf_ok {g : Gr} (h : chk g = true) : NetOk (toOf g.es) noMarks := by
  refine ⟨toOf_len _, fun r l hl => ?_, by simp [noMarks]⟩
  have hr : r < 64 := by have := (List.getElem?_eq_some_iff.1 hl).1; rwa [toOf_len] at this
  rw [toOf_get _ hr] at hl
  have e := Option.some.inj hl
  have h1 := toOf_cols h g.es.length r
  have h2 := toOf_short h g.es.length r
  rw [List.take_length] at h1 h2
  rw [← e]
  exact ⟨h1, h2⟩
end Go.Proofs.YtjhomkdnhdhffaaGreat
