/- Between the walks' lists and those of the small functions; what the small functions answer where it is asked. -/
import Derived.Test.YtjhomkdnhdhffaaCoverW
import Derived.Test.YtjhomkdnhdhffaaTwinW
import Derived.Test.YtjhomkdnhdhffaaHpHangs
namespace Go.Proofs.Ytjhomkdnhdhffaa.PCoverHangs
open Go.RowKit Go.Proofs.Ytjhomkdnhdhffaa Go.Proofs.YtjhomkdnhdhffaaW.PrintWords Go.Proofs.YtjhomkdnhdhffaaW.PrintLast Go.Proofs.YtjhomkdnhdhffaaW.PrintMore

abbrev SE : Type := S40
abbrev SP : Type := S42
abbrev kE : Kd SE := k40
abbrev kP : Kd SP := k42
abbrev kL : Kd (List Int) := Kd.slice 3 (Kd.int .i64)
def toS (e : Ed) : SE := ⟨e.r, e.c, e.w⟩
def ofS (s : SE) : Ed := ⟨s.f0, s.f1, s.f2⟩
def toP (p : Nat × Nat) : SP := ⟨p.1, p.2⟩
theorem add_at (g o n : Nat) : (⟨g, o, none⟩ : Addr).add n = ⟨g, o + n, none⟩ := by unfold Addr.add; split <;> simp_all

theorem C_of_rows {w : World} {a : Option Addr} {es : List Ed} (h : RowsAt 3 edV w a es) (hl : es.length ≤ 9223372036854775807) : Kd.C kE w a (es.map toS).length (es.map toS) := by
  refine ⟨rfl, by simpa using hl, fun hpos => ?_⟩
  rcases h with rfl | ⟨g, o, rfl, hg, hr⟩
  · simp at hpos
  · refine ⟨_, rfl, fun j p hj => ?_⟩
    rw [List.getElem?_map] at hj
    obtain ⟨x, hx, rfl⟩ := Option.map_eq_some_iff.1 hj
    refine ⟨[.int .i64 x.r, .int .i64 x.c, .int .i64 x.w], rfl, k40_mk w (toS x), fun i u hi => ?_⟩
    rw [add_at]
    have := hr j x hx i u (by simpa [edV] using hi)
    rw [show o + (j * kE.sz + i) = o + 3 * j + i by rw [show kE.sz = 3 from rfl]; omega]
    exact this
theorem rows_of_C {w : World} {a : Option Addr} {n : Nat} {xs : List SE} (h : Kd.C kE w a n xs) : RowsAt 3 edV w a (xs.map ofS) := by
  obtain ⟨h1, h2, h3⟩ := h
  cases xs with
  | nil => exact .inl rfl
  | cons x xs =>
    obtain ⟨ad, rfl, hc⟩ := h3 (by rw [← h1]; simp)
    have key : ∀ (j : Nat) p, (x :: xs)[j]? = some p → ∀ (i : Nat) u, (edV (ofS p))[i]? = some u → w.cell? (ad.add (j * 3 + i)) = some u := by
      intro j p hj i u hi
      obtain ⟨c, hc1, hc2, hc3⟩ := hc j p hj
      obtain rfl := k40_open hc2
      exact hc3 i u (by simpa [edV, ofS] using hi)
    obtain ⟨g, o, spot⟩ := ad
    have h0 := key 0 x rfl 0 _ rfl
    have hspot : spot = none := by simpa [Addr.add] using World.cell?_spot h0
    subst hspot
    refine .inr ⟨g, o, rfl, ?_, fun i p hi j v hj => ?_⟩
    · rw [add_at] at h0; exact cell_lt h0
    · rw [List.getElem?_map] at hi
      obtain ⟨q, hq, rfl⟩ := Option.map_eq_some_iff.1 hi
      have := key i q hq j v hj
      rw [add_at] at this
      rw [show o + 3 * i + j = o + (i * 3 + j) by omega]; exact this
theorem C_ints {w : World} {base : Nat} {v : Value} {l : List Int} (h : w.ownsRow base 3 1 v l.length (intV l)) : ∃ A c, v = .slice A l.length c ∧ l.length ≤ c ∧ Kd.C (Kd.int .i64) w A l.length l := by
  have ho : OwnRow ((Kd.int .i64).K w) 3 1 w base v l := ⟨intV l, h, by simp [intV], fun j p hj => by
    obtain ⟨hlt, rfl⟩ := List.getElem?_eq_some_iff.1 hj
    show ((intV l).drop (j * 1)).take 1 = [Value.int .i64 l[j]]
    rw [Nat.mul_one, List.drop_eq_getElem_cons (by simpa [intV] using hlt)]
    simp [intV]⟩
  exact OwnRow.reads ho
theorem C_pairs {w : World} {base : Nat} {v : Value} {l : List (Nat × Nat)} (h : w.ownsRow base 42 2 v l.length (pairV l)) : ∃ A c, v = .slice A (l.map toP).length c ∧ (l.map toP).length ≤ c ∧ Kd.C kP w A (l.map toP).length (l.map toP) := by
  have key : ∀ (l : List (Nat × Nat)) (j : Nat) p, l[j]? = some p → ((pairV l).drop (j * 2)).take 2 = [.int .i64 p.1, .int .i64 p.2] := by
    intro l
    induction l with
    | nil => intro j p hj; simp at hj
    | cons a l ih =>
      intro j p hj
      cases j with
      | zero => simp at hj; subst hj; simp [pairV]
      | succ j =>
        have := ih j p (by simpa using hj)
        rw [← this]
        show (((pairV (a :: l)).drop ((j + 1) * 2)).take 2) = _
        rw [show (j + 1) * 2 = j * 2 + 2 by omega, ← List.drop_drop]
        have e : (pairV (a :: l)).drop (j * 2 + 2) = (pairV l).drop (j * 2) := by
          rw [Nat.add_comm, ← List.drop_drop]; rfl
        rw [List.drop_drop, e]
  have ho : OwnRow (kP.K w) 42 2 w base v (l.map toP) := ⟨pairV l, by rw [List.length_map]; exact h, by rw [List.length_map]; exact pairV_len l, fun j p hj => by
    rw [List.getElem?_map] at hj
    obtain ⟨x, hx, rfl⟩ := Option.map_eq_some_iff.1 hj
    rw [key l j x hx]
    exact k42_mk w (toP x)⟩
  exact OwnRow.reads ho
theorem C_lists {w : World} {base : Nat} {v : Value} {vs : List Value} {L : List (List Int)} (h : LLs 34 3 w base v vs L) : ∃ A c, v = .slice A L.length c ∧ L.length ≤ c ∧ Kd.C kL w A L.length L := by
  have ho : OwnRow (kL.K w) 34 1 w base v L := ⟨vs, h.out, by have := h.length; omega, fun j p hj => by
    obtain ⟨u, hu, hou⟩ := h.each j p hj
    obtain ⟨hlt, rfl⟩ := List.getElem?_eq_some_iff.1 hu
    obtain ⟨A, c, h1, h2, h3⟩ := C_ints hou
    rw [Nat.mul_one, List.drop_eq_getElem_cons hlt]
    exact ⟨A, c, by simp [h1], h2, h3⟩⟩
  exact OwnRow.reads ho
theorem C_pairs' {w : World} {base : Nat} {v : Value} {l : List (Nat × Nat)} {L : List SP} (h : w.ownsRow base 42 2 v l.length (pairV l)) (e : L = l.map toP) : ∃ A c, v = .slice A L.length c ∧ L.length ≤ c ∧ Kd.C kP w A L.length L := by
  rw [e]; exact C_pairs h
theorem C_nats' {w : World} {base : Nat} {v : Value} {l : List Nat} {L : List Int} (h : w.ownsRow base 3 1 v l.length (intV (nats l))) (e : L = nats l) : ∃ A c, v = .slice A L.length c ∧ L.length ≤ c ∧ Kd.C (Kd.int .i64) w A L.length L := by
  rw [e]; rw [← nats_len] at h; exact C_ints h
theorem C_lists' {w : World} {base : Nat} {v : Value} {vs : List Value} {K L : List (List Int)} (h : LLs 34 3 w base v vs K) (e : L = K) : ∃ A c, v = .slice A L.length c ∧ L.length ≤ c ∧ Kd.C kL w A L.length L := by
  rw [e]; exact C_lists h
/-- A list that was written out. -/
theorem C_new_ints (w : World) (l : List Int) (hl : l.length ≤ 9223372036854775807) : Kd.C (Kd.int .i64) (w.alloc (.cells (intV l).toArray 3)) (some ⟨w.heap.size, 0, none⟩) l.length l := by
  refine ⟨rfl, hl, fun _ => ⟨_, rfl, fun j p hj => ⟨[.int .i64 p], rfl, rfl, fun i u hi => ?_⟩⟩⟩
  obtain rfl : i = 0 := by have := (List.getElem?_eq_some_iff.1 hi).1; simp at this; omega
  obtain rfl : Value.int .i64 p = u := by simpa using hi
  rw [add_at]
  show (w.alloc _).cell? ⟨w.heap.size, 0 + (j * 1 + 0), none⟩ = _
  rw [Nat.mul_one, Nat.add_zero, Nat.zero_add]
  exact row_cell (heap_alloc_new _ _) j _ (by simp [intV, hj])

theorem pairV_at : ∀ (l : List (Nat × Nat)) (j : Nat) p, l[j]? = some p → (pairV l)[j * 2]? = some (.int .i64 p.1) ∧ (pairV l)[j * 2 + 1]? = some (.int .i64 p.2)
  | [], j, p, h => by simp at h
  | a :: l, 0, p, h => by simp at h; subst h; exact ⟨rfl, rfl⟩
  | a :: l, j + 1, p, h => by
    obtain ⟨h1, h2⟩ := pairV_at l j p (by simpa using h)
    rw [show (j + 1) * 2 = j * 2 + 1 + 1 by omega]
    exact ⟨h1, h2⟩
theorem C_new_pairs (w : World) (l : List (Nat × Nat)) (hl : l.length ≤ 9223372036854775807) : Kd.C kP (w.alloc (.cells (pairV l).toArray 42)) (some ⟨w.heap.size, 0, none⟩) (l.map toP).length (l.map toP) := by
  refine ⟨rfl, by simpa using hl, fun _ => ⟨_, rfl, fun j p hj => ?_⟩⟩
  rw [List.getElem?_map] at hj
  obtain ⟨x, hx, rfl⟩ := Option.map_eq_some_iff.1 hj
  refine ⟨[.int .i64 x.1, .int .i64 x.2], rfl, k42_mk _ (toP x), fun i u hi => ?_⟩
  obtain ⟨h1, h2⟩ := pairV_at l j x hx
  rw [add_at]
  refine row_cell (heap_alloc_new _ _) _ _ ?_
  rw [List.getElem?_toArray, show 0 + (j * kP.sz + i) = j * 2 + i by rw [show kP.sz = 2 from rfl]; omega]
  match i, hi with
  | 0, hi => rw [Nat.add_zero, h1]; simpa using hi
  | 1, hi => rw [h2]; simpa using hi
/-- A list of lists that was written out: one inner list. -/
theorem C_new_lists (w : World) (l : List Int) (hl : l.length ≤ 9223372036854775807) :
    Kd.C kL ((w.alloc (.cells (intV l).toArray 3)).alloc (.cells #[.slice (some ⟨w.heap.size, 0, none⟩) l.length l.length] 34)) (some ⟨w.heap.size + 1, 0, none⟩) 1 [l] := by
  refine ⟨rfl, by decide, fun _ => ⟨_, rfl, fun j p hj => ?_⟩⟩
  obtain rfl : j = 0 := by have := (List.getElem?_eq_some_iff.1 hj).1; simp at this; omega
  obtain rfl : l = p := by simpa using hj
  refine ⟨[.slice (some ⟨w.heap.size, 0, none⟩) l.length l.length], rfl, ⟨_, _, rfl, Nat.le_refl _, ?_⟩, fun i u hi => ?_⟩
  · exact Kd.C_below (C_new_ints w l hl) ((Below.refl _ _).alloc (Nat.le_refl _) _)
  · obtain rfl : i = 0 := by have := (List.getElem?_eq_some_iff.1 hi).1; simp at this; omega
    obtain rfl : Value.slice (some ⟨w.heap.size, 0, none⟩) l.length l.length = u := by simpa using hi
    rw [add_at]
    exact row_cell (heap_2 _ _ _) _ _ rfl

/-! ### Answers -/
theorem wrap_succ {i : Int} (h0 : 0 ≤ i) (h : i < 4611686018427387904) : wrap64 (i + 1) = i + 1 := by unfold wrap64; omega
theorem sameInts_self (l : List Int) (hl : l.length ≤ 4611686018427387904) : cabstandlaw01_SameInts.f (l.length + 1) l l = some true := by
  have key : ∀ (d k : Nat) (i : Int), 0 ≤ i → i ≤ l.length → (l.length : Int) - i = d → d < k → cabstandlaw01_SameInts.l0 k l l i = some true := by
    intro d
    induction d with
    | zero =>
      intro k i h0 h1 hd hk
      obtain ⟨k, rfl⟩ : ∃ m, k = m + 1 := ⟨k - 1, by omega⟩
      simp only [cabstandlaw01_SameInts.l0]
      rw [if_neg (by omega)]
    | succ d ih =>
      intro k i h0 h1 hd hk
      obtain ⟨k, rfl⟩ : ∃ m, k = m + 1 := ⟨k - 1, by omega⟩
      simp only [cabstandlaw01_SameInts.l0]
      rw [if_pos (by omega), if_pos h0, if_pos (by omega), if_pos trivial, wrap_succ h0 (by omega)]
      exact ih k (i + 1) (by omega) (by omega) (by omega) (by omega)
  unfold cabstandlaw01_SameInts.f
  rw [if_pos rfl]
  exact key l.length _ 0 (by omega) (by omega) (by omega) (by omega)
theorem samePairs_self (l : List SP) (hl : l.length ≤ 4611686018427387904) : cabstandlaw01_SamePairs.f (l.length + 1) l l = some true := by
  have key : ∀ (d k : Nat) (i : Int), 0 ≤ i → i ≤ l.length → (l.length : Int) - i = d → d < k → cabstandlaw01_SamePairs.l0 k l l i = some true := by
    intro d
    induction d with
    | zero =>
      intro k i h0 h1 hd hk
      obtain ⟨k, rfl⟩ : ∃ m, k = m + 1 := ⟨k - 1, by omega⟩
      simp only [cabstandlaw01_SamePairs.l0]
      rw [if_neg (by omega)]
    | succ d ih =>
      intro k i h0 h1 hd hk
      obtain ⟨k, rfl⟩ : ∃ m, k = m + 1 := ⟨k - 1, by omega⟩
      simp only [cabstandlaw01_SamePairs.l0]
      rw [if_pos (by omega), if_pos h0, if_pos (by omega), if_neg (by simp), wrap_succ h0 (by omega)]
      exact ih k (i + 1) (by omega) (by omega) (by omega) (by omega)
  unfold cabstandlaw01_SamePairs.f
  rw [if_pos rfl]
  exact key l.length _ 0 (by omega) (by omega) (by omega) (by omega)
theorem sameIntLists_self (l : List (List Int)) (n : Nat) (hl : l.length ≤ n) (hn : n ≤ 4611686018427387904) (hi : ∀ x ∈ l, x.length ≤ n) : cabstandlaw01_SameIntLists.f (2 * n + 2) l l = some true := by
  have inner : ∀ (k : Nat) (x : List Int), x ∈ l → n < k → cabstandlaw01_SameInts.f k x x = some true := by
    intro k x hx hk
    have hxl := hi x hx
    have hm : ∀ m, LeO (cabstandlaw01_SameInts.f (x.length + 1) x x) (cabstandlaw01_SameInts.f (x.length + 1 + m) x x) := by
      intro m
      induction m with
      | zero => exact LeO.refl _
      | succ m ih => exact fun r hr => cabstandlaw01_SameInts.mono x x _ r (ih r hr)
    have := hm (k - (x.length + 1)) true (sameInts_self x (by omega))
    rwa [show x.length + 1 + (k - (x.length + 1)) = k by omega] at this
  have key : ∀ (d k : Nat) (i : Int), 0 ≤ i → i ≤ l.length → (l.length : Int) - i = d → d + n + 1 < k → cabstandlaw01_SameIntLists.l0 k l l i = some true := by
    intro d
    induction d with
    | zero =>
      intro k i h0 h1 hd hk
      obtain ⟨k, rfl⟩ : ∃ m, k = m + 1 := ⟨k - 1, by omega⟩
      simp only [cabstandlaw01_SameIntLists.l0]
      rw [if_neg (by omega)]
    | succ d ih =>
      intro k i h0 h1 hd hk
      obtain ⟨k, rfl⟩ : ∃ m, k = m + 1 := ⟨k - 1, by omega⟩
      simp only [cabstandlaw01_SameIntLists.l0]
      have hmem : rd_L2 l i ∈ l := by
        unfold rd_L2
        rw [List.getD_eq_getElem?_getD, List.getElem?_eq_getElem (by omega)]
        exact List.getElem_mem _
      rw [if_pos (by omega), if_pos h0, if_pos (by omega), inner k _ hmem (by omega)]
      simp only [Option.bind_some, if_true]
      rw [wrap_succ h0 (by omega)]
      exact ih k (i + 1) (by omega) (by omega) (by omega) (by omega)
  unfold cabstandlaw01_SameIntLists.f
  rw [if_pos rfl]
  exact key l.length _ 0 (by omega) (by omega) (by omega) (by omega)
theorem beyond_one (n : Int) (h0 : 0 ≤ n) (h : n ≤ 9223372036854775807) : cabstandlaw01_Beyond.f 2 [n] = some (decide (n > 1048576)) := by
  have w0 : wrap64 n = n := by unfold wrap64; omega
  have e1 : wrap64 1 = 1 := by unfold wrap64; omega
  unfold cabstandlaw01_Beyond.f
  simp only [cabstandlaw01_Beyond.l0, rd, List.length_singleton]
  by_cases h1 : 1048576 < n
  · simp [h1, w0]
  · simp [h1, w0, e1]
theorem beyond_two (n m : Int) (h0 : 0 ≤ n) (h : n ≤ 9223372036854775807) (h2 : 0 ≤ m) (h3 : m ≤ 140737488351232) : cabstandlaw01_Beyond.f 3 [n, m] = some (decide (n + m > 1048576)) := by
  have w0 : wrap64 n = n := by unfold wrap64; omega
  have e1 : wrap64 1 = 1 := by unfold wrap64; omega
  have e2 : wrap64 2 = 2 := by unfold wrap64; omega
  unfold cabstandlaw01_Beyond.f
  simp only [cabstandlaw01_Beyond.l0, rd]
  by_cases h1 : 1048576 < n
  · have h4 : 1048576 < n + m := by omega
    simp [h1, w0, h4]
  · have w1 : wrap64 (n + m) = n + m := by unfold wrap64; omega
    by_cases h4 : 1048576 < n + m
    · simp [h1, w0, e1, w1, h4]
    · simp [h1, w0, e1, w1, h4, e2]
end Go.Proofs.Ytjhomkdnhdhffaa.PCoverHangs
