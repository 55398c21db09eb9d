/- What cover.Parts computes, in plain Lean. -/
import Derived.Test.YtjhomkdnhdhffaaGreatGrCheck
namespace Go.Proofs.YtjhomkdnhdhffaaGreat

/-- A table in which each number is no greater than its place. -/
def Down (h : List Nat) : Prop := h.length = 64 ∧ ∀ (i : Nat) x, h[i]? = some x → x ≤ i
def rootK (h : List Nat) : Nat → Nat → Nat
  | 0, r => r
  | k + 1, r => if h[r]?.getD r = r then r else rootK h k (h[r]?.getD r)
/-- A place's root. -/
def root (h : List Nat) (r : Nat) : Nat := rootK h r r

theorem Down.le {h : List Nat} (H : Down h) (r : Nat) : h[r]?.getD r ≤ r := by
  cases e : h[r]? with
  | none => simp
  | some x => simpa using H.2 r x e
theorem rootK_le {h : List Nat} (H : Down h) : ∀ k r, rootK h k r ≤ r
  | 0, _ => Nat.le_refl _
  | k + 1, r => by
    unfold rootK
    split
    · exact Nat.le_refl _
    · exact Nat.le_trans (rootK_le H k _) (H.le r)
theorem rootK_fuel {h : List Nat} (H : Down h) : ∀ k r, r ≤ k → rootK h k r = root h r := by
  intro k
  induction k using Nat.strongRecOn with
  | ind k ih =>
    intro r hr
    cases k with
    | zero => obtain rfl : r = 0 := by omega
              rfl
    | succ k =>
      unfold root
      cases r with
      | zero =>
        have : h[0]?.getD 0 = 0 := by have := H.le 0; omega
        unfold rootK
        rw [if_pos this]
      | succ r =>
        unfold rootK
        by_cases e : h[r + 1]?.getD (r + 1) = r + 1
        · rw [if_pos e, if_pos e]
        · rw [if_neg e, if_neg e]
          have hle := H.le (r + 1)
          rw [ih k (by omega) _ (by omega), ih r (by omega) _ (by omega)]
theorem root_of_fix {h : List Nat} {r : Nat} (e : h[r]?.getD r = r) : root h r = r := by
  unfold root
  cases r with
  | zero => rfl
  | succ r => unfold rootK; rw [if_pos e]
theorem root_step {h : List Nat} (H : Down h) (r : Nat) : root h (h[r]?.getD r) = root h r := by
  by_cases e : h[r]?.getD r = r
  · rw [e]
  · have hle := H.le r
    cases r with
    | zero => omega
    | succ r =>
      show _ = rootK h (r + 1) (r + 1)
      unfold rootK
      rw [if_neg e, rootK_fuel H r _ (by omega)]
theorem root_le {h : List Nat} (H : Down h) (r : Nat) : root h r ≤ r := rootK_le H r r
theorem root_fix {h : List Nat} (H : Down h) : ∀ r, h[root h r]?.getD (root h r) = root h r := by
  intro r
  induction r using Nat.strongRecOn with
  | ind r ih =>
    by_cases e : h[r]?.getD r = r
    · rw [root_of_fix e]; exact e
    · have hle := H.le r
      rw [← root_step H r]
      exact ih _ (by omega)
theorem root_root {h : List Nat} (H : Down h) (r : Nat) : root h (root h r) = root h r := root_of_fix (root_fix H r)

/-- One edge: its row joins its column's. -/
def joinE (s : List Nat × List Int) (r c : Nat) : List Nat × List Int :=
  let f := if s.2[c]?.getD (-1) < 0 then s.2.set c r else s.2
  let a := root s.1 (f[c]?.getD 0).toNat
  let b := root s.1 r
  (s.1.set (max a b) (min a b), f)
theorem Down.set {h : List Nat} (H : Down h) {a b : Nat} : Down (h.set (max a b) (min a b)) := by
  refine ⟨by simp [H.1], fun i x hx => ?_⟩
  rw [List.getElem?_set] at hx
  split at hx
  · rename_i e
    split at hx
    · simp at hx; omega
    · cases hx
  · exact H.2 i x hx
theorem joinE_down {s : List Nat × List Int} (H : Down s.1) (r c : Nat) : Down (joinE s r c).1 := H.set
theorem joinE_none {hd : List Nat} {ft : List Int} {r c : Nat} (h : ft[c]? = some (-1)) : joinE (hd, ft) r c = (hd.set (max (root hd r) (root hd r)) (min (root hd r) (root hd r)), ft.set c r) := by
  have hc := (List.getElem?_eq_some_iff.1 h).1
  have h1 : (if (ft[c]?.getD (-1)) < 0 then ft.set c (r : Int) else ft) = ft.set c r := by rw [h]; rfl
  have h2 : (ft.set c (r : Int))[c]? = some (r : Int) := by simp [hc]
  simp only [joinE, h1, h2, Option.getD_some, Int.toNat_natCast]
theorem joinE_some {hd : List Nat} {ft : List Int} {r c q : Nat} (h : ft[c]? = some (q : Int)) : joinE (hd, ft) r c = (hd.set (max (root hd q) (root hd r)) (min (root hd q) (root hd r)), ft) := by
  have h0 : ¬ ((q : Int) < 0) := by omega
  have h1 : (if (ft[c]?.getD (-1)) < 0 then ft.set c (r : Int) else ft) = ft := by rw [h]; exact if_neg h0
  simp only [joinE, h1]
  rw [h]; rfl
def startH : List Nat := List.range 64
def startF : List Int := List.replicate 64 (-1)
theorem startH_down : Down startH := ⟨by simp [startH], fun i x h => by
  unfold startH at h
  obtain ⟨h1, h2⟩ := List.getElem?_eq_some_iff.1 h
  simp at h2; omega⟩
/-- All edges. -/
def joinAll (es : List Ed) : List Nat × List Int := es.foldl (fun s x => joinE s x.r.toNat x.c.toNat) (startH, startF)
theorem joinAll_down (es : List Ed) : Down (joinAll es).1 := by
  have : ∀ (l : List Ed) s, Down s.1 → Down (l.foldl (fun s x => joinE s x.r.toNat x.c.toNat) s).1 := by
    intro l
    induction l with
    | nil => exact fun s h => h
    | cons x l ih => exact fun s h => ih _ (joinE_down h _ _)
  exact this es _ startH_down
/-- The parts of the first k rows. -/
def partsOf (h : List Nat) (k : Nat) : List (List Nat) := ((List.range k).filter fun r => root h r = r).map fun r => (List.range k).filter fun q => root h q = r
def parts (g : Gr) : List (List Nat) := partsOf (joinAll g.es).1 g.rows.toNat
/-- How many roots lie below. -/
def rank (h : List Nat) (r : Nat) : Nat := ((List.range r).filter fun r => root h r = r).length

theorem partsOf_length (h : List Nat) (k : Nat) : (partsOf h k).length = rank h k := by simp [partsOf, rank]
theorem partsOf_root {h : List Nat} (H : Down h) {k : Nat} (e : root h k = k) : partsOf h (k + 1) = partsOf h k ++ [[k]] := by
  unfold partsOf
  rw [List.range_succ, List.filter_append, List.map_append]
  have h1 : ([k].filter fun r => decide (root h r = r)) = [k] := by simp [e]
  rw [h1]
  congr 1
  · apply List.map_congr_left
    intro r hr
    have hrk : r < k := by simpa using (List.mem_filter.1 hr).1
    rw [List.filter_append]
    have : ([k].filter fun q => decide (root h q = r)) = [] := by simp [e]; omega
    rw [this, List.append_nil]
  · simp only [List.map_cons, List.map_nil, List.filter_append]
    have h2 : ((List.range k).filter fun q => decide (root h q = k)) = [] := by
      rw [List.filter_eq_nil_iff]
      intro q hq
      have hq' : q < k := by simpa using hq
      have := root_le H q
      simp; omega
    rw [h2]; simp [e]
theorem rank_get {h : List Nat} {k r : Nat} (hr : r < k) (e : root h r = r) : ((List.range k).filter fun r => decide (root h r = r))[rank h r]? = some r := by
  have hs : List.range k = List.range r ++ (r :: (List.range' (r + 1) (k - r - 1))) := by
    have h1 : List.range k = List.range' 0 k := List.range_eq_range'
    have h2 : List.range r = List.range' 0 r := List.range_eq_range'
    rw [h1, h2, ← List.range'_succ]
    have := List.range'_append_1 (s := 0) (m := r) (n := k - r - 1 + 1)
    rw [Nat.zero_add] at this
    rw [this]
    congr 1; omega
  rw [hs, List.filter_append, List.getElem?_append_right (by unfold rank; exact Nat.le_refl _)]
  simp [rank, e]
theorem partsOf_get {h : List Nat} {k r : Nat} (hr : r < k) (e : root h r = r) : (partsOf h k)[rank h r]? = some ((List.range k).filter fun q => root h q = r) := by
  unfold partsOf
  rw [List.getElem?_map, rank_get hr e]; rfl
theorem rank_inj {h : List Nat} {a b : Nat} (ha : root h a = a) (hb : root h b = b) (e : rank h a = rank h b) : a = b := by
  have h1 := rank_get (h := h) (k := max a b + 1) (r := a) (by omega) ha
  have h2 := rank_get (h := h) (k := max a b + 1) (r := b) (by omega) hb
  rw [e, h2] at h1
  exact (Option.some.inj h1).symm
theorem partsOf_other {h : List Nat} (H : Down h) {k : Nat} (e : root h k ≠ k) :
    partsOf h (k + 1) = (partsOf h k).set (rank h (root h k)) (((List.range k).filter fun q => root h q = root h k) ++ [k]) := by
  have hlt : root h k < k := by have := root_le H k; omega
  apply List.ext_getElem?
  intro i
  rw [List.getElem?_set]
  have hf : ((List.range (k + 1)).filter fun r => decide (root h r = r)) = ((List.range k).filter fun r => decide (root h r = r)) := by
    rw [List.range_succ, List.filter_append]
    simp [e]
  have hget : ∀ i : Nat, (partsOf h (k + 1))[i]? = (((List.range k).filter fun r => decide (root h r = r))[i]?).map fun r => (List.range (k + 1)).filter fun q => root h q = r := by
    intro i; unfold partsOf; rw [List.getElem?_map, hf]
  have hget0 : ∀ i : Nat, (partsOf h k)[i]? = (((List.range k).filter fun r => decide (root h r = r))[i]?).map fun r => (List.range k).filter fun q => root h q = r := by
    intro i; unfold partsOf; rw [List.getElem?_map]
  rw [hget]
  by_cases hi : rank h (root h k) = i
  · subst hi
    have hg := rank_get hlt (root_root H k)
    have hl : rank h (root h k) < (partsOf h k).length := by
      have := (List.getElem?_eq_some_iff.1 hg).1
      simpa [partsOf] using this
    rw [hg, if_pos rfl, if_pos hl, List.range_succ, Option.map_some, List.filter_append]
    simp
  · rw [if_neg hi, hget0]
    cases hg : ((List.range k).filter fun r => decide (root h r = r))[i]? with
    | none => rfl
    | some r =>
      have hm := List.mem_filter.1 (List.mem_of_getElem? hg)
      have hr1 : root h r = r := by simpa using hm.2
      have hr2 : r < k := by simpa using hm.1
      have hne : root h k ≠ r := by
        intro e2
        have h3 := rank_get (h := h) (k := k) hr2 hr1
        have hnd : ((List.range k).filter fun r => decide (root h r = r)).Nodup := List.Pairwise.filter _ List.nodup_range
        have := (List.getElem?_inj (List.getElem?_eq_some_iff.1 h3).1 hnd).1 (h3.trans hg.symm)
        rw [e2] at hi
        exact hi this
      rw [Option.map_some, Option.map_some, List.range_succ, List.filter_append]
      simp [hne]

theorem badFrom_ok {rows cols : Int} : ∀ (l : List Ed) (p : Ed), badFrom rows cols p l = false → ∀ x ∈ l, edBad rows cols x = false
  | [], _, _, x, hx => by cases hx
  | y :: l, p, h, x, hx => by
    simp only [badFrom, Bool.or_eq_false_iff] at h
    rcases List.mem_cons.1 hx with rfl | hx
    · exact h.1.1
    · exact badFrom_ok l y h.2 x hx
theorem chk_size {g : Gr} (h : chk g = true) : 0 ≤ g.rows ∧ g.rows ≤ 64 ∧ 0 ≤ g.cols ∧ g.cols ≤ 64 := by
  simp only [chk, Bool.not_eq_true', Bool.or_eq_false_iff] at h
  have := h.1
  simp [sizeBad] at this
  omega
theorem edge_ok {g : Gr} (h : chk g = true) {x : Ed} (hx : x ∈ g.es) : ∃ r c : Nat, x.r = r ∧ x.c = c ∧ (r : Int) < g.rows ∧ (c : Int) < g.cols ∧ r < 64 ∧ c < 64 := by
  have hs := chk_size h
  simp only [chk, Bool.not_eq_true', Bool.or_eq_false_iff] at h
  have := badFrom_ok _ _ h.2 x hx
  simp [edBad] at this
  obtain ⟨r, hr⟩ := Int.eq_ofNat_of_zero_le (show 0 ≤ x.r by omega)
  obtain ⟨c, hc⟩ := Int.eq_ofNat_of_zero_le (show 0 ≤ x.c by omega)
  exact ⟨r, c, hr, hc, by omega, by omega, by omega, by omega⟩
theorem joinAll_snoc (es : List Ed) (k : Nat) (x : Ed) (h : es[k]? = some x) {r c : Nat} (hr : x.r = r) (hc : x.c = c) : joinAll (es.take (k + 1)) = joinE (joinAll (es.take k)) r c := by
  obtain ⟨hk, rfl⟩ := List.getElem?_eq_some_iff.1 h
  unfold joinAll
  rw [List.take_succ_eq_append_getElem hk, List.foldl_append]
  show joinE _ _ _ = _
  rw [hr, hc]; rfl
/-- The table by columns: a row, or none. -/
def FirstOk (f : List Int) : Prop := f.length = 64 ∧ ∀ (i : Nat) x, f[i]? = some x → x = -1 ∨ ∃ r : Nat, x = r ∧ r < 64
theorem FirstOk.set {f : List Int} (h : FirstOk f) (c : Nat) {r : Nat} (hr : r < 64) : FirstOk (f.set c r) := by
  refine ⟨by simp [h.1], fun i x hx => ?_⟩
  rw [List.getElem?_set] at hx
  split at hx
  · split at hx
    · simp at hx; exact .inr ⟨r, hx.symm, hr⟩
    · cases hx
  · exact h.2 i x hx
theorem startF_ok : FirstOk startF := ⟨by simp [startF], fun i x h => by
  unfold startF at h
  rw [List.getElem?_replicate] at h
  split at h
  · simp at h; exact .inl h.symm
  · cases h⟩
end Go.Proofs.YtjhomkdnhdhffaaGreat
