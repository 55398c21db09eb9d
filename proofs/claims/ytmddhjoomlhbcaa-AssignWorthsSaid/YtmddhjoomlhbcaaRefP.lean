/- The reference's matching and its sum are Worth's, in plain Lean. -/
import Derived.Test.YtmddhjoomlhbcaaRefM
namespace Go.Proofs.Ytmddhjoomlhbcaa

theorem good_of {W : Nat → Nat → Int} {R C : Nat} (hC : C ≤ 64) : ∀ {l : List (Int × Int)} {last : Int} {taken : List Bool}, taken.length = 64 → -1 ≤ last →
    (∀ p ∈ l, last < p.1 ∧ p.1 < R ∧ 0 ≤ p.2 ∧ p.2 < C ∧ getB taken p.2.toNat = false ∧ W p.1.toNat p.2.toNat ≠ 0) → l.Pairwise (fun p q => p.1 < q.1) → l.Pairwise (fun p q => p.2 ≠ q.2) → goodL W R C l last taken
  | [], _, _, _, _, _, _, _ => trivial
  | p :: l, last, taken, ht, hl, h, h1, h2 => by
    obtain ⟨a1, a2, a3, a4, a5, a6⟩ := h p (by simp)
    obtain ⟨b1, b2⟩ := List.pairwise_cons.1 h1
    obtain ⟨c1, c2⟩ := List.pairwise_cons.1 h2
    refine ⟨?_, good_of hC (by simpa using ht) (by omega) (fun q hq => ?_) b2 c2⟩
    · unfold badP
      simp only [Bool.or_eq_false_iff, decide_eq_false_iff_not]
      exact ⟨⟨by omega, a5⟩, a6⟩
    · obtain ⟨d1, d2, d3, d4, d5, d6⟩ := h q (by simp [hq])
      refine ⟨b1 q hq, d2, d3, d4, ?_, d6⟩
      have hne := c1 q hq
      rw [getB_set, if_neg (by omega)]; exact d5
theorem worth_yes {W : Nat → Nat → Int} {R C : Nat} : ∀ {l : List (Int × Int)} {last s : Int} {taken : List Bool}, goodL W R C l last taken → worthL W R C l last taken s = (s + sumW W l, 0)
  | [], _, s, _, _ => by simp [worthL, sumW]
  | p :: l, last, s, taken, h => by
    unfold worthL
    rw [h.1, if_neg (by simp), worth_yes h.2, sumW, Int.add_assoc]
theorem up_of {l : List (Int × Int)} (h : ∀ i p q, l[i]? = some p → l[i + 1]? = some q → p.1 < q.1) : l.Pairwise fun p q => p.1 < q.1 := by
  rw [List.pairwise_iff_getElem]
  intro i j hi hj hij
  have key : ∀ d, ∀ hd : i + 1 + d < l.length, l[i].1 < (l[i + 1 + d]).1 := by
    intro d
    induction d with
    | zero => intro hd; exact h i _ _ (List.getElem?_eq_getElem hi) (List.getElem?_eq_getElem hd)
    | succ d ih =>
      intro hd
      have h1 := ih (by omega)
      have h2 := h (i + 1 + d) _ _ (List.getElem?_eq_getElem (by omega)) (List.getElem?_eq_getElem (show i + 1 + d + 1 < l.length by omega))
      have h3 : l[i + 1 + (d + 1)] = l[i + 1 + d + 1] := by congr 1
      rw [h3]; omega
  have := key (j - i - 1) (by omega)
  have e : l[i + 1 + (j - i - 1)]'(by omega) = l[j] := by congr 1; omega
  rw [e] at this; exact this
section
variable {g : Gr} {l : List (Int × Int)}
theorem falses_no (c : Nat) : getB (List.replicate 64 false) c = false := by
  unfold getB; rw [List.getElem?_replicate]; split <;> rfl
theorem good_iff (hc : chk g = true) : goodL (wG g) g.rows.toNat g.cols.toNat l (-1) (List.replicate 64 false) ↔ ∀ i, i < l.length → okAt g l i := by
  have hs := chk_size hc
  constructor
  · intro h i hi
    have hin := good_in (by omega) (by simp) h
    have hup := good_up (by omega) (by simp) h
    have hat : l[i]? = some l[i] := List.getElem?_eq_getElem hi
    obtain ⟨a1, a2, a3, a4, _, a6⟩ := hin l[i] (List.getElem_mem hi)
    obtain ⟨x, q1, q2, q3, _⟩ := wG_some hc a6
    refine ⟨l[i], hat, ⟨x, q1, by omega, by omega⟩, fun j q hj hq => ?_, fun k q hk hq he => ?_⟩
    · have hjl : j < l.length := by omega
      rw [List.getElem?_eq_getElem hjl] at hq
      cases hq
      exact (List.pairwise_iff_getElem.1 hup) j i hjl hi (by omega)
    · have hkl : k < l.length := by omega
      rw [List.getElem?_eq_getElem hkl] at hq
      cases hq
      have h1 := (List.pairwise_iff_getElem.1 hup) k i hkl hi hk
      have h2 := good_col (by omega) (by simp) h _ (List.getElem_mem hkl) _ (List.getElem_mem hi) he
      rw [h2] at h1; omega
  · intro h
    refine good_of (by omega) (by simp) (Int.le_refl _) (fun p hp => ?_) (up_of fun i p q hp hq => ?_) (List.pairwise_iff_getElem.2 fun i j hi hj hij => ?_)
    · obtain ⟨i, hi⟩ := List.getElem?_of_mem hp
      obtain ⟨p', h1, ⟨x, h2, h3, h4⟩, _⟩ := h i (List.getElem?_eq_some_iff.1 hi).1
      rw [hi] at h1
      cases h1
      have hx := chk_in hc h2
      unfold EdIn at hx
      refine ⟨by omega, by omega, by omega, by omega, falses_no _, ?_⟩
      rw [wG_edge hc h2 (r := p.1.toNat) (c := p.2.toNat) (by omega) (by omega)]; omega
    · obtain ⟨q', h1, _, h3, _⟩ := h (i + 1) (List.getElem?_eq_some_iff.1 hq).1
      rw [hq] at h1
      cases h1
      exact h3 i p rfl hp
    · obtain ⟨q', h1, _, _, h4⟩ := h j hj
      rw [List.getElem?_eq_getElem hj] at h1
      cases h1
      exact h4 i l[i] hij (List.getElem?_eq_getElem hi)
theorem worth_no (hc : chk g = true) (h : ¬ ∀ i, i < l.length → okAt g l i) : worthF g l = (0, 180) := by
  unfold worthF
  rw [if_pos hc]
  rcases worth_good (wG g) g.rows.toNat g.cols.toNat l (-1) 0 (List.replicate 64 false) with ⟨h1, _⟩ | h1
  · exact absurd ((good_iff hc).1 h1) h
  · exact h1
/-- The first k edges of a graph. -/
def headG (g : Gr) (k : Nat) : Gr := ⟨g.rows, g.cols, g.es.take k⟩
theorem head_chk (hc : chk g = true) (k : Nat) : chk (headG g k) = true := by
  have hs := chk_size hc
  exact chk_mk (by omega) (by omega) (fun x hx => chk_in hc (List.mem_of_mem_take hx)) ((edges_lt hc).sublist (List.take_sublist _ _))
theorem head_w (hc : chk g = true) {k : Nat} {x : Ed} (hx : g.es[k]? = some x) (r c : Nat) : wG (headG g (k + 1)) r c = if r = x.r.toNat ∧ c = x.c.toNat then x.w else wG (headG g k) r c := by
  obtain ⟨h1, h2⟩ := List.getElem?_eq_some_iff.1 hx
  have ht : (headG g (k + 1)).es = (headG g k).es ++ [x] := by show g.es.take (k + 1) = _; rw [List.take_succ_eq_append_getElem h1, h2]; rfl
  have hin := chk_in hc (List.mem_of_getElem? hx)
  unfold EdIn at hin
  refine wG_eq (head_chk hc _) (fun hv => ?_) (fun hv y hy he => ?_)
  · by_cases e : r = x.r.toNat ∧ c = x.c.toNat
    · rw [if_pos e]; exact ⟨x, by rw [ht]; simp, by omega, by omega, rfl⟩
    · rw [if_neg e] at hv ⊢
      obtain ⟨y, q1, q2, q3, q4⟩ := wG_some (head_chk hc k) hv
      exact ⟨y, by rw [ht]; exact List.mem_append.2 (.inl q1), q2, q3, q4⟩
  · rw [ht] at hy
    rcases List.mem_append.1 hy with hy | hy
    · by_cases e : r = x.r.toNat ∧ c = x.c.toNat
      · rw [if_pos e] at hv; omega
      · rw [if_neg e, wG_edge (head_chk hc k) hy he.1 he.2] at hv
        have := edge_w (head_chk hc k) hy; omega
    · obtain rfl : y = x := by simpa using hy
      rw [if_pos ⟨by omega, by omega⟩] at hv
      omega
theorem head_no (hc : chk g = true) {k : Nat} {x : Ed} (hx : g.es[k]? = some x) : wG (headG g k) x.r.toNat x.c.toNat = 0 := by
  obtain ⟨h1, h2⟩ := List.getElem?_eq_some_iff.1 hx
  have hin := chk_in hc (List.mem_of_getElem? hx)
  unfold EdIn at hin
  refine wG_eq (head_chk hc k) (fun h => absurd rfl h) (fun _ y hy he => ?_)
  have hp := edges_lt hc
  rw [← List.take_append_drop k g.es] at hp
  have := (List.pairwise_append.1 hp).2.2 y hy x (by rw [List.drop_eq_getElem_cons h1, h2]; simp)
  unfold ltE at this
  omega
theorem sumE_val (hc : chk g = true) (tl : List Int) (hv : ∀ r, r < g.rows.toNat → getI tl r = -1 ∨ 0 ≤ getI tl r) : ∀ k, k ≤ g.es.length → sumE (g.es.take k) tl = val (wG (headG g k)) (getI tl) g.rows.toNat
  | 0, _ => by
    have hz : ∀ r c, wG (headG g 0) r c = 0 := fun r c => wG_eq (head_chk hc 0) (fun h => absurd rfl h) (fun _ x hx => by simp [headG] at hx)
    show (0 : Int) = sumN _ _
    rw [sumN_congr (h := fun _ => 0) (fun r _ => by show (if _ then 0 else wG (headG g 0) r _) = 0; rw [hz]; split <;> rfl), sumN_zero]
  | k + 1, hk => by
    obtain ⟨x, hx⟩ : ∃ x, g.es[k]? = some x := ⟨g.es[k], by simp⟩
    obtain ⟨h1, h2⟩ := List.getElem?_eq_some_iff.1 hx
    have hin := chk_in hc (List.mem_of_getElem? hx)
    unfold EdIn at hin
    rw [List.take_succ_eq_append_getElem h1, h2, sumE_snoc, sumE_val hc tl hv k (by omega)]
    have hone : ∀ j, j ≠ x.r.toNat → (if getI tl j < 0 then 0 else wG (headG g (k + 1)) j (getI tl j).toNat) = (if getI tl j < 0 then 0 else wG (headG g k) j (getI tl j).toNat) := fun j hj => by
      rw [head_w hc hx]
      by_cases e : getI tl j < 0
      · rw [if_pos e, if_pos e]
      · have e2 : ¬ (j = x.r.toNat ∧ (getI tl j).toNat = x.c.toNat) := fun h => hj h.1
        rw [if_neg e, if_neg e, if_neg e2]
    have hS := sumN_one (g := fun r => if getI tl r < 0 then 0 else wG (headG g (k + 1)) r (getI tl r).toNat) (h := fun r => if getI tl r < 0 then 0 else wG (headG g k) r (getI tl r).toNat) (i := x.r.toNat) hone g.rows.toNat
    have hr : x.r.toNat < g.rows.toNat := by omega
    rw [if_pos hr] at hS
    have hD : (if getI tl x.r.toNat < 0 then 0 else wG (headG g (k + 1)) x.r.toNat (getI tl x.r.toNat).toNat) - (if getI tl x.r.toNat < 0 then 0 else wG (headG g k) x.r.toNat (getI tl x.r.toNat).toNat) = if getI tl x.r.toNat = x.c then x.w else 0 := by
      rcases hv x.r.toNat hr with e | e
      · have e1 : getI tl x.r.toNat < 0 := by omega
        have e2 : ¬ getI tl x.r.toNat = x.c := by omega
        rw [if_pos e1, if_pos e1, if_neg e2]; rfl
      · have e1 : ¬ getI tl x.r.toNat < 0 := by omega
        rw [if_neg e1, if_neg e1, head_w hc hx]
        by_cases e2 : getI tl x.r.toNat = x.c
        · rw [if_pos e2, if_pos ⟨rfl, by rw [e2]⟩, e2, head_no hc hx]; omega
        · have e3 : ¬ (x.r.toNat = x.r.toNat ∧ (getI tl x.r.toNat).toNat = x.c.toNat) := by omega
          rw [if_neg e2, if_neg e3]; omega
    show sumN _ _ + _ = sumN _ _
    rw [hS, ← hD]
theorem worth_sum (hc : chk g = true) (h : ∀ i, i < l.length → okAt g l i) : worthF g l = (sumE g.es (putL (List.replicate g.rows.toNat (-1)) l), 0) := by
  have hs := chk_size hc
  have hg := (good_iff hc).2 h
  have hin := good_in (by omega) (by simp) hg
  have hput : ∀ r, r < g.rows.toNat → getI (putL (List.replicate g.rows.toNat (-1)) l) r = mtOf l r := fun r hr => by
    rw [putL_get (good_up (by omega) (by simp) hg) (fun p hp => by have := hin p hp; omega) (by simpa using hr)]
    have e : getI (List.replicate g.rows.toNat (-1)) r = -1 := by unfold getI; rw [List.getElem?_replicate, if_pos hr]; rfl
    rw [e]
    by_cases k : mtOf l r < 0
    · rw [if_pos k]
      have : mtOf l r = -1 := by
        refine mtOf_none fun p hp hpr => ?_
        have h1 := hin p hp
        have := mtOf_mem (good_up (by omega) (by simp) hg) hp (by omega)
        rw [hpr, Int.toNat_natCast] at this
        omega
      exact this.symm
    · rw [if_neg k]
  have hv := sumE_val hc (putL (List.replicate g.rows.toNat (-1)) l) (fun r hr => by
    rw [hput r hr]
    by_cases k : mtOf l r < 0
    · left
      refine mtOf_none fun p hp hpr => ?_
      have h1 := hin p hp
      have := mtOf_mem (good_up (by omega) (by simp) hg) hp (by omega)
      rw [hpr, Int.toNat_natCast] at this
      omega
    · right; omega) g.es.length (Nat.le_refl _)
  rw [List.take_length] at hv
  have hh : headG g g.es.length = g := by unfold headG; rw [List.take_length]
  rw [hh] at hv
  unfold worthF
  rw [if_pos hc, worth_yes hg, hv, ← good_val (by omega) (by omega) (by simp) hg, Int.zero_add]
  congr 1
  exact sumN_congr fun r hr => by
    show (if mtOf l r < 0 then 0 else wG g r (mtOf l r).toNat) = if getI (putL _ l) r < 0 then 0 else wG g r (getI (putL _ l) r).toNat
    rw [hput r hr]
end
end Go.Proofs.Ytmddhjoomlhbcaa
