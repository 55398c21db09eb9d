/- The heaviest matching, in plain Lean: prices for rows and columns under which a perfect matching of the square table grows row by row. -/
import Derived.Test.YtmddhjoomlhbcaaAltPl
namespace Go.Proofs.Ytmddhjoomlhbcaa

/-- A table's weights: none below 0, none above the greatest. -/
def topW : Int := 1099513724929
structure WOk (W : Nat → Nat → Int) : Prop where
  lo : ∀ r c, 0 ≤ W r c
  hi : ∀ r c, W r c ≤ 1099513724929
/-- What an edge costs, by the prices; rows and columns from 1 on. -/
def rc (W : Nat → Nat → Int) (u v : List Int) (i j : Nat) : Int := -(W (i - 1) (j - 1)) - getI u i - getI v j
def ofN (o : List Int) (j : Nat) : Nat := (getI o j).toNat

/-- m rows have a column. -/
structure HR (W : Nat → Nat → Int) (n m : Nat) (u v o : List Int) : Prop where
  lu : u.length = 65
  lv : v.length = 65
  lo : o.length = 65
  ofv : ∀ j, 1 ≤ j → j ≤ n → ∃ i : Nat, getI o j = i ∧ i ≤ m
  inj : ∀ i j, 1 ≤ i → i ≤ n → 1 ≤ j → j ≤ n → 1 ≤ getI o i → getI o i = getI o j → i = j
  cov : ∀ i : Nat, 1 ≤ i → i ≤ m → ∃ j, 1 ≤ j ∧ j ≤ n ∧ getI o j = i
  tight : ∀ i j : Nat, 1 ≤ i → 1 ≤ j → j ≤ n → getI o j = i → rc W u v i j = 0
  feas : ∀ i j : Nat, 1 ≤ i → i ≤ m → 1 ≤ j → j ≤ n → 0 ≤ rc W u v i j
  free : ∀ j, 1 ≤ j → j ≤ n → getI o j = 0 → getI v j = 0
  fresh : ∀ i, m < i → i ≤ n → getI u i = 0
  vb : ∀ j, 1 ≤ j → j ≤ n → -(1099513724929 * (m : Int)) ≤ getI v j ∧ getI v j ≤ 0
  ub : ∀ i, 1 ≤ i → i ≤ n → -1099513724929 ≤ getI u i ∧ getI u i ≤ 1099513724929 * (m : Int)
  v0 : 0 ≤ getI v 0 ∧ getI v 0 ≤ 1099513724929 * (m : Int)

/-- The search of a column for row m + 1: k columns are used, at is the next one. -/
structure HS (W : Nat → Nat → Int) (n m : Nat) (u v o way least : List Int) (used : List Bool) (d : Nat → Nat) (k at_ : Nat) : Prop where
  lu : u.length = 65
  lv : v.length = 65
  lo : o.length = 65
  lw : way.length = 65
  ll : least.length = 65
  lus : used.length = 65
  of0 : getI o 0 = ((m + 1 : Nat) : Int)
  ofv : ∀ j, 1 ≤ j → j ≤ n → ∃ i : Nat, getI o j = i ∧ i ≤ m
  inj : ∀ i j, 1 ≤ i → i ≤ n → 1 ≤ j → j ≤ n → 1 ≤ getI o i → getI o i = getI o j → i = j
  cov : ∀ i : Nat, 1 ≤ i → i ≤ m → ∃ j, 1 ≤ j ∧ j ≤ n ∧ getI o j = i
  tight : ∀ i j : Nat, 1 ≤ i → 1 ≤ j → j ≤ n → getI o j = i → rc W u v i j = 0
  feas : ∀ i j : Nat, 1 ≤ i → i ≤ m → 1 ≤ j → j ≤ n → 0 ≤ rc W u v i j
  feas1 : k ≠ 0 → ∀ j : Nat, 1 ≤ j → j ≤ n → 0 ≤ rc W u v (m + 1) j
  free : ∀ j, 1 ≤ j → j ≤ n → getI o j = 0 → getI v j = 0
  fresh : ∀ i, m + 1 < i → i ≤ n → getI u i = 0
  own : -1099513724929 ≤ getI u (m + 1) ∧ getI u (m + 1) ≤ 0
  own0 : k = 0 → getI u (m + 1) = 0
  vb : ∀ j, 1 ≤ j → j ≤ n → -(1099513724929 * (m : Int)) - 1099513724929 ≤ getI v j + getI u (m + 1) ∧ getI v j ≤ 0
  vb0 : k = 0 → ∀ j, 1 ≤ j → j ≤ n → -(1099513724929 * (m : Int)) ≤ getI v j
  ub0 : k = 0 → ∀ i, 1 ≤ i → i ≤ m → getI u i ≤ 1099513724929 * (m : Int)
  ub : ∀ i, 1 ≤ i → i ≤ m → -1099513724929 ≤ getI u i ∧ getI u i ≤ 1099513724929 * (m : Int) + 1099513724929 + getI u (m + 1)
  v0 : 0 ≤ getI v 0 + getI u (m + 1) ∧ getI v 0 + getI u (m + 1) ≤ 1099513724929 * (m : Int)
  atn : at_ ≤ n
  atu : getB used at_ = false
  use : ∀ j, getB used j = true → j ≤ n ∧ 1 ≤ getI o j
  zero : k = 0 → at_ = 0 ∧ ∀ j, getB used j = false
  zero1 : k ≠ 0 → getB used 0 = true
  tree : ∀ j, 1 ≤ j → (getB used j = true ∨ j = at_) → ∃ p : Nat, getI way j = p ∧ getB used p = true ∧ d p < d j ∧ rc W u v (ofN o p) j = 0
  dk : ∀ j, (getB used j = true ∨ j = at_) → d j ≤ k
  low : ∀ j c, getB used j = true → 1 ≤ c → c ≤ n → getB used c = false → getI least c ≤ rc W u v (ofN o j) c
  high : k ≠ 0 → ∀ c, 1 ≤ c → c ≤ n → getB used c = false → ∃ p : Nat, getI way c = p ∧ getB used p = true ∧ getI least c = rc W u v (ofN o p) c
  nonneg : k ≠ 0 → ∀ c, 1 ≤ c → c ≤ n → getB used c = false → 0 ≤ getI least c
  far : k = 0 → ∀ c, c ≤ 64 → getI least c = 1152921504606846976

theorem HS.start {W : Nat → Nat → Int} {n m : Nat} {u v o way least : List Int} {used : List Bool} (h : HR W n m u v o) (hm : m < n) (hn : n ≤ 64) (hw : way.length = 65) (hl : least = List.replicate 65 1152921504606846976) (hu : used = List.replicate 65 false) :
    HS W n m u v (o.set 0 ((m + 1 : Nat) : Int)) way least used (fun _ => 0) 0 0 := by
  have e : ∀ j, 1 ≤ j → getI (o.set 0 ((m + 1 : Nat) : Int)) j = getI o j := fun j hj => by rw [getI_set, if_neg (by omega)]
  have hus : ∀ j, getB used j = false := fun j => by
    subst hu; unfold getB; rw [List.getElem?_replicate]; split <;> rfl
  have hf := h.fresh (m + 1) (by omega) (by omega)
  refine ⟨h.lu, h.lv, by simp [h.lo], hw, by simp [hl], by simp [hu], by rw [getI_set, if_pos ⟨rfl, by rw [h.lo]; omega⟩], fun j h1 h2 => by rw [e j h1]; exact h.ofv j h1 h2, fun i j h1 h2 h3 h4 => by rw [e i h1, e j h3]; exact h.inj i j h1 h2 h3 h4, fun i h1 h2 => ?_, fun i j h1 h2 h3 => by rw [e j h2]; exact h.tight i j h1 h2 h3, h.feas, fun h => absurd rfl h, fun j h1 h2 => by rw [e j h1]; exact h.free j h1 h2, fun i h1 h2 => h.fresh i (by omega) h2, by omega, fun _ => hf, fun j h1 h2 => ?_, fun _ j h1 h2 => (h.vb j h1 h2).1, fun _ i h1 h2 => (h.ub i h1 (by omega)).2, fun i h1 h2 => ?_, ?_, by omega, hus 0, fun j hj => by (rw [hus j] at hj; cases hj), fun _ => ⟨rfl, hus⟩, fun h => absurd rfl h, fun j h1 h2 => ?_, fun j _ => Nat.le_refl _, fun j c hj => by (rw [hus j] at hj; cases hj), fun h => absurd rfl h, fun h => absurd rfl h, fun _ c hc => ?_⟩
  · obtain ⟨j, h3, h4, h5⟩ := h.cov i h1 h2
    exact ⟨j, h3, h4, by rw [e j h3]; exact h5⟩
  · have := h.vb j h1 h2
    omega
  · have := h.ub i h1 (by omega)
    omega
  · have := h.v0
    omega
  · rcases h2 with h2 | h2
    · rw [hus j] at h2; cases h2
    · omega
  · subst hl
    unfold getI; rw [List.getElem?_replicate, if_pos (by omega)]; rfl

theorem cnt_all : ∀ n, cnt (fun _ => true) n = n
  | 0 => rfl
  | n + 1 => by rw [cnt_succ, cnt_all n, if_pos rfl]
/-- A column without a row, while not all rows have one. -/
theorem free_col {n m : Nat} {o : List Int} (hm : m < n) (ofv : ∀ j, 1 ≤ j → j ≤ n → ∃ i : Nat, getI o j = i ∧ i ≤ m) (inj : ∀ i j, 1 ≤ i → i ≤ n → 1 ≤ j → j ≤ n → 1 ≤ getI o i → getI o i = getI o j → i = j) : ∃ j, 1 ≤ j ∧ j ≤ n ∧ getI o j = 0 := by
  refine Classical.byContradiction fun hno => ?_
  have h := cnt_inj n (fun _ => true) (fun _ => true) m (fun j => ofN o (j + 1) - 1) (fun i hi _ => ?_) (fun i j hi hj _ _ e => ?_)
  · have h1 := cnt_all n
    have h2 := cnt_le (fun _ => true) m
    omega
  · obtain ⟨x, h1, h2⟩ := ofv (i + 1) (by omega) (by omega)
    have : getI o (i + 1) ≠ 0 := fun h3 => hno ⟨i + 1, by omega, by omega, h3⟩
    refine ⟨?_, rfl⟩
    show ofN o (i + 1) - 1 < m
    unfold ofN; omega
  · obtain ⟨x, h1, h2⟩ := ofv (i + 1) (by omega) (by omega)
    obtain ⟨y, h3, h4⟩ := ofv (j + 1) (by omega) (by omega)
    have h5 : getI o (i + 1) ≠ 0 := fun h3 => hno ⟨i + 1, by omega, by omega, h3⟩
    have h6 : getI o (j + 1) ≠ 0 := fun h3 => hno ⟨j + 1, by omega, by omega, h3⟩
    have e : ofN o (i + 1) - 1 = ofN o (j + 1) - 1 := e
    unfold ofN at e
    have := inj (i + 1) (j + 1) (by omega) (by omega) (by omega) (by omega) (by omega) (by omega)
    omega

/-- The columns up to k are looked at, from a row: what each costs at least, from where, and which is the least. -/
structure Rlx (n at_ : Nat) (left : Nat → Int) (used : List Bool) (least way : List Int) (k : Nat) (least1 way1 : List Int) (next : Nat) (by_ : Int) : Prop where
  ll : least1.length = 65
  lw : way1.length = 65
  yes : ∀ c, 1 ≤ c → c ≤ k → getB used c = false → left c < getI least c → getI least1 c = left c ∧ getI way1 c = (at_ : Int)
  no : ∀ c, ¬ (1 ≤ c ∧ c ≤ k ∧ getB used c = false ∧ left c < getI least c) → getI least1 c = getI least c ∧ getI way1 c = getI way c
  low : ∀ c, 1 ≤ c → c ≤ k → getB used c = false → by_ ≤ getI least1 c
  has : (next = 0 ∧ by_ = 1152921504606846976) ∨ (1 ≤ next ∧ next ≤ k ∧ getB used next = false ∧ by_ = getI least1 next)

theorem Rlx.start {n at_ : Nat} {left : Nat → Int} {used : List Bool} {least way : List Int} (hl : least.length = 65) (hw : way.length = 65) : Rlx n at_ left used least way 0 least way 0 1152921504606846976 :=
  ⟨hl, hw, fun c h1 h2 => by omega, fun c _ => ⟨rfl, rfl⟩, fun c h1 h2 => by omega, .inl ⟨rfl, rfl⟩⟩
section
variable {n at_ : Nat} {left : Nat → Int} {used : List Bool} {least way : List Int} {k : Nat} {least1 way1 : List Int} {next : Nat} {by_ : Int}
theorem Rlx.skip (h : Rlx n at_ left used least way k least1 way1 next by_) (hu : getB used (k + 1) = true) : Rlx n at_ left used least way (k + 1) least1 way1 next by_ := by
  refine ⟨h.ll, h.lw, fun c h1 h2 h3 h4 => ?_, fun c hc => ?_, fun c h1 h2 h3 => ?_, ?_⟩
  · by_cases e : c = k + 1
    · subst e; rw [hu] at h3; cases h3
    · exact h.yes c h1 (by omega) h3 h4
  · exact h.no c fun ⟨h1, h2, h3⟩ => hc ⟨h1, by omega, h3⟩
  · by_cases e : c = k + 1
    · subst e; rw [hu] at h3; cases h3
    · exact h.low c h1 (by omega) h3
  · rcases h.has with h1 | ⟨h1, h2, h3⟩
    · exact .inl h1
    · exact .inr ⟨h1, by omega, h3⟩
theorem Rlx.keep (h : Rlx n at_ left used least way k least1 way1 next by_) (hn : ¬ left (k + 1) < getI least1 (k + 1)) : getI least1 (k + 1) = getI least (k + 1) ∧ (∀ c, ¬ (1 ≤ c ∧ c ≤ k + 1 ∧ getB used c = false ∧ left c < getI least c) → getI least1 c = getI least c ∧ getI way1 c = getI way c) ∧ (∀ c, 1 ≤ c → c ≤ k + 1 → getB used c = false → left c < getI least c → getI least1 c = left c ∧ getI way1 c = (at_ : Int)) := by
  have e1 := (h.no (k + 1) (fun ⟨_, h2, _⟩ => by omega)).1
  refine ⟨e1, fun c hc => h.no c fun ⟨h1, h2, h3⟩ => hc ⟨h1, by omega, h3⟩, fun c h1 h2 h3 h4 => ?_⟩
  by_cases e : c = k + 1
  · subst e; rw [← e1] at h4; exact absurd h4 hn
  · exact h.yes c h1 (by omega) h3 h4
theorem Rlx.same (h : Rlx n at_ left used least way k least1 way1 next by_) (hn : ¬ left (k + 1) < getI least1 (k + 1)) (hb : ¬ getI least1 (k + 1) < by_) : Rlx n at_ left used least way (k + 1) least1 way1 next by_ := by
  obtain ⟨e1, e2, e3⟩ := h.keep hn
  refine ⟨h.ll, h.lw, e3, e2, fun c h1 h2 h3 => ?_, ?_⟩
  · by_cases e : c = k + 1
    · subst e; omega
    · exact h.low c h1 (by omega) h3
  · rcases h.has with h1 | ⟨h1, h2, h3⟩
    · exact .inl h1
    · exact .inr ⟨h1, by omega, h3⟩
theorem Rlx.less (h : Rlx n at_ left used least way k least1 way1 next by_) (hu : getB used (k + 1) = false) (hn : ¬ left (k + 1) < getI least1 (k + 1)) (hb : getI least1 (k + 1) < by_) : Rlx n at_ left used least way (k + 1) least1 way1 (k + 1) (getI least1 (k + 1)) := by
  obtain ⟨e1, e2, e3⟩ := h.keep hn
  refine ⟨h.ll, h.lw, e3, e2, fun c h1 h2 h3 => ?_, .inr ⟨by omega, Nat.le_refl _, hu, rfl⟩⟩
  by_cases e : c = k + 1
  · subst e; omega
  · have := h.low c h1 (by omega) h3; omega
theorem Rlx.put (h : Rlx n at_ left used least way k least1 way1 next by_) (hk : k < 64) (hu : getB used (k + 1) = false) (hn : left (k + 1) < getI least1 (k + 1)) :
    (∀ c, getI (least1.set (k + 1) (left (k + 1))) c = if c = k + 1 then left (k + 1) else getI least1 c) ∧ (∀ c, getI (way1.set (k + 1) (at_ : Int)) c = if c = k + 1 then (at_ : Int) else getI way1 c) ∧
    (∀ c, 1 ≤ c → c ≤ k + 1 → getB used c = false → left c < getI least c → getI (least1.set (k + 1) (left (k + 1))) c = left c ∧ getI (way1.set (k + 1) (at_ : Int)) c = (at_ : Int)) ∧
    (∀ c, ¬ (1 ≤ c ∧ c ≤ k + 1 ∧ getB used c = false ∧ left c < getI least c) → getI (least1.set (k + 1) (left (k + 1))) c = getI least c ∧ getI (way1.set (k + 1) (at_ : Int)) c = getI way c) := by
  have e1 : ∀ c, getI (least1.set (k + 1) (left (k + 1))) c = if c = k + 1 then left (k + 1) else getI least1 c := fun c => by
    rw [getI_set, h.ll]
    by_cases e : c = k + 1
    · rw [if_pos ⟨e.symm, by omega⟩, if_pos e]
    · rw [if_neg (fun h => e h.1.symm), if_neg e]
  have e2 : ∀ c, getI (way1.set (k + 1) (at_ : Int)) c = if c = k + 1 then (at_ : Int) else getI way1 c := fun c => by
    rw [getI_set, h.lw]
    by_cases e : c = k + 1
    · rw [if_pos ⟨e.symm, by omega⟩, if_pos e]
    · rw [if_neg (fun h => e h.1.symm), if_neg e]
  refine ⟨e1, e2, fun c h1 h2 h3 h4 => ?_, fun c hc => ?_⟩
  · rw [e1, e2]
    by_cases e : c = k + 1
    · subst e; simp
    · rw [if_neg e, if_neg e]; exact h.yes c h1 (by omega) h3 h4
  · have e : c ≠ k + 1 := by
      rintro rfl
      have := (h.no (k + 1) (fun ⟨_, h2, _⟩ => by omega)).1
      exact hc ⟨by omega, Nat.le_refl _, hu, by omega⟩
    rw [e1, e2, if_neg e, if_neg e]
    exact h.no c fun ⟨h1, h2, h3⟩ => hc ⟨h1, by omega, h3⟩
theorem Rlx.put_same (h : Rlx n at_ left used least way k least1 way1 next by_) (hk : k < 64) (hu : getB used (k + 1) = false) (hn : left (k + 1) < getI least1 (k + 1)) (hb : ¬ left (k + 1) < by_) : Rlx n at_ left used least way (k + 1) (least1.set (k + 1) (left (k + 1))) (way1.set (k + 1) (at_ : Int)) next by_ := by
  obtain ⟨e1, e2, e3, e4⟩ := h.put hk hu hn
  refine ⟨by simp [h.ll], by simp [h.lw], e3, e4, fun c h1 h2 h3 => ?_, ?_⟩
  · rw [e1]
    by_cases e : c = k + 1
    · rw [if_pos e]; omega
    · rw [if_neg e]; exact h.low c h1 (by omega) h3
  · rcases h.has with h1 | ⟨h1, h2, h3, h4⟩
    · exact .inl h1
    · exact .inr ⟨h1, by omega, h3, by rw [e1, if_neg (by omega)]; exact h4⟩
theorem Rlx.put_less (h : Rlx n at_ left used least way k least1 way1 next by_) (hk : k < 64) (hu : getB used (k + 1) = false) (hn : left (k + 1) < getI least1 (k + 1)) (hb : left (k + 1) < by_) : Rlx n at_ left used least way (k + 1) (least1.set (k + 1) (left (k + 1))) (way1.set (k + 1) (at_ : Int)) (k + 1) (left (k + 1)) := by
  obtain ⟨e1, e2, e3, e4⟩ := h.put hk hu hn
  refine ⟨by simp [h.ll], by simp [h.lw], e3, e4, fun c h1 h2 h3 => ?_, .inr ⟨by omega, Nat.le_refl _, hu, by rw [e1, if_pos rfl]⟩⟩
  rw [e1]
  by_cases e : c = k + 1
  · rw [if_pos e]; omega
  · rw [if_neg e]; have := h.low c h1 (by omega) h3; omega
end

/-- The prices of the columns up to k - 1 (from 0 on), and of their rows, are turned. -/
structure Shf (n : Nat) (o : List Int) (used : List Bool) (by_ : Int) (u v least : List Int) (k : Nat) (u2 v2 least2 : List Int) : Prop where
  lu : u2.length = 65
  lv : v2.length = 65
  ll : least2.length = 65
  uyes : ∀ j, j < k → getB used j = true → getI u2 (ofN o j) = getI u (ofN o j) + by_
  uno : ∀ i, (∀ j, j < k → getB used j = true → ofN o j ≠ i) → getI u2 i = getI u i
  vyes : ∀ j, j < k → getB used j = true → getI v2 j = getI v j - by_
  vno : ∀ j, ¬ (j < k ∧ getB used j = true) → getI v2 j = getI v j
  lyes : ∀ j, j < k → getB used j = false → getI least2 j = getI least j - by_
  lno : ∀ j, ¬ (j < k ∧ getB used j = false) → getI least2 j = getI least j
theorem Shf.start {n : Nat} {o : List Int} {used : List Bool} {by_ : Int} {u v least : List Int} (hu : u.length = 65) (hv : v.length = 65) (hl : least.length = 65) : Shf n o used by_ u v least 0 u v least :=
  ⟨hu, hv, hl, fun j h => by omega, fun _ _ => rfl, fun j h => by omega, fun _ _ => rfl, fun j h => by omega, fun _ _ => rfl⟩
theorem Shf.used {n : Nat} {o : List Int} {used : List Bool} {by_ : Int} {u v least : List Int} {k : Nat} {u2 v2 least2 : List Int} (h : Shf n o used by_ u v least k u2 v2 least2) (hk : k ≤ 64) (hi : ofN o k ≤ 64) (hu : getB used k = true) (hone : ∀ j, j < k → getB used j = true → ofN o j ≠ ofN o k) :
    getI u2 (ofN o k) = getI u (ofN o k) ∧ getI v2 k = getI v k ∧ Shf n o used by_ u v least (k + 1) (u2.set (ofN o k) (getI u (ofN o k) + by_)) (v2.set k (getI v k - by_)) least2 := by
  have h1 := h.uno (ofN o k) hone
  have h2 := h.vno k (fun h => by omega)
  have e1 : ∀ i, getI (u2.set (ofN o k) (getI u (ofN o k) + by_)) i = if i = ofN o k then getI u (ofN o k) + by_ else getI u2 i := fun c => by
    rw [getI_set, h.lu]
    by_cases e : c = ofN o k
    · rw [if_pos ⟨e.symm, by omega⟩, if_pos e]
    · rw [if_neg (fun h => e h.1.symm), if_neg e]
  have e2 : ∀ i, getI (v2.set k (getI v k - by_)) i = if i = k then getI v k - by_ else getI v2 i := fun c => by
    rw [getI_set, h.lv]
    by_cases e : c = k
    · rw [if_pos ⟨e.symm, by omega⟩, if_pos e]
    · rw [if_neg (fun h => e h.1.symm), if_neg e]
  refine ⟨h1, h2, by simp [h.lu], by simp [h.lv], h.ll, fun j hj hu => ?_, fun i hi => ?_, fun j hj hu => ?_, fun j hj => ?_, fun j hj hju => ?_, fun j hj => h.lno j fun ⟨h3, h4⟩ => hj ⟨by omega, h4⟩⟩
  · rw [e1]
    by_cases e : j = k
    · subst e; rw [if_pos rfl]
    · rw [if_neg (hone j (by omega) hu)]; exact h.uyes j (by omega) hu
  · rw [e1, if_neg (fun e => hi k (by omega) hu e.symm)]
    exact h.uno i fun j hj => hi j (by omega)
  · rw [e2]
    by_cases e : j = k
    · subst e; rw [if_pos rfl]
    · rw [if_neg e]; exact h.vyes j (by omega) hu
  · rw [e2, if_neg (by rintro rfl; exact hj ⟨by omega, hu⟩)]
    exact h.vno j fun ⟨h3, h4⟩ => hj ⟨by omega, h4⟩
  · have : j ≠ k := by rintro rfl; rw [hu] at hju; cases hju
    exact h.lyes j (by omega) hju
theorem Shf.other {n : Nat} {o : List Int} {used : List Bool} {by_ : Int} {u v least : List Int} {k : Nat} {u2 v2 least2 : List Int} (h : Shf n o used by_ u v least k u2 v2 least2) (hk : k ≤ 64) (hu : getB used k = false) :
    getI least2 k = getI least k ∧ Shf n o used by_ u v least (k + 1) u2 v2 (least2.set k (getI least k - by_)) := by
  have h1 := h.lno k (fun h => by omega)
  have e1 : ∀ i, getI (least2.set k (getI least k - by_)) i = if i = k then getI least k - by_ else getI least2 i := fun c => by
    rw [getI_set, h.ll]
    by_cases e : c = k
    · rw [if_pos ⟨e.symm, by omega⟩, if_pos e]
    · rw [if_neg (fun h => e h.1.symm), if_neg e]
  refine ⟨h1, h.lu, h.lv, by simp [h.ll], fun j hj hju => ?_, fun i hi => h.uno i fun j hj => hi j (by omega), fun j hj hju => ?_, fun j hj => h.vno j fun ⟨h3, h4⟩ => hj ⟨by omega, h4⟩, fun j hj hju => ?_, fun j hj => ?_⟩
  · have : j ≠ k := by rintro rfl; rw [hu] at hju; cases hju
    exact h.uyes j (by omega) hju
  · have : j ≠ k := by rintro rfl; rw [hu] at hju; cases hju
    exact h.vyes j (by omega) hju
  · rw [e1]
    by_cases e : j = k
    · subst e; rw [if_pos rfl]
    · rw [if_neg e]; exact h.lyes j (by omega) hju
  · rw [e1, if_neg (by rintro rfl; exact hj ⟨by omega, hu⟩)]
    exact h.lno j fun ⟨h3, h4⟩ => hj ⟨by omega, h4⟩

/-- All prices are far from what an int can't hold. -/
theorem HS.small {W : Nat → Nat → Int} {n m : Nat} {u v o way least : List Int} {used : List Bool} {d : Nat → Nat} {k at_ : Nat} (h : HS W n m u v o way least used d k at_) (hm : m < n) (hn : n ≤ 64) :
    (∀ i, 1 ≤ i → i ≤ n → -72567905845314 ≤ getI u i ∧ getI u i ≤ 72567905845314) ∧ ∀ j, j ≤ n → -72567905845314 ≤ getI v j ∧ getI v j ≤ 72567905845314 := by
  have ho := h.own
  refine ⟨fun i h1 h2 => ?_, fun j hj => ?_⟩
  · by_cases e : i ≤ m
    · have := h.ub i h1 e; omega
    · by_cases e2 : i = m + 1
      · subst e2; omega
      · have := h.fresh i (by omega) h2; omega
  · by_cases e : j = 0
    · subst e; have := h.v0; omega
    · have := h.vb j (by omega) hj; omega
theorem HS.atRow {W : Nat → Nat → Int} {n m : Nat} {u v o way least : List Int} {used : List Bool} {d : Nat → Nat} {k at_ : Nat} (h : HS W n m u v o way least used d k at_) (hat : getI o at_ ≠ 0) : ∃ i : Nat, getI o at_ = i ∧ 1 ≤ i ∧ i ≤ m + 1 := by
  by_cases e : at_ = 0
  · subst e; exact ⟨m + 1, h.of0, by omega, by omega⟩
  · obtain ⟨i, h1, h2⟩ := h.ofv at_ (by omega) h.atn
    exact ⟨i, h1, by omega, by omega⟩
theorem HS.usedOf {W : Nat → Nat → Int} {n m : Nat} {u v o way least : List Int} {used : List Bool} {d : Nat → Nat} {k at_ : Nat} (h : HS W n m u v o way least used d k at_) {j : Nat} (hj : getB used j = true) : ∃ i : Nat, getI o j = i ∧ 1 ≤ i ∧ i ≤ m + 1 := by
  obtain ⟨h1, h2⟩ := h.use j hj
  by_cases e : j = 0
  · subst e; exact ⟨m + 1, h.of0, by omega, by omega⟩
  · obtain ⟨i, h3, h4⟩ := h.ofv j (by omega) h1
    exact ⟨i, h3, by omega, by omega⟩
theorem HS.marked {W : Nat → Nat → Int} {n m : Nat} {u v o way least : List Int} {used : List Bool} {d : Nat → Nat} {k at_ : Nat} (h : HS W n m u v o way least used d k at_) (hn : n ≤ 64) (j : Nat) : getB (used.set at_ true) j = true ↔ (j = at_ ∨ getB used j = true) := by
  have := h.atn
  rw [getB_set, h.lus]
  by_cases e : at_ = j
  · subst e; rw [if_pos ⟨rfl, by omega⟩]; simp
  · rw [if_neg (fun h => e h.1)]
    constructor
    · exact .inr
    · rintro (h | h)
      · exact absurd h.symm e
      · exact h
theorem HS.one {W : Nat → Nat → Int} {n m : Nat} {u v o way least : List Int} {used : List Bool} {d : Nat → Nat} {k at_ : Nat} (h : HS W n m u v o way least used d k at_) {i j : Nat} (hi : i ≤ n) (hj : j ≤ n) (h1 : 1 ≤ getI o i) (e : getI o i = getI o j) : i = j := by
  have h0 := h.of0
  by_cases a : i = 0
  · by_cases b : j = 0
    · omega
    · obtain ⟨x, h2, h3⟩ := h.ofv j (by omega) hj
      subst a; omega
  · by_cases b : j = 0
    · obtain ⟨x, h2, h3⟩ := h.ofv i (by omega) hi
      subst b; omega
    · exact h.inj i j (by omega) hi (by omega) hj h1 e

theorem HS.rowOf {W : Nat → Nat → Int} {n m : Nat} {u v o way least : List Int} {used : List Bool} {d : Nat → Nat} {k at_ : Nat} (h : HS W n m u v o way least used d k at_) (hn : n ≤ 64) (hat : getI o at_ ≠ 0) {j : Nat} (hj : getB (used.set at_ true) j = true) : j ≤ n ∧ ∃ i : Nat, getI o j = i ∧ 1 ≤ i ∧ i ≤ m + 1 := by
  rcases (h.marked hn j).1 hj with rfl | hj
  · exact ⟨h.atn, h.atRow hat⟩
  · exact ⟨(h.use j hj).1, h.usedOf hj⟩
theorem HS.onlyOne {W : Nat → Nat → Int} {n m : Nat} {u v o way least : List Int} {used : List Bool} {d : Nat → Nat} {k at_ : Nat} (h : HS W n m u v o way least used d k at_) (hn : n ≤ 64) (hat : getI o at_ ≠ 0) {i j : Nat} (hi : getB (used.set at_ true) i = true) (hj : getB (used.set at_ true) j = true) (e : ofN o i = ofN o j) : i = j := by
  obtain ⟨h1, x, h2, h3, h4⟩ := h.rowOf hn hat hi
  obtain ⟨k1, y, k2, k3, k4⟩ := h.rowOf hn hat hj
  unfold ofN at e
  exact h.one h1 k1 (by omega) (by omega)
theorem HS.step {W : Nat → Nat → Int} (hW : WOk W) {n m : Nat} {u v o way least : List Int} {used : List Bool} {d : Nat → Nat} {k at_ : Nat} (h : HS W n m u v o way least used d k at_) (hm : m < n) (hn : n ≤ 64) (hat : getI o at_ ≠ 0)
    {least1 way1 : List Int} {next : Nat} {by_ : Int} (hr : Rlx n at_ (rc W u v (ofN o at_)) (used.set at_ true) least way n least1 way1 next by_) :
    (1 ≤ next ∧ next ≤ n ∧ -72567905845314 ≤ by_ ∧ by_ ≤ 172567905845314) ∧ (∀ c, c ≤ n → getB (used.set at_ true) c = false → -72567905845314 ≤ getI least1 c ∧ getI least1 c ≤ 172567905845314) ∧
    ∀ {u2 v2 least2 : List Int}, Shf n o (used.set at_ true) by_ u v least1 (n + 1) u2 v2 least2 →
      HS W n m u2 v2 o way1 least2 (used.set at_ true) (fun j => if j = next then k + 1 else d j) (k + 1) next := by
  have hU := h.marked hn
  have hlen : (used.set at_ true).length = 65 := by simp [h.lus]
  have hUf : ∀ j, getB (used.set at_ true) j = false ↔ ¬ (j = at_ ∨ getB used j = true) := fun j => by
    rw [← hU j]; simp
  generalize used.set at_ true = U at *
  obtain ⟨ro, hro, hro1, hrom⟩ := h.atRow hat
  have hroN : ofN o at_ = ro := by unfold ofN; omega
  rw [hroN] at hr
  obtain ⟨hus, hvs⟩ := h.small hm hn
  have hown := h.own
  have hUrow : ∀ j, getB U j = true → j ≤ n ∧ ∃ i : Nat, getI o j = i ∧ ofN o j = i ∧ 1 ≤ i ∧ i ≤ m + 1 := fun j hj => by
    rcases (hU j).1 hj with rfl | hj
    · exact ⟨h.atn, ro, hro, hroN, hro1, hrom⟩
    · obtain ⟨i, h1, h2, h3⟩ := h.usedOf hj
      exact ⟨(h.use j hj).1, i, h1, by unfold ofN; omega, h2, h3⟩
  have hU0 : getB U 0 = true := by
    rw [hU]
    by_cases e : k = 0
    · exact .inl (h.zero e).1.symm
    · exact .inr (h.zero1 e)
  have hof0 : ofN o 0 = m + 1 := by have := h.of0; unfold ofN; omega
  have hlt : ∀ i j, 1 ≤ i → i ≤ n → 1 ≤ j → j ≤ n → rc W u v i j < 1152921504606846976 := fun i j h1 h2 h3 h4 => by
    unfold rc
    have := hW.lo (i - 1) (j - 1)
    have := hus i h1 h2
    have := hvs j h4
    omega
  have hhi : ∀ i j, 1 ≤ i → i ≤ n → 1 ≤ j → j ≤ n → rc W u v i j ≤ 172567905845314 := fun i j h1 h2 h3 h4 => by
    unfold rc
    have := hW.lo (i - 1) (j - 1)
    have := hus i h1 h2
    have := hvs j h4
    omega
  -- what the look at the columns has left
  have low1 : ∀ j c, getB U j = true → 1 ≤ c → c ≤ n → getB U c = false → getI least1 c ≤ rc W u v (ofN o j) c := fun j c hj h1 h2 hc => by
    by_cases e : rc W u v ro c < getI least c
    · have hy := (hr.yes c h1 h2 hc e).1
      rcases (hU j).1 hj with rfl | hj
      · rw [hroN]; omega
      · have := h.low j c hj h1 h2 (by have := (hUf c).1 hc; cases e2 : getB used c
                                       · rfl
                                       · exact absurd (.inr e2) this)
        omega
    · have hy := (hr.no c (fun h => e h.2.2.2)).1
      rcases (hU j).1 hj with rfl | hj
      · rw [hroN]; omega
      · have := h.low j c hj h1 h2 (by have := (hUf c).1 hc; cases e2 : getB used c
                                       · rfl
                                       · exact absurd (.inr e2) this)
        omega
  have high1 : ∀ c, 1 ≤ c → c ≤ n → getB U c = false → ∃ p : Nat, getI way1 c = p ∧ getB U p = true ∧ getI least1 c = rc W u v (ofN o p) c := fun c h1 h2 hc => by
    by_cases e : rc W u v ro c < getI least c
    · have hy := hr.yes c h1 h2 hc e
      exact ⟨at_, hy.2, (hU at_).2 (.inl rfl), by rw [hroN]; exact hy.1⟩
    · have hy := hr.no c (fun h => e h.2.2.2)
      have hk : k ≠ 0 := fun hk => by
        have h3 := h.far hk c (by omega)
        have := hlt ro c hro1 (by omega) h1 h2
        omega
      obtain ⟨p, h3, h4, h5⟩ := h.high hk c h1 h2 (by have := (hUf c).1 hc; cases e2 : getB used c
                                                      · rfl
                                                      · exact absurd (.inr e2) this)
      exact ⟨p, by rw [hy.2]; exact h3, (hU p).2 (.inr h4), by rw [hy.1]; exact h5⟩
  obtain ⟨c0, hc1, hc2, hc3⟩ := free_col hm h.ofv h.inj
  have hcU : getB U c0 = false := by
    cases e : getB U c0
    · rfl
    · obtain ⟨_, i, h1, _, h2, _⟩ := hUrow c0 e
      omega
  have hl0 := low1 0 c0 hU0 hc1 hc2 hcU
  have hb0 := hr.low c0 hc1 hc2 hcU
  rw [hof0] at hl0
  have hl1 := hlt (m + 1) c0 (by omega) (by omega) hc1 hc2
  obtain ⟨hn1, hn2, hnU, hby⟩ : 1 ≤ next ∧ next ≤ n ∧ getB U next = false ∧ by_ = getI least1 next := by
    rcases hr.has with ⟨_, h1⟩ | h1
    · omega
    · exact h1
  have hbhi : by_ ≤ - getI u (m + 1) := by
    have h1 := h.free c0 hc1 hc2 hc3
    unfold rc at hl0
    have := hW.lo (m + 1 - 1) (c0 - 1)
    omega
  have hge : k ≠ 0 → ∀ i c, 1 ≤ i → i ≤ m + 1 → 1 ≤ c → c ≤ n → 0 ≤ rc W u v i c := fun hk i c h1 h2 h3 h4 => by
    by_cases e : i = m + 1
    · subst e; exact h.feas1 hk c h3 h4
    · exact h.feas i c h1 (by omega) h3 h4
  obtain ⟨pn, hp1, hp2, hp3⟩ := high1 next hn1 hn2 hnU
  obtain ⟨hpn, ip, hip0, hip, hip1, hipm⟩ := hUrow pn hp2
  have hb1 : k ≠ 0 → 0 ≤ by_ := fun hk => by
    rw [hby, hp3, hip]; exact hge hk ip next hip1 hipm hn1 hn2
  have hb2 : k = 0 → -1099513724929 ≤ by_ := fun hk => by
    have h1 := h.zero hk
    have h2 : pn = 0 := by
      rcases (hU pn).1 hp2 with h3 | h3
      · omega
      · rw [h1.2 pn] at h3; cases h3
    subst h2
    rw [hof0] at hp3
    unfold rc at hp3
    have := hW.hi (m + 1 - 1) (next - 1)
    have := (h.vb next hn1 hn2).2
    have := h.own0 hk
    omega
  have hk1 : ∀ j, 1 ≤ j → getB U j = true → k ≠ 0 := fun j h1 h2 hk => by
    have h3 := h.zero hk
    rcases (hU j).1 h2 with h4 | h4
    · omega
    · rw [h3.2 j] at h4; cases h4
  have hb3 : -72567905845314 ≤ by_ := by
    by_cases e : k = 0
    · have := hb2 e; omega
    · have := hb1 e; omega
  refine ⟨⟨hn1, hn2, hb3, ?_⟩, fun c hc hu => ?_, fun {u2 v2 least2} hs => ?_⟩
  · rw [hby, hp3, hip]
    exact hhi ip next hip1 (by omega) hn1 hn2
  · have h1 : 1 ≤ c := by
      refine Nat.pos_of_ne_zero fun e => ?_
      rw [e, hU0] at hu; cases hu
    have h2 := hr.low c h1 hc hu
    have h3 := low1 0 c hU0 h1 hc hu
    have h4 := hhi (m + 1) c (by omega) (by omega) h1 hc
    rw [hof0] at h3
    omega
  have uT : ∀ j, getB U j = true → getI u2 (ofN o j) = getI u (ofN o j) + by_ := fun j hj => hs.uyes j (by have := (hUrow j hj).1; omega) hj
  have uF : ∀ i, (∀ j, getB U j = true → ofN o j ≠ i) → getI u2 i = getI u i := fun i hi => hs.uno i fun j _ hj => hi j hj
  have vT : ∀ j, getB U j = true → getI v2 j = getI v j - by_ := fun j hj => hs.vyes j (by have := (hUrow j hj).1; omega) hj
  have vF : ∀ j, getB U j = false → getI v2 j = getI v j := fun j hj => hs.vno j fun h => by rw [hj] at h; cases h.2
  have lT : ∀ j, j ≤ n → getB U j = false → getI least2 j = getI least1 j - by_ := fun j hj hu => hs.lyes j (by omega) hu
  have uown : getI u2 (m + 1) = getI u (m + 1) + by_ := by have := uT 0 hU0; rwa [hof0] at this
  have hTF : ∀ i, (∃ j, getB U j = true ∧ ofN o j = i) ∨ ∀ j, getB U j = true → ofN o j ≠ i := fun i => by
    by_cases e : ∃ j, getB U j = true ∧ ofN o j = i
    · exact .inl e
    · exact .inr fun j h1 h2 => e ⟨j, h1, h2⟩
  have hinj : ∀ i j, i ≤ n → j ≤ n → 1 ≤ getI o i → getI o i = getI o j → i = j := fun i j h1 h2 h3 h4 => h.one h1 h2 h3 h4
  have r1 : ∀ j c, getB U j = true → getB U c = true → rc W u2 v2 (ofN o j) c = rc W u v (ofN o j) c := fun j c h1 h2 => by
    unfold rc; rw [uT j h1, vT c h2]; omega
  have r2 : ∀ j c, getB U j = true → getB U c = false → rc W u2 v2 (ofN o j) c = rc W u v (ofN o j) c - by_ := fun j c h1 h2 => by
    unfold rc; rw [uT j h1, vF c h2]; omega
  have r3 : ∀ i c, (∀ j, getB U j = true → ofN o j ≠ i) → getB U c = true → rc W u2 v2 i c = rc W u v i c + by_ := fun i c h1 h2 => by
    unfold rc; rw [uF i h1, vT c h2]; omega
  have r4 : ∀ i c, (∀ j, getB U j = true → ofN o j ≠ i) → getB U c = false → rc W u2 v2 i c = rc W u v i c := fun i c h1 h2 => by
    unfold rc; rw [uF i h1, vF c h2]
  refine ⟨hs.lu, hs.lv, h.lo, hr.lw, hs.ll, ?_, h.of0, h.ofv, h.inj, h.cov, fun i j h1 h2 h3 h4 => ?_, fun i j h1 h2 h3 h4 => ?_, fun _ j h3 h4 => ?_, fun j h1 h2 h3 => ?_, fun i h1 h2 => ?_, ?_, fun h => by omega, fun j h1 h2 => ?_, fun h => by omega, fun h => by omega, fun i h1 h2 => ?_, ?_, hn2, hnU, fun j hj => ?_, fun h => by omega, fun _ => hU0, fun j h1 h2 => ?_, fun j h1 => ?_, fun j c hj h1 h2 hc => ?_, fun _ c h1 h2 hc => ?_, fun _ c h1 h2 hc => ?_, fun h => by omega⟩
  · exact hlen
  · by_cases e : getB U j = true
    · have e2 : ofN o j = i := by unfold ofN; omega
      have := r1 j j e e
      rw [e2] at this
      rw [this]; exact h.tight i j h1 h2 h3 h4
    · rw [r4 i j (fun j' hj' hi => ?_) (by simpa using e)]
      · exact h.tight i j h1 h2 h3 h4
      · obtain ⟨q1, i', q2, q3, q4, q5⟩ := hUrow j' hj'
        have := hinj j' j q1 h3 (by omega) (by omega)
        exact e (this ▸ hj')
  · rcases hTF i with ⟨j', h5, h6⟩ | h5
    · by_cases e : getB U j = true
      · have := r1 j' j h5 e
        rw [h6] at this
        rw [this]; exact h.feas i j h1 h2 h3 h4
      · have e' : getB U j = false := by simpa using e
        have h7 := r2 j' j h5 e'
        have h8 := low1 j' j h5 h3 h4 e'
        have := hr.low j h3 h4 e'
        rw [h6] at h7 h8
        omega
    · by_cases e : getB U j = true
      · rw [r3 i j h5 e]; have := hb1 (hk1 j h3 e); have := h.feas i j h1 h2 h3 h4; omega
      · rw [r4 i j h5 (by simpa using e)]; exact h.feas i j h1 h2 h3 h4
  · by_cases e : getB U j = true
    · have := r1 0 j hU0 e
      rw [hof0] at this
      rw [this]; exact h.feas1 (hk1 j h3 e) j h3 h4
    · have e' : getB U j = false := by simpa using e
      have h7 := r2 0 j hU0 e'
      have h8 := low1 0 j hU0 h3 h4 e'
      have := hr.low j h3 h4 e'
      rw [hof0] at h7 h8
      omega
  · rw [vF j]
    · exact h.free j h1 h2 h3
    · cases e : getB U j
      · rfl
      · obtain ⟨_, i, q1, _, q2, _⟩ := hUrow j e
        omega
  · rw [uF i fun j hj e => ?_]
    · exact h.fresh i h1 h2
    · obtain ⟨_, i', q1, q2, q3, q4⟩ := hUrow j hj
      omega
  · rw [uown]
    by_cases ek : k = 0
    · have := hb2 ek; have := h.own0 ek; omega
    · have := hb1 ek; omega
  · rw [uown]
    have hvb := h.vb j h1 h2
    by_cases e : getB U j = true
    · rw [vT j e]; have := hb1 (hk1 j h1 e); omega
    · rw [vF j (by simpa using e)]
      by_cases ek : k = 0
      · have := h.vb0 ek j h1 h2; have := hb2 ek; have := h.own0 ek; omega
      · have := hb1 ek; omega
  · rw [uown]
    have hub := h.ub i h1 h2
    rcases hTF i with ⟨j', h5, h6⟩ | h5
    · have h7 : j' ≠ 0 := by rintro rfl; omega
      have := hb1 (hk1 j' (by omega) h5)
      have h8 := uT j' h5
      rw [h6] at h8
      omega
    · rw [uF i h5]
      by_cases ek : k = 0
      · have := h.ub0 ek i h1 h2; have := hb2 ek; have := h.own0 ek; omega
      · have := hb1 ek; omega
  · rw [uown, vT 0 hU0]; have := h.v0; omega
  · obtain ⟨q, i, h1, _, h2, _⟩ := hUrow j hj
    exact ⟨q, by omega⟩
  · by_cases e : j = next
    · subst e
      have hne : pn ≠ j := by rintro rfl; rw [hnU] at hp2; cases hp2
      refine ⟨pn, hp1, hp2, ?_, ?_⟩
      · show (if pn = j then k + 1 else d pn) < (if j = j then k + 1 else d j)
        rw [if_neg hne, if_pos rfl]
        have := h.dk pn (by rcases (hU pn).1 hp2 with h | h
                            · exact .inr h
                            · exact .inl h)
        omega
      · rw [r2 pn j hp2 hnU, ← hp3, ← hby]; omega
    · have hj : getB used j = true ∨ j = at_ := by
        rcases h2 with h2 | h2
        · rcases (hU j).1 h2 with h3 | h3
          · exact .inr h3
          · exact .inl h3
        · exact absurd h2 e
      have hUj : getB U j = true := (hU j).2 (by rcases hj with h | h
                                                 · exact .inr h
                                                 · exact .inl h)
      obtain ⟨p, q1, q2, q3, q4⟩ := h.tree j h1 hj
      have hUp : getB U p = true := (hU p).2 (.inr q2)
      have hne : p ≠ next := by rintro rfl; rw [hnU] at hUp; cases hUp
      refine ⟨p, by rw [(hr.no j (fun h => by rw [hUj] at h; cases h.2.2.1)).2]; exact q1, hUp, ?_, by rw [r1 p j hUp hUj]; exact q4⟩
      show (if p = next then k + 1 else d p) < (if j = next then k + 1 else d j)
      rw [if_neg hne, if_neg e]; exact q3
  · show (if j = next then k + 1 else d j) ≤ k + 1
    by_cases e : j = next
    · rw [if_pos e]; exact Nat.le_refl _
    · rw [if_neg e]
      have := h.dk j (by rcases h1 with h1 | h1
                         · rcases (hU j).1 h1 with h2 | h2
                           · exact .inr h2
                           · exact .inl h2
                         · exact absurd h1 e)
      omega
  · rw [lT c h2 hc, r2 j c hj hc]; have := low1 j c hj h1 h2 hc; omega
  · obtain ⟨p, q1, q2, q3⟩ := high1 c h1 h2 hc
    exact ⟨p, q1, q2, by rw [lT c h2 hc, r2 p c q2 hc, q3]⟩
  · rw [lT c h2 hc]; have := hr.low c h1 h2 hc; omega

/-- Behind the search: columns hand on their rows along the way; the column at_ has none. -/
structure HA (W : Nat → Nat → Int) (n m : Nat) (u v o : List Int) (used : List Bool) (d : Nat → Nat) (at0 : Nat) (o2 : List Int) (at_ : Nat) : Prop where
  lo : o2.length = 65
  atn : at_ ≤ n
  mem : getB used at_ = true ∨ at_ = at0
  ofv : ∀ j, j ≤ n → ∃ i : Nat, getI o2 j = i ∧ i ≤ m + 1
  inj : ∀ i j, i ≤ n → j ≤ n → i ≠ at_ → j ≠ at_ → 1 ≤ getI o2 i → getI o2 i = getI o2 j → i = j
  cov : ∀ i : Nat, 1 ≤ i → i ≤ m + 1 → ∃ j, j ≤ n ∧ j ≠ at_ ∧ getI o2 j = i
  tight : ∀ i j : Nat, 1 ≤ i → 1 ≤ j → j ≤ n → j ≠ at_ → getI o2 j = i → rc W u v i j = 0
  deep : ∀ j, getB used j = true → d j < d at_ → getI o2 j = getI o j
  zero : ∀ j, 1 ≤ j → j ≤ n → getI o2 j = 0 → getI o j = 0
theorem HA.start {W : Nat → Nat → Int} {n m : Nat} {u v o way least : List Int} {used : List Bool} {d : Nat → Nat} {k at_ : Nat} (h : HS W n m u v o way least used d k at_) (hz : getI o at_ = 0) : HA W n m u v o used d at_ o at_ ∧ at_ ≠ 0 := by
  have h0 := h.of0
  have hat : at_ ≠ 0 := by rintro rfl; omega
  refine ⟨⟨h.lo, h.atn, .inr rfl, fun j hj => ?_, fun i j h1 h2 _ _ h5 h6 => h.one h1 h2 h5 h6, fun i h1 h2 => ?_, fun i j h1 h2 h3 _ h5 => h.tight i j h1 h2 h3 h5, fun _ _ _ => rfl, fun _ _ _ h => h⟩, hat⟩
  · by_cases e : j = 0
    · subst e; exact ⟨m + 1, h0, Nat.le_refl _⟩
    · obtain ⟨i, h1, h2⟩ := h.ofv j (by omega) hj
      exact ⟨i, h1, by omega⟩
  · by_cases e : i = m + 1
    · subst e; exact ⟨0, by omega, Ne.symm hat, h0⟩
    · obtain ⟨j, h3, h4, h5⟩ := h.cov i h1 (by omega)
      exact ⟨j, h4, by rintro rfl; omega, h5⟩
theorem HA.step {W : Nat → Nat → Int} {n m : Nat} {u v o way least : List Int} {used : List Bool} {d : Nat → Nat} {k at0 : Nat} (h : HS W n m u v o way least used d k at0) (hn : n ≤ 64) {o2 : List Int} {at_ : Nat} (ha : HA W n m u v o used d at0 o2 at_) (hat : at_ ≠ 0) :
    ∃ p i : Nat, getI way at_ = p ∧ p ≤ n ∧ d p < d at_ ∧ getI o2 p = i ∧ i ≤ m + 1 ∧ HA W n m u v o used d at0 (o2.set at_ (i : Int)) p := by
  obtain ⟨p, q1, q2, q3, q4⟩ := h.tree at_ (by omega) ha.mem
  have hpn := (h.use p q2).1
  obtain ⟨i, h1, h2, h3⟩ := h.usedOf q2
  have h4 : getI o2 p = i := by rw [ha.deep p q2 q3]; exact h1
  have hoN : ofN o p = i := by unfold ofN; omega
  rw [hoN] at q4
  have hne : p ≠ at_ := by rintro rfl; omega
  have hat64 := ha.atn
  have e : ∀ j, getI (o2.set at_ (i : Int)) j = if j = at_ then (i : Int) else getI o2 j := fun j => by
    rw [getI_set, ha.lo]
    by_cases e : j = at_
    · rw [if_pos ⟨e.symm, by omega⟩, if_pos e]
    · rw [if_neg (fun h => e h.1.symm), if_neg e]
  refine ⟨p, i, q1, hpn, q3, h4, h3, by simp [ha.lo], hpn, .inl q2, fun j hj => ?_, fun a b a1 b1 a2 b2 a3 ab => ?_, fun x x1 x2 => ?_, fun x j x1 j1 j2 j3 xj => ?_, fun j j1 j2 => ?_, fun j j1 j2 j3 => ?_⟩
  · rw [e]
    by_cases ej : j = at_
    · rw [if_pos ej]; exact ⟨i, rfl, h3⟩
    · rw [if_neg ej]; exact ha.ofv j hj
  · rw [e] at a3 ab
    rw [e] at ab
    by_cases ea : a = at_
    · rw [if_pos ea] at ab
      by_cases eb : b = at_
      · omega
      · rw [if_neg eb] at ab
        exact absurd (ha.inj b p b1 hpn eb hne (by omega) (by omega)) b2
    · rw [if_neg ea] at ab a3
      by_cases eb : b = at_
      · rw [if_pos eb] at ab
        exact absurd (ha.inj a p a1 hpn ea hne (by omega) (by omega)) a2
      · rw [if_neg eb] at ab
        exact ha.inj a b a1 b1 ea eb a3 ab
  · by_cases ex : x = i
    · exact ⟨at_, ha.atn, Ne.symm hne, by rw [e, if_pos rfl, ex]⟩
    · obtain ⟨j, j1, j2, j3⟩ := ha.cov x x1 x2
      exact ⟨j, j1, by rintro rfl; omega, by rw [e, if_neg j2]; exact j3⟩
  · rw [e] at xj
    by_cases ej : j = at_
    · rw [if_pos ej] at xj
      have : i = x := by omega
      subst this; subst ej; exact q4
    · rw [if_neg ej] at xj
      exact ha.tight x j x1 j1 j2 ej xj
  · have ej : j ≠ at_ := by rintro rfl; omega
    rw [e, if_neg ej]
    exact ha.deep j j1 (by omega)
  · rw [e] at j3
    by_cases ej : j = at_
    · rw [if_pos ej] at j3; omega
    · rw [if_neg ej] at j3; exact ha.zero j j1 j2 j3
theorem HA.done {W : Nat → Nat → Int} {n m : Nat} {u v o way least : List Int} {used : List Bool} {d : Nat → Nat} {k at0 : Nat} (h : HS W n m u v o way least used d k at0) (h00 : at0 ≠ 0) {o2 : List Int} (ha : HA W n m u v o used d at0 o2 0) : HR W n (m + 1) u v o2 := by
  have hk : k ≠ 0 := fun e => h00 (h.zero e).1
  have hown := h.own
  refine ⟨h.lu, h.lv, ha.lo, fun j _ h2 => ha.ofv j h2, fun i j h1 h2 h3 h4 h5 h6 => ha.inj i j h2 h4 (by omega) (by omega) h5 h6, fun i h1 h2 => ?_, fun i j h1 h2 h3 h4 => ha.tight i j h1 h2 h3 (by omega) h4, fun i j h1 h2 h3 h4 => ?_, fun j h1 h2 h3 => h.free j h1 h2 (ha.zero j h1 h2 h3), fun i h1 h2 => h.fresh i h1 h2, fun j h1 h2 => ?_, fun i h1 h2 => ?_, ?_⟩
  · obtain ⟨j, h3, h4, h5⟩ := ha.cov i h1 h2
    exact ⟨j, by omega, h3, h5⟩
  · by_cases e : i = m + 1
    · subst e; exact h.feas1 hk j h3 h4
    · exact h.feas i j h1 (by omega) h3 h4
  · have := h.vb j h1 h2
    omega
  · by_cases e : i ≤ m
    · have := h.ub i h1 e; omega
    · by_cases e2 : i = m + 1
      · subst e2; omega
      · have := h.fresh i (by omega) h2; omega
  · have := h.v0
    omega
theorem HR.start {W : Nat → Nat → Int} {n : Nat} {u v o : List Int} (hu : u = List.replicate 65 0) (hv : v = List.replicate 65 0) (ho : o = List.replicate 65 0) (hn : n ≤ 64) : HR W n 0 u v o := by
  have e : ∀ j, j ≤ 64 → getI (List.replicate 65 (0 : Int)) j = 0 := fun j hj => by
    unfold getI; rw [List.getElem?_replicate, if_pos (by omega)]; rfl
  subst hu; subst hv; subst ho
  refine ⟨by simp, by simp, by simp, fun j _ h => ⟨0, e j (by omega), Nat.le_refl _⟩, fun i j _ h2 _ _ h5 => ?_, fun i h1 h2 => by omega, fun i j h1 _ h3 h4 => ?_, fun i j h1 h2 => by omega, fun j _ h _ => e j (by omega), fun i _ h => e i (by omega), fun j _ h => ?_, fun i _ h => ?_, ?_⟩
  · rw [e i (by omega)] at h5; omega
  · rw [e j (by omega)] at h4; omega
  · rw [e j (by omega)]; omega
  · rw [e i (by omega)]; omega
  · rw [e 0 (by omega)]; omega
end Go.Proofs.Ytmddhjoomlhbcaa
