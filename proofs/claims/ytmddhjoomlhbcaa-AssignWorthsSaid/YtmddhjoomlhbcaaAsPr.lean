/- The columns' least prices, in plain Lean. -/
import Derived.Test.YtmddhjoomlhbcaaAsOpt
namespace Go.Proofs.Ytmddhjoomlhbcaa

/-- What a row has without another column. -/
def ownP (W : Nat → Nat → Int) (tt z : List Int) (r : Nat) : Int := if getI tt r < 0 then 0 else W r (getI tt r).toNat - getI z (getI tt r).toNat
structure PrI (W : Nat → Nat → Int) (R C : Nat) (tt z : List Int) : Prop where
  len : z.length = 64
  nonneg : ∀ c, c < 64 → 0 ≤ getI z c
  out : ∀ c, C ≤ c → c < 64 → getI z c = 0
  low : ∀ y' z', Dual W R C y' z' → Slack W R C (getI tt) y' z' → ∀ c, c < C → getI z c ≤ z' c
/-- No price of a column of rows below r wants to rise. -/
def closedP (W : Nat → Nat → Int) (C : Nat) (tt z : List Int) (r : Nat) : Prop := ∀ x c : Nat, x < r → c < C → getI tt x ≠ c → W x c - ownP W tt z x ≤ getI z c
def closedC (W : Nat → Nat → Int) (tt z : List Int) (r k : Nat) : Prop := ∀ c : Nat, c < k → getI tt r ≠ c → W r c - ownP W tt z r ≤ getI z c
/-- How far the prices may still rise. -/
def gapP (C : Nat) (z : List Int) : Nat := (150000000000000 * (C : Int) - sumN (getI z) C).toNat
section
variable {W : Nat → Nat → Int} {R C : Nat} {tt z : List Int}
theorem PrI.start (hC : C ≤ 64) : PrI W R C tt (List.replicate 64 0) := by
  have e : ∀ c, c < 64 → getI (List.replicate 64 (0 : Int)) c = 0 := fun c hc => by
    unfold getI; rw [List.getElem?_replicate, if_pos hc]; rfl
  exact ⟨by simp, fun c hc => by rw [e c hc]; exact Int.le_refl _, fun c _ hc => e c hc, fun y' z' d _ c hc => by rw [e c (by omega)]; exact d.z0 c hc⟩
theorem PrI.small (h : PrI W R C tt z) (ht : Top W R C (getI tt)) : ∀ c, c < 64 → 0 ≤ getI z c ∧ getI z c ≤ 150000000000000 := fun c hc => by
  obtain ⟨y, zz, d, s, _, b⟩ := ht.shown
  refine ⟨h.nonneg c hc, ?_⟩
  by_cases e : c < C
  · have := h.low y zz d s c e
    have := b c e
    omega
  · rw [h.out c (by omega) hc]; omega
theorem PrI.own (h : PrI W R C tt z) (ht : Top W R C (getI tt)) {y' z' : Nat → Int} (d : Dual W R C y' z') (s : Slack W R C (getI tt) y' z') {r : Nat} (hr : r < R) : y' r ≤ ownP W tt z r := by
  unfold ownP
  by_cases e : getI tt r < 0
  · rw [if_pos e, s.row r hr e]; exact Int.le_refl _
  · rw [if_neg e]
    obtain ⟨c, h1, _, h2, _⟩ := ht.mat.at (Int.not_lt.1 e)
    rw [h1, Int.toNat_natCast]
    have := s.pair r c hr h2 h1
    have := h.low y' z' d s c h2
    omega
theorem PrI.own0 (h : PrI W R C tt z) (ht : Top W R C (getI tt)) {r : Nat} (hr : r < R) : 0 ≤ ownP W tt z r := by
  obtain ⟨y, zz, d, s, _, _⟩ := ht.shown
  have := h.own ht d s hr
  have := d.y0 r hr
  omega
theorem own_hi (hW : WOk W) (h : PrI W R C tt z) (ht : Top W R C (getI tt)) (r : Nat) (hC : C ≤ 64) : ownP W tt z r ≤ 1099513724929 := by
  unfold ownP
  split
  · omega
  · rename_i e
    obtain ⟨c, h1, _, h2, _⟩ := ht.mat.at (Int.not_lt.1 e)
    rw [h1, Int.toNat_natCast]
    have := hW.hi r c
    have := h.nonneg c (by omega)
    omega
theorem ownP_set (r : Nat) {c : Nat} {x : Int} (hne : getI tt r ≠ c) : ownP W tt (z.set c x) r = ownP W tt z r := by
  unfold ownP
  split
  · rfl
  · rw [getI_set, if_neg]
    rintro ⟨h, _⟩
    omega
theorem PrI.put (h : PrI W R C tt z) (ht : Top W R C (getI tt)) (hC : C ≤ 64) {r c : Nat} (hr : r < R) (hc : c < C) (hx : getI z c < W r c - ownP W tt z r) :
    PrI W R C tt (z.set c (W r c - ownP W tt z r)) ∧ gapP C (z.set c (W r c - ownP W tt z r)) < gapP C z := by
  obtain ⟨x, ex⟩ : ∃ x, x = W r c - ownP W tt z r := ⟨_, rfl⟩
  rw [← ex] at hx ⊢
  have e : ∀ j, getI (z.set c x) j = if j = c then x else getI z j := fun j => by
    rw [getI_set, h.len]
    by_cases e : j = c
    · rw [if_pos ⟨e.symm, by omega⟩, if_pos e]
    · rw [if_neg (fun h => e h.1.symm), if_neg e]
  have h' : PrI W R C tt (z.set c x) := by
    refine ⟨by simp [h.len], fun j hj => ?_, fun j h1 h2 => ?_, fun y' z' d s j hj => ?_⟩
    · rw [e]
      by_cases ej : j = c
      · rw [if_pos ej]; have := h.nonneg c (by omega); omega
      · rw [if_neg ej]; exact h.nonneg j hj
    · rw [e, if_neg (by omega)]; exact h.out j h1 h2
    · rw [e]
      by_cases ej : j = c
      · subst ej
        rw [if_pos rfl, ex]
        have := h.own ht d s hr
        have := d.feas r j hr hj
        omega
      · rw [if_neg ej]; exact h.low y' z' d s j hj
  refine ⟨h', ?_⟩
  have hb : sumN (getI (z.set c x)) C ≤ 150000000000000 * (C : Int) := sumN_bound fun i hi => (h'.small ht i (by omega)).2
  have s1 := sumN_strike (getI (z.set c x)) c C hc
  have s2 := sumN_strike (getI z) c C hc
  have s3 : sumN (fun i => if i = c then 0 else getI (z.set c x) i) C = sumN (fun i => if i = c then 0 else getI z i) C := sumN_congr fun i _ => by
    show (if i = c then 0 else getI (z.set c x) i) = if i = c then 0 else getI z i
    by_cases ei : i = c
    · rw [if_pos ei, if_pos ei]
    · rw [if_neg ei, if_neg ei, e, if_neg ei]
  have s4 := e c
  rw [if_pos rfl] at s4
  unfold gapP
  omega
end
/-- The least prices: they show that some matching is worth the most, and none that do so are less. -/
structure Ends (W : Nat → Nat → Int) (R C : Nat) (y z : Nat → Int) : Prop where
  dual : Dual W R C y z
  some : ∃ f, IsM W R C f ∧ Slack W R C f y z
  least : ∀ f y' z', IsM W R C f → Dual W R C y' z' → Slack W R C f y' z' → ∀ c, c < C → z c ≤ z' c
theorem PrI.ends {W : Nat → Nat → Int} {R C : Nat} {tt z : List Int} (h : PrI W R C tt z) (ht : Top W R C (getI tt)) (hC : C ≤ 64) (hcl : closedP W C tt z R) : Ends W R C (ownP W tt z) (getI z) := by
  have hd : Dual W R C (ownP W tt z) (getI z) := by
    refine ⟨fun r hr => h.own0 ht hr, fun c hc => h.nonneg c (by omega), fun r c hr hc => ?_⟩
    by_cases e : getI tt r = c
    · unfold ownP
      rw [if_neg (by omega), e, Int.toNat_natCast]; omega
    · have := hcl r c hr hc e; omega
  have hs : Slack W R C (getI tt) (ownP W tt z) (getI z) := by
    refine ⟨fun r c hr hc e => ?_, fun r hr e => ?_, fun c hc e => ?_⟩
    · unfold ownP
      rw [if_neg (by omega), e, Int.toNat_natCast]; omega
    · unfold ownP; rw [if_pos e]
    · obtain ⟨y, zz, d, s, _, _⟩ := ht.shown
      have h1 := h.low y zz d s c hc
      have h2 := s.col c hc e
      have h3 := h.nonneg c (by omega)
      omega
  refine ⟨hd, ⟨_, ht.mat, hs⟩, fun f y' z' hf d s c hc => ?_⟩
  have h1 := val_eq hf s
  have h2 := val_eq ht.mat hs
  have h3 := (val_le hf hd).1
  have h4 := (val_le ht.mat d).2 (by omega)
  exact h.low y' z' d h4 c hc
end Go.Proofs.Ytmddhjoomlhbcaa
