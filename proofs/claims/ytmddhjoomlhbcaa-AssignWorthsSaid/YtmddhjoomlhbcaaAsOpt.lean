/- Matchings by weight and the prices that show what they are worth, in plain Lean. -/
import Derived.Test.YtmddhjoomlhbcaaAsHun
namespace Go.Proofs.Ytmddhjoomlhbcaa

/-! ### Sums -/
def sumN (g : Nat → Int) : Nat → Int
  | 0 => 0
  | n + 1 => sumN g n + g n
theorem sumN_congr {g h : Nat → Int} : ∀ {n : Nat}, (∀ i, i < n → g i = h i) → sumN g n = sumN h n
  | 0, _ => rfl
  | n + 1, e => by rw [sumN, sumN, sumN_congr fun i hi => e i (by omega), e n (by omega)]
theorem sumN_le {g h : Nat → Int} : ∀ {n : Nat}, (∀ i, i < n → g i ≤ h i) → sumN g n ≤ sumN h n
  | 0, _ => Int.le_refl _
  | n + 1, e => by
    have := sumN_le (g := g) (h := h) (n := n) fun i hi => e i (by omega)
    have := e n (by omega)
    rw [sumN, sumN]; omega
theorem sumN_tight {g h : Nat → Int} : ∀ {n : Nat}, (∀ i, i < n → g i ≤ h i) → sumN h n ≤ sumN g n → ∀ i, i < n → g i = h i
  | 0, _, _, i, hi => by omega
  | n + 1, e, hs, i, hi => by
    have h1 := sumN_le (g := g) (h := h) (n := n) fun i hi => e i (by omega)
    have h2 := e n (by omega)
    rw [sumN, sumN] at hs
    by_cases ei : i = n
    · subst ei; omega
    · exact sumN_tight (n := n) (fun i hi => e i (by omega)) (by omega) i (by omega)
theorem sumN_add (g h : Nat → Int) : ∀ n : Nat, sumN (fun i => g i + h i) n = sumN g n + sumN h n
  | 0 => rfl
  | n + 1 => by rw [sumN, sumN, sumN, sumN_add g h n]; omega
theorem sumN_sub (g h : Nat → Int) : ∀ n : Nat, sumN (fun i => g i - h i) n = sumN g n - sumN h n
  | 0 => rfl
  | n + 1 => by rw [sumN, sumN, sumN, sumN_sub g h n]; omega
theorem sumN_zero : ∀ n : Nat, sumN (fun _ => 0) n = 0
  | 0 => rfl
  | n + 1 => by rw [sumN, sumN_zero n]; rfl
theorem sumN_strike (g : Nat → Int) (k : Nat) : ∀ n : Nat, k < n → sumN g n = sumN (fun i => if i = k then 0 else g i) n + g k
  | 0, h => by omega
  | n + 1, h => by
    rw [sumN, sumN]
    by_cases e : n = k
    · subst e
      rw [if_pos rfl, sumN_congr (g := fun i => if i = n then 0 else g i) (h := g) (n := n) fun i hi => by rw [if_neg (by omega)]]
      omega
    · rw [if_neg e, sumN_strike g k n (by omega)]
      omega
theorem sumN_bound {g : Nat → Int} {B : Int} : ∀ {n : Nat}, (∀ i, i < n → g i ≤ B) → sumN g n ≤ B * n
  | 0, _ => by simp [sumN]
  | n + 1, e => by
    have := sumN_bound (g := g) (B := B) (n := n) fun i hi => e i (by omega)
    have := e n (by omega)
    rw [sumN, Int.natCast_succ, Int.mul_add]; omega
theorem sumN_nonneg {g : Nat → Int} : ∀ {n : Nat}, (∀ i, i < n → 0 ≤ g i) → 0 ≤ sumN g n
  | 0, _ => Int.le_refl _
  | n + 1, e => by
    have := sumN_nonneg (g := g) (n := n) fun i hi => e i (by omega)
    have := e n (by omega)
    rw [sumN]; omega
theorem sumN_get {g : Nat → Int} : ∀ {n : Nat}, (∀ i, i < n → 0 ≤ g i) → ∀ i, i < n → g i ≤ sumN g n
  | 0, _, i, hi => by omega
  | n + 1, e, i, hi => by
    have h0 := sumN_nonneg (g := g) (n := n) fun i hi => e i (by omega)
    have h1 := e n (by omega)
    rw [sumN]
    by_cases ei : i = n
    · subst ei; omega
    · have := sumN_get (g := g) (n := n) (fun i hi => e i (by omega)) i (by omega)
      omega

/-! ### Matchings -/
/-- The edges of a table. -/
def wE (W : Nat → Nat → Int) (R C : Nat) (r c : Nat) : Prop := r < R ∧ c < C ∧ 0 < W r c
abbrev IsM (W : Nat → Nat → Int) (R C : Nat) (f : Nat → Int) : Prop := IsMat (wE W R C) (fun _ => true) (fun _ => true) f
def val (W : Nat → Nat → Int) (f : Nat → Int) (R : Nat) : Int := sumN (fun r => if f r < 0 then 0 else W r (f r).toNat) R
/-- Is the column some row's? -/
def hit (f : Nat → Int) (R c : Nat) : Bool := (List.range R).any fun r => f r == (c : Int)
theorem hit_iff (f : Nat → Int) (R c : Nat) : hit f R c = true ↔ ∃ r, r < R ∧ f r = c := by
  unfold hit
  simp only [List.any_eq_true, List.mem_range, beq_iff_eq]
theorem sum_hit (f : Nat → Int) (g : Nat → Int) (C : Nat) : ∀ R : Nat, (∀ r, r < R → 0 ≤ f r → ∃ c : Nat, f r = c ∧ c < C) → (∀ x y, x < R → y < R → 0 ≤ f x → f x = f y → x = y) →
    sumN (fun r => if f r < 0 then 0 else g (f r).toNat) R = sumN (fun c => if hit f R c = true then g c else 0) C
  | 0, _, _ => by
    rw [sumN, sumN_congr (h := fun _ => 0), sumN_zero]
    intro i _
    show (if hit f 0 i = true then g i else 0) = 0
    rw [if_neg (by rw [hit_iff]; rintro ⟨r, h, _⟩; omega)]
  | R + 1, h1, h2 => by
    have ih := sum_hit f g C R (fun r hr => h1 r (by omega)) (fun x y hx hy => h2 x y (by omega) (by omega))
    rw [sumN, ih]
    by_cases e : f R < 0
    · rw [if_pos e, Int.add_zero]
      refine sumN_congr fun c _ => ?_
      have : (hit f (R + 1) c = true) ↔ (hit f R c = true) := by
        rw [hit_iff, hit_iff]
        constructor
        · rintro ⟨r, h3, h4⟩
          exact ⟨r, by have : r ≠ R := by rintro rfl; omega
                       omega, h4⟩
        · rintro ⟨r, h3, h4⟩; exact ⟨r, by omega, h4⟩
      by_cases e2 : hit f R c = true
      · rw [if_pos e2, if_pos (this.2 e2)]
      · rw [if_neg e2, if_neg fun h => e2 (this.1 h)]
    · rw [if_neg e]
      obtain ⟨c0, h3, h4⟩ := h1 R (by omega) (by omega)
      rw [h3, Int.toNat_natCast, sumN_strike (fun c => if hit f (R + 1) c = true then g c else 0) c0 C h4]
      have h5 : hit f (R + 1) c0 = true := (hit_iff _ _ _).2 ⟨R, by omega, h3⟩
      simp only [h5, if_true]
      congr 1
      refine sumN_congr fun c _ => ?_
      by_cases ec : c = c0
      · subst ec
        rw [if_pos rfl, if_neg]
        rw [hit_iff]
        rintro ⟨r, h6, h7⟩
        have := h2 r R (by omega) (by omega) (by omega) (by omega)
        omega
      · rw [if_neg ec]
        have : (hit f (R + 1) c = true) ↔ (hit f R c = true) := by
          rw [hit_iff, hit_iff]
          constructor
          · rintro ⟨r, h6, h7⟩
            exact ⟨r, by have : r ≠ R := by rintro rfl; omega
                         omega, h7⟩
          · rintro ⟨r, h6, h7⟩; exact ⟨r, by omega, h7⟩
        by_cases e2 : hit f R c = true
        · rw [if_pos e2, if_pos (this.2 e2)]
        · rw [if_neg e2, if_neg fun h => e2 (this.1 h)]

/-! ### Prices -/
structure Dual (W : Nat → Nat → Int) (R C : Nat) (y z : Nat → Int) : Prop where
  y0 : ∀ r, r < R → 0 ≤ y r
  z0 : ∀ c, c < C → 0 ≤ z c
  feas : ∀ r c, r < R → c < C → W r c ≤ y r + z c
structure Slack (W : Nat → Nat → Int) (R C : Nat) (f y z : Nat → Int) : Prop where
  pair : ∀ r c : Nat, r < R → c < C → f r = c → y r + z c = W r c
  row : ∀ r, r < R → f r < 0 → y r = 0
  col : ∀ c : Nat, c < C → (∀ r, r < R → f r ≠ c) → z c = 0
section
variable {W : Nat → Nat → Int} {R C : Nat} {f y z : Nat → Int}
theorem IsM.at (h : IsM W R C f) {r : Nat} (hr : 0 ≤ f r) : ∃ c : Nat, f r = c ∧ r < R ∧ c < C ∧ 0 < W r c := by
  obtain ⟨c, h1, h2, _⟩ := h.edge r hr
  exact ⟨c, h1, h2⟩
theorem val_sums (h : IsM W R C f) : sumN (fun r => if f r < 0 then 0 else z (f r).toNat) R = sumN (fun c => if hit f R c = true then z c else 0) C :=
  sum_hit f z C R (fun r _ hf => by obtain ⟨c, h1, _, h2, _⟩ := h.at hf; exact ⟨c, h1, h2⟩) fun x y _ _ hx e => h.one x y hx e
theorem val_eq (h : IsM W R C f) (s : Slack W R C f y z) : val W f R = sumN y R + sumN z C := by
  have h1 : val W f R = sumN (fun r => y r + (if f r < 0 then 0 else z (f r).toNat)) R := sumN_congr fun r hr => by
    show (if f r < 0 then 0 else W r (f r).toNat) = y r + (if f r < 0 then 0 else z (f r).toNat)
    by_cases e : f r < 0
    · rw [if_pos e, if_pos e, s.row r hr e]; rfl
    · rw [if_neg e, if_neg e]
      obtain ⟨c, h1, _, h2, _⟩ := h.at (Int.not_lt.1 e)
      rw [h1, Int.toNat_natCast]
      exact (s.pair r c hr h2 h1).symm
  rw [h1, sumN_add, val_sums h]
  congr 1
  refine sumN_congr fun c hc => ?_
  by_cases e : hit f R c = true
  · rw [if_pos e]
  · rw [if_neg e, s.col c hc fun r hr h2 => e ((hit_iff _ _ _).2 ⟨r, hr, h2⟩)]
theorem val_le (h : IsM W R C f) (d : Dual W R C y z) : val W f R ≤ sumN y R + sumN z C ∧ (sumN y R + sumN z C ≤ val W f R → Slack W R C f y z) := by
  have e1 : ∀ r, r < R → (if f r < 0 then 0 else W r (f r).toNat) ≤ y r + (if f r < 0 then 0 else z (f r).toNat) := fun r hr => by
    by_cases e : f r < 0
    · rw [if_pos e, if_pos e]; have := d.y0 r hr; omega
    · rw [if_neg e, if_neg e]
      obtain ⟨c, h1, _, h2, _⟩ := h.at (Int.not_lt.1 e)
      rw [h1, Int.toNat_natCast]
      exact d.feas r c hr h2
  have e2 : ∀ c, c < C → (if hit f R c = true then z c else 0) ≤ z c := fun c hc => by
    by_cases e : hit f R c = true
    · rw [if_pos e]; exact Int.le_refl _
    · rw [if_neg e]; exact d.z0 c hc
  have s1 := sumN_le e1
  have s2 := sumN_le e2
  rw [sumN_add, val_sums h] at s1
  have hv : val W f R = sumN (fun r => if f r < 0 then 0 else W r (f r).toNat) R := rfl
  refine ⟨by rw [hv]; omega, fun hs => ?_⟩
  rw [hv] at hs
  have t1 := sumN_tight e1 (by rw [sumN_add, val_sums h]; omega)
  have t2 := sumN_tight e2 (by omega)
  refine ⟨fun r c hr hc hf => ?_, fun r hr hf => ?_, fun c hc hn => ?_⟩
  · have := t1 r hr
    rw [if_neg (by omega), if_neg (by omega), hf, Int.toNat_natCast] at this
    omega
  · have := t1 r hr
    rw [if_pos hf, if_pos hf] at this
    omega
  · have := t2 c hc
    rw [if_neg (by rw [hit_iff]; rintro ⟨r, h1, h2⟩; exact hn r h1 h2)] at this
    omega
end

/-- The same column, or none. -/
def Alk (a b : Int) : Prop := (0 ≤ a ∨ 0 ≤ b) → a = b
theorem Alk.symm {a b : Int} (h : Alk a b) : Alk b a := fun k => (h k.symm).symm
/-- Less, or the same; none comes last. -/
def LexLe (a b : Int) : Prop := b < 0 ∨ (0 ≤ a ∧ a ≤ b)
/-- The best matching and its prices: worth the most, its columns least row by row; the rows' prices the greatest. -/
structure BestW (W : Nat → Nat → Int) (R C : Nat) (f y z : Nat → Int) : Prop where
  mat : IsM W R C f
  dual : Dual W R C y z
  slack : Slack W R C f y z
  ends : ∀ y' z', Dual W R C y' z' → Slack W R C f y' z' → ∀ c, c < C → z c ≤ z' c
  lex : ∀ f', IsM W R C f' → Slack W R C f' y z → ∀ r, r < R → (∀ x, x < r → Alk (f' x) (f x)) → LexLe (f r) (f' r)
section
variable {W : Nat → Nat → Int} {R C : Nat} {f y z f' y' z' : Nat → Int}
/-- Whatever is worth the most goes with whatever prices show it. -/
theorem BestW.any (h : BestW W R C f y z) (hf : IsM W R C f') (hd : Dual W R C y' z') (hs : Slack W R C f' y' z') : Slack W R C f y' z' ∧ Slack W R C f' y z := by
  have h1 := val_eq h.mat h.slack
  have h2 := val_eq hf hs
  have h3 := val_le h.mat hd
  have h4 := val_le hf h.dual
  exact ⟨h3.2 (by omega), h4.2 (by omega)⟩
theorem BestW.most (h : BestW W R C f y z) (hf : IsM W R C f') : val W f' R ≤ val W f R := by
  rw [val_eq h.mat h.slack]; exact (val_le hf h.dual).1
/-- Matchings that are worth as much. -/
theorem BestW.as (h : BestW W R C f y z) (hf : IsM W R C f') (he : val W f R ≤ val W f' R) : Slack W R C f' y z :=
  (val_le hf h.dual).2 (by rw [← val_eq h.mat h.slack]; exact he)
/-- Prices that show it. -/
theorem BestW.shows (h : BestW W R C f y z) (hd : Dual W R C y' z') (he : sumN y' R + sumN z' C ≤ val W f R) : Slack W R C f y' z' := (val_le h.mat hd).2 he
theorem BestW.le_prices (h : BestW W R C f y z) (hd : Dual W R C y' z') (hs : Slack W R C f y' z') : (∀ c, c < C → z c ≤ z' c) ∧ ∀ r, r < R → y' r ≤ y r := by
  have h1 := h.ends y' z' hd hs
  refine ⟨h1, fun r hr => ?_⟩
  by_cases e : f r < 0
  · rw [h.slack.row r hr e, hs.row r hr e]; exact Int.le_refl _
  · obtain ⟨c, h2, _, h3, _⟩ := h.mat.at (Int.not_lt.1 e)
    have := h.slack.pair r c hr h3 h2
    have := hs.pair r c hr h3 h2
    have := h1 c h3
    omega
theorem LexLe.both {a b : Int} (h : LexLe a b) (k : LexLe b a) : Alk a b := by
  unfold LexLe at h k; unfold Alk; omega
theorem BestW.unique (h : BestW W R C f y z) (h' : BestW W R C f' y' z') : (∀ r, r < R → Alk (f r) (f' r)) ∧ (∀ r, r < R → y r = y' r) ∧ ∀ c, c < C → z c = z' c := by
  obtain ⟨s1, s2⟩ := h.any h'.mat h'.dual h'.slack
  obtain ⟨a1, a2⟩ := h.le_prices h'.dual s1
  obtain ⟨b1, b2⟩ := h'.le_prices h.dual s2
  refine ⟨?_, fun r hr => ?_, fun c hc => ?_⟩
  · have key : ∀ n, ∀ r, r < n → r < R → Alk (f r) (f' r) := by
      intro n
      induction n with
      | zero => intro r hr; omega
      | succ n ih =>
        intro r hr hR
        by_cases e : r = n
        · subst e
          exact (h.lex f' h'.mat s2 r hR fun x hx => (ih x hx (by omega)).symm).both (h'.lex f h.mat s1 r hR fun x hx => ih x hx (by omega))
        · exact ih r (by omega) hR
    exact fun r hr => key (r + 1) r (by omega) hr
  · have := a2 r hr; have := b2 r hr; omega
  · have := a1 c hc; have := b1 c hc; omega
end

/-! ### What the search leaves -/
/-- The columns up to k are written into the rows. -/
structure ToOf (W : Nat → Nat → Int) (o tt : List Int) (k : Nat) : Prop where
  len : tt.length = 64
  yes : ∀ c r : Nat, 1 ≤ c → c ≤ k → r < 64 → getI o c = ((r + 1 : Nat) : Int) → 0 < W r (c - 1) → getI tt r = ((c - 1 : Nat) : Int)
  no : ∀ r, r < 64 → (∀ c, 1 ≤ c → c ≤ k → ¬ (getI o c = ((r + 1 : Nat) : Int) ∧ 0 < W r (c - 1))) → getI tt r = -1
theorem ToOf.start (W : Nat → Nat → Int) (o : List Int) {tt : List Int} (h : tt = List.replicate 64 (-1)) : ToOf W o tt 0 := by
  subst h
  refine ⟨by simp, fun c r h1 h2 => by omega, fun r hr _ => ?_⟩
  unfold getI; rw [List.getElem?_replicate, if_pos hr]; rfl
theorem ToOf.skip {W : Nat → Nat → Int} {o tt : List Int} {k : Nat} (h : ToOf W o tt k) (hn : ∀ r : Nat, r < 64 → getI o (k + 1) = ((r + 1 : Nat) : Int) → ¬ 0 < W r k) : ToOf W o tt (k + 1) := by
  refine ⟨h.len, fun c r h1 h2 h3 h4 h5 => ?_, fun r hr hc => h.no r hr fun c h1 h2 => hc c h1 (by omega)⟩
  by_cases e : c = k + 1
  · subst e; exact absurd h5 (hn r h3 h4)
  · exact h.yes c r h1 (by omega) h3 h4 h5
theorem ToOf.put {W : Nat → Nat → Int} {o tt : List Int} {k : Nat} (h : ToOf W o tt k) {r : Nat} (hr : r < 64) (ho : getI o (k + 1) = ((r + 1 : Nat) : Int)) (hw : 0 < W r k) (hone : ∀ c, 1 ≤ c → c ≤ k → getI o c ≠ ((r + 1 : Nat) : Int)) : ToOf W o (tt.set r (k : Int)) (k + 1) := by
  have e : ∀ x, getI (tt.set r (k : Int)) x = if x = r then (k : Int) else getI tt x := fun x => by
    rw [getI_set, h.len]
    by_cases e : x = r
    · rw [if_pos ⟨e.symm, by omega⟩, if_pos e]
    · rw [if_neg (fun h => e h.1.symm), if_neg e]
  refine ⟨by simp [h.len], fun c x h1 h2 h3 h4 h5 => ?_, fun x hx hc => ?_⟩
  · rw [e]
    by_cases ec : c = k + 1
    · subst ec
      have : x = r := by omega
      rw [if_pos this]; rfl
    · have : x ≠ r := by rintro rfl; exact hone c h1 (by omega) h4
      rw [if_neg this]; exact h.yes c x h1 (by omega) h3 h4 h5
  · rw [e]
    by_cases ex : x = r
    · subst ex; exact absurd ⟨ho, hw⟩ (hc (k + 1) (by omega) (Nat.le_refl _))
    · rw [if_neg ex]; exact h.no x hx fun c h1 h2 => hc c h1 (by omega)

/-- A matching that is worth the most: prices show it. -/
structure Top (W : Nat → Nat → Int) (R C : Nat) (f : Nat → Int) : Prop where
  mat : IsM W R C f
  shown : ∃ y z, Dual W R C y z ∧ Slack W R C f y z ∧ (∀ r, r < R → y r ≤ 150000000000000) ∧ ∀ c, c < C → z c ≤ 150000000000000
theorem least_of (g : Nat → Int) : ∀ n : Nat, ∃ k, k ≤ n ∧ ∀ i, i ≤ n → g k ≤ g i
  | 0 => ⟨0, Nat.le_refl _, fun i h => by have : i = 0 := by omega
                                          subst this; exact Int.le_refl _⟩
  | n + 1 => by
    obtain ⟨k, h1, h2⟩ := least_of g n
    by_cases e : g (n + 1) < g k
    · refine ⟨n + 1, Nat.le_refl _, fun i hi => ?_⟩
      by_cases ei : i = n + 1
      · subst ei; exact Int.le_refl _
      · have := h2 i (by omega); omega
    · refine ⟨k, by omega, fun i hi => ?_⟩
      by_cases ei : i = n + 1
      · subst ei; omega
      · exact h2 i (by omega)
theorem HR.top {W : Nat → Nat → Int} (hW : WOk W) {R C n : Nat} (hRn : R ≤ n) (hCn : C ≤ n) (hn : n ≤ 64) (hout : ∀ r c, ¬ (r < R ∧ c < C) → W r c = 0) {u v o tt : List Int} (h : HR W n n u v o) (ht : ToOf W o tt n) : Top W R C (getI tt) := by
  have hfull : ∀ j, 1 ≤ j → j ≤ n → getI o j ≠ 0 := fun j h1 h2 h3 => by
    -- all n rows have columns of their own: none is left
    have hc := cnt_inj n (fun _ => true) (fun i => decide (i ≠ j - 1)) n (fun i => (Classical.epsilon fun c => 1 ≤ c ∧ c ≤ n ∧ getI o c = ((i + 1 : Nat) : Int)) - 1) (fun i hi _ => ?_) (fun a b ha hb _ _ e => ?_)
    · have e1 := cnt_all n
      have e2 := cnt_strike (fun _ => true) (j - 1) n (by omega) rfl
      have e3 : cnt (fun i => decide (i ≠ j - 1)) n = cnt (fun i => true && decide (i ≠ j - 1)) n := cnt_congr fun i _ => by simp
      omega
    · have hex : ∃ c, 1 ≤ c ∧ c ≤ n ∧ getI o c = ((i + 1 : Nat) : Int) := h.cov (i + 1) (by omega) (by omega)
      have hs := Classical.epsilon_spec hex
      generalize (Classical.epsilon fun c => 1 ≤ c ∧ c ≤ n ∧ getI o c = ((i + 1 : Nat) : Int)) = c at hs
      refine ⟨by show c - 1 < n; omega, ?_⟩
      have : c ≠ j := by rintro rfl; omega
      simp only [decide_eq_true_eq]; omega
    · have s1 := Classical.epsilon_spec (h.cov (a + 1) (by omega) (by omega))
      have s2 := Classical.epsilon_spec (h.cov (b + 1) (by omega) (by omega))
      generalize (Classical.epsilon fun c => 1 ≤ c ∧ c ≤ n ∧ getI o c = ((a + 1 : Nat) : Int)) = c1 at s1 e
      generalize (Classical.epsilon fun c => 1 ≤ c ∧ c ≤ n ∧ getI o c = ((b + 1 : Nat) : Int)) = c2 at s2 e
      have : c1 = c2 := by omega
      subst this; omega
  have hto : ∀ r, r < 64 → getI tt r = -1 ∨ ∃ c, 1 ≤ c ∧ c ≤ n ∧ getI o c = ((r + 1 : Nat) : Int) ∧ 0 < W r (c - 1) ∧ getI tt r = ((c - 1 : Nat) : Int) := fun r hr => by
    by_cases e : ∃ c, 1 ≤ c ∧ c ≤ n ∧ getI o c = ((r + 1 : Nat) : Int) ∧ 0 < W r (c - 1)
    · obtain ⟨c, h1, h2, h3, h4⟩ := e
      exact .inr ⟨c, h1, h2, h3, h4, ht.yes c r h1 h2 hr h3 h4⟩
    · exact .inl (ht.no r hr fun c h1 h2 h3 => e ⟨c, h1, h2, h3⟩)
  have hto' : ∀ r, 0 ≤ getI tt r → ∃ c, 1 ≤ c ∧ c ≤ n ∧ getI o c = ((r + 1 : Nat) : Int) ∧ 0 < W r (c - 1) ∧ getI tt r = ((c - 1 : Nat) : Int) := fun r hr => by
    have h64 : r < 64 := by
      refine Classical.byContradiction fun e => ?_
      rw [getI_out (by rw [ht.len]; omega)] at hr; omega
    rcases hto r h64 with h1 | h1
    · omega
    · exact h1
  have hin : ∀ r c, 0 < W r c → r < R ∧ c < C := fun r c hw => by
    refine Classical.byContradiction fun e => ?_
    rw [hout r c e] at hw; omega
  have hmat : IsM W R C (getI tt) := by
    refine ⟨fun r hr => ?_, fun _ _ => rfl, fun x y hx e => ?_⟩
    · obtain ⟨c, h1, h2, h3, h4, h5⟩ := hto' r hr
      exact ⟨c - 1, h5, ⟨(hin _ _ h4).1, (hin _ _ h4).2, h4⟩, rfl⟩
    · obtain ⟨c, h1, h2, h3, h4, h5⟩ := hto' x hx
      obtain ⟨c', h1', h2', h3', h4', h5'⟩ := hto' y (by omega)
      have : c = c' := by omega
      subst this; omega
  refine ⟨hmat, ?_⟩
  by_cases en : n = 0
  · subst en
    have hR0 : R = 0 := by omega
    have hC0 : C = 0 := by omega
    subst hR0; subst hC0
    exact ⟨fun _ => 0, fun _ => 0, ⟨fun r h => by omega, fun c h => by omega, fun r c h => by omega⟩, ⟨fun r c h => by omega, fun r h => by omega, fun c h => by omega⟩, fun r h => by omega, fun c h => by omega⟩
  obtain ⟨j0, hj0, hmin⟩ := least_of (fun j => - getI v (j + 1)) (n - 1)
  obtain ⟨t, htt⟩ : ∃ t, t = - getI v (j0 + 1) := ⟨_, rfl⟩
  have hmin' : ∀ j, j < n → t ≤ - getI v (j + 1) := fun j hj => by rw [htt]; exact hmin j (by omega)
  have ht0 : 0 ≤ t ∧ t ≤ 70368878395456 := by have := h.vb (j0 + 1) (by omega) (by omega); omega
  have hfe : ∀ r c, r < n → c < n → W r c ≤ (- getI u (r + 1) + t) + (- getI v (c + 1) - t) := fun r c hr hc => by
    have := h.feas (r + 1) (c + 1) (by omega) (by omega) (by omega) (by omega)
    unfold rc at this
    simp only [Nat.add_sub_cancel] at this
    omega
  have hz : ∀ c, c < n → 0 ≤ - getI v (c + 1) - t := fun c hc => by have := hmin' c hc; omega
  have hy : ∀ r, r < n → 0 ≤ - getI u (r + 1) + t := fun r hr => by
    have h1 := hfe r j0 hr (by omega)
    have h2 := hW.lo r j0
    rw [htt] at h1 ⊢
    omega
  have hti : ∀ r c, r < n → 1 ≤ c → c ≤ n → getI o c = ((r + 1 : Nat) : Int) → (- getI u (r + 1) + t) + (- getI v c - t) = W r (c - 1) := fun r c hr h1 h2 h3 => by
    have := h.tight (r + 1) c (by omega) h1 h2 h3
    unfold rc at this
    simp only [Nat.add_sub_cancel] at this
    omega
  refine ⟨fun r => - getI u (r + 1) + t, fun c => - getI v (c + 1) - t, ⟨fun r hr => hy r (by omega), fun c hc => hz c (by omega), fun r c hr hc => hfe r c (by omega) (by omega)⟩, ⟨fun r c hr hc hf => ?_, fun r hr hf => ?_, fun c hc hn2 => ?_⟩, fun r hr => ?_, fun c hc => ?_⟩
  · obtain ⟨c', h1, h2, h3, h4, h5⟩ := hto' r (by omega)
    have : c' = c + 1 := by omega
    subst this
    exact hti r (c + 1) (by omega) h1 h2 h3
  · -- its column in the square table costs nothing
    obtain ⟨j, h1, h2, h3⟩ := h.cov (r + 1) (by omega) (by omega)
    have h4 := hti r j (by omega) h1 h2 h3
    have h5 : ¬ 0 < W r (j - 1) := fun hw => by
      have := ht.yes j r h1 h2 (by omega) h3 hw
      omega
    have := hy r (by omega)
    have h6 := hz (j - 1) (by omega)
    rw [show j - 1 + 1 = j by omega] at h6
    have := hW.lo r (j - 1)
    show - getI u (r + 1) + t = 0
    omega
  · obtain ⟨i, h1, h2⟩ := h.ofv (c + 1) (by omega) (by omega)
    have h3 := hfull (c + 1) (by omega) (by omega)
    obtain ⟨r, rfl⟩ : ∃ r, i = r + 1 := ⟨i - 1, by omega⟩
    have h4 := hti r (c + 1) (by omega) (by omega) (by omega) h1
    have h5 : ¬ 0 < W r (c + 1 - 1) := fun hw => by
      have h6 := ht.yes (c + 1) r (by omega) (by omega) (by omega) h1 hw
      exact hn2 r (hin _ _ hw).1 h6
    have := hy r (by omega)
    have := hz c (by omega)
    have := hW.lo r (c + 1 - 1)
    show - getI v (c + 1) - t = 0
    omega
  · have := h.ub (r + 1) (by omega) (by omega)
    show - getI u (r + 1) + t ≤ _
    omega
  · have := h.vb (c + 1) (by omega) (by omega)
    show - getI v (c + 1) - t ≤ _
    omega
end Go.Proofs.Ytmddhjoomlhbcaa
