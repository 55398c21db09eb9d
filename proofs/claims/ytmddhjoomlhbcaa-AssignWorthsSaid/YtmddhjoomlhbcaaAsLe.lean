/- Who may have a partner, and the least columns: in plain Lean. -/
import Derived.Test.YtmddhjoomlhbcaaAsPr
namespace Go.Proofs.Ytmddhjoomlhbcaa

/-! ### Both ends covered -/
/-- What covers some rows, and what covers some columns: together. -/
theorem both_ends {E : Nat → Nat → Prop} (hE : Small E) (P Q : Nat → Prop) (g : Nat → Int) (hg : IsMat (fun c r => E r c) (fun _ => true) (fun _ => true) g) (hQ : ∀ q, Q q → 0 ≤ g q) :
    ∀ n f, IsMat E (fun _ => true) (fun _ => true) f → (∀ r, P r → 0 ≤ f r) → (open Classical in cnt (fun q => decide (Q q ∧ f (g q).toNat ≠ q)) 64) ≤ n →
      ∃ f', IsMat E (fun _ => true) (fun _ => true) f' ∧ (∀ r, P r → 0 ≤ f' r) ∧ ∀ q : Nat, Q q → ∃ r, f' r = q := by
  intro n
  induction n with
  | zero =>
    intro f hf hP hn
    refine ⟨f, hf, hP, fun q hq => Classical.byContradiction fun hno => ?_⟩
    obtain ⟨r, h1, h2, _⟩ := hg.edge q (hQ q hq)
    have := cnt_pos (p := fun q => open Classical in decide (Q q ∧ f (g q).toNat ≠ q)) (hE _ _ h2).2 (by
      simp only [decide_eq_true_eq]
      exact ⟨hq, fun e => hno ⟨_, e⟩⟩)
    omega
  | succ n ih =>
    intro f hf hP hn
    by_cases hall : ∀ q : Nat, Q q → ∃ r, f r = q
    · exact ⟨f, hf, hP, hall⟩
    obtain ⟨q, hq, hno⟩ : ∃ q : Nat, Q q ∧ ∀ r, f r ≠ q := by
      refine Classical.byContradiction fun h => hall fun q hq => ?_
      refine Classical.byContradiction fun h2 => h ⟨q, hq, fun r hr => h2 ⟨r, hr⟩⟩
    obtain ⟨r, h1, h2, _⟩ := hg.edge q (hQ q hq)
    refine ih (fun x => if x = r then (q : Int) else f x) ⟨fun x hx => ?_, fun _ _ => rfl, fun x y hx e => ?_⟩ (fun x hx => ?_) ?_
    · by_cases e : x = r
      · exact ⟨q, by simp [e], by rw [e]; exact h2, rfl⟩
      · rw [if_neg e] at hx
        obtain ⟨c, a1, a2, a3⟩ := hf.edge x hx
        exact ⟨c, by rw [if_neg e]; exact a1, a2, a3⟩
    · by_cases ex : x = r
      · by_cases ey : y = r
        · rw [ex, ey]
        · simp only [ex, ey, if_true, if_false] at e
          exact absurd e.symm (hno y)
      · by_cases ey : y = r
        · simp only [ex, ey, if_true, if_false] at e
          exact absurd e (hno x)
        · simp only [ex, ey, if_false] at e hx
          exact hf.one x y hx e
    · by_cases e : x = r
      · simp [e]
      · simp only [e, if_false]; exact hP x hx
    · have hs := cnt_strike (fun q' => open Classical in decide (Q q' ∧ f (g q').toNat ≠ q')) q 64 (hE _ _ h2).2 (by
        simp only [decide_eq_true_eq]
        exact ⟨hq, hno _⟩)
      have hm : cnt (fun q' => open Classical in decide (Q q' ∧ (if (g q').toNat = r then (q : Int) else f (g q').toNat) ≠ q')) 64 ≤ cnt (fun i => (open Classical in decide (Q i ∧ f (g i).toNat ≠ i)) && decide (i ≠ q)) 64 := cnt_mono fun q' _ h => by
        simp only [decide_eq_true_eq, Bool.and_eq_true] at h ⊢
        obtain ⟨h3, h4⟩ := h
        by_cases e : (g q').toNat = r
        · rw [if_pos e] at h4
          exfalso
          have h5 := hQ q' h3
          have : q' = q := hg.one q' q h5 (by omega)
          subst this; exact h4 rfl
        · rw [if_neg e] at h4
          exact ⟨⟨h3, h4⟩, by rintro rfl; exact e (by rw [h1]; rfl)⟩
      omega

/-! ### covers -/
/-- Can all of some points have a partner, one behind the other? -/
def covL (tl : List (List Nat)) : List Nat → List Int → List Int → Bool
  | [], _, _ => true
  | a :: l, row, col => if (tryF tl noMarks 65 ⟨noMarks, row, col⟩ a).1 = true then covL tl l (tryF tl noMarks 65 ⟨noMarks, row, col⟩ a).2.row (tryF tl noMarks 65 ⟨noMarks, row, col⟩ a).2.col else false
theorem Kuhn.skips {tl : List (List Nat)} {out gone : Nat → Bool} {k : Nat} {row col : List Int} {n : Nat} (h : Kuhn tl out gone n k row col) : ∀ d : Nat, (∀ x, n ≤ x → x < n + d → out x = true) → Kuhn tl out gone (n + d) k row col
  | 0, _ => h
  | d + 1, ho => (Kuhn.skips h d fun x h1 h2 => ho x h1 (by omega)).skip (ho (n + d) (by omega) (by omega))
theorem cnt_below_succ (p : Nat → Bool) (n : Nat) (hn : n < 64) : cnt (fun x => decide (x < n + 1) && p x) 64 = cnt (fun x => decide (x < n) && p x) 64 + if p n = true then 1 else 0 := by
  by_cases e : p n = true
  · rw [if_pos e, cnt_strike (fun x => decide (x < n + 1) && p x) n 64 hn (by simp [e])]
    congr 1
    refine cnt_congr fun i _ => ?_
    by_cases h : i = n
    · subst h; simp
    · have : (i < n + 1) ↔ (i < n) := by omega
      simp [h, this]
  · rw [if_neg e, Nat.add_zero]
    refine cnt_congr fun i _ => ?_
    by_cases h : i = n
    · subst h; simp [e]
    · have : (i < n + 1) ↔ (i < n) := by omega
      simp [this]
theorem cnt_below_skip (p : Nat → Bool) (n d : Nat) (h : ∀ x, n ≤ x → x < n + d → p x = false) : cnt (fun x => decide (x < n + d) && p x) 64 = cnt (fun x => decide (x < n) && p x) 64 := by
  refine cnt_congr fun i _ => ?_
  by_cases e : i < n
  · have : i < n + d := by omega
    simp [e, this]
  · by_cases e2 : i < n + d
    · rw [h i (by omega) e2]; simp
    · simp [e, e2]
theorem covL_tells {tl : List (List Nat)} (hok : NetOk tl noMarks) {out : Nat → Bool} : ∀ (l : List Nat) (n k : Nat) (row col : List Int), Kuhn tl out (fun _ => false) n k row col → l.Pairwise (· < ·) → (∀ a ∈ l, n ≤ a ∧ a < 64) → (∀ x, n ≤ x → x < 64 → (out x = false ↔ x ∈ l)) → n ≤ 64 → k = cnt (fun x => decide (x < n) && !out x) 64 →
    (covL tl l row col = true → ∃ row' col', Kuhn tl out (fun _ => false) 64 (cnt (fun x => decide (x < 64) && !out x) 64) row' col') ∧ (covL tl l row col = false → ∃ m k' row' col', Kuhn tl out (fun _ => false) m k' row' col' ∧ k' < cnt (fun x => decide (x < m) && !out x) 64)
  | [], n, k, row, col, h, _, _, ho, hn, hk => by
    have hs : ∀ x, n ≤ x → x < n + (64 - n) → out x = true := fun x h1 h2 => by
      cases e : out x
      · have := (ho x h1 (by omega)).1 e; cases this
      · rfl
    refine ⟨fun _ => ⟨row, col, ?_⟩, fun h => by cases h⟩
    have h1 := h.skips (64 - n) hs
    have h2 := cnt_below_skip (fun x => !out x) n (64 - n) fun x a b => by rw [hs x a b]; rfl
    rw [show n + (64 - n) = 64 by omega] at h1 h2
    rw [h2, ← hk]; exact h1
  | a :: l, n, k, row, col, h, hp, ha, ho, hn, hk => by
    obtain ⟨ha1, ha2⟩ := ha a (by simp)
    have hlow : ∀ x ∈ l, a < x := fun x hx => (List.pairwise_cons.1 hp).1 x hx
    have hs : ∀ x, n ≤ x → x < n + (a - n) → out x = true := fun x h1 h2 => by
      cases e : out x
      · have := (ho x h1 (by omega)).1 e
        rcases List.mem_cons.1 this with h3 | h3
        · omega
        · have := hlow x h3; omega
      · rfl
    have h1 := h.skips (a - n) hs
    have h2 := cnt_below_skip (fun x => !out x) n (a - n) fun x p q => by rw [hs x p q]; rfl
    rw [show n + (a - n) = a by omega] at h1 h2
    have hao : out a = false := (ho a ha1 ha2).2 (by simp)
    have h3 := h1.step hok ha2 hao (met := noMarks) (by simp [noMarks]) fun c => by rw [noMarks_at]; rfl
    have h4 := cnt_below_succ (fun x => !out x) a ha2
    rw [if_pos (by rw [hao]; rfl), h2, ← hk] at h4
    unfold covL
    by_cases e : (tryF tl noMarks 65 ⟨noMarks, row, col⟩ a).1 = true
    · rw [if_pos e] at h3 ⊢
      exact covL_tells hok l (a + 1) (k + 1) _ _ h3 (List.pairwise_cons.1 hp).2 (fun x hx => ⟨hlow x hx, (ha x (by simp [hx])).2⟩) (fun x h5 h6 => by
        rw [ho x (by omega) h6]
        constructor
        · intro h7
          rcases List.mem_cons.1 h7 with h8 | h8
          · omega
          · exact h8
        · intro h7; simp [h7]) (by omega) h4.symm
    · rw [if_neg e] at h3 ⊢
      refine ⟨fun h => by (cases h), fun _ => ⟨a + 1, k, _, _, h3, by omega⟩⟩
theorem eg_small {tl : List (List Nat)} {gone : List Bool} (hok : NetOk tl gone) : Small (Eg tl) := fun _ _ h => h.lt hok
/-- 'covers' says whether all of some points can have partners of their own. -/
theorem covL_iff {tl : List (List Nat)} (hok : NetOk tl noMarks) {l : List Nat} (hl : l.Pairwise (· < ·)) (h64 : ∀ a ∈ l, a < 64) :
    covL tl l none64 none64 = true ↔ ∃ f, IsMat (Eg tl) (fun _ => true) (fun _ => true) f ∧ ∀ a ∈ l, 0 ≤ f a := by
  have hout : ∀ x, (!l.contains x) = false ↔ x ∈ l := fun x => by simp
  have h := covL_tells hok (out := fun x => !l.contains x) l 0 0 none64 none64 (Kuhn.start _ _ _) hl (fun a ha => ⟨Nat.zero_le _, h64 a ha⟩) (fun x _ _ => hout x) (by omega) (by
    rw [cnt_congr (q := fun _ => false) fun i _ => by simp]; rfl)
  constructor
  · intro he
    obtain ⟨row, col, hk⟩ := h.1 he
    have hm : IsMat (Eg tl) (fun _ => true) (fun _ => true) (getI row) := hk.mat.isMat (fun _ _ => rfl) (fun _ _ _ => rfl)
    refine ⟨getI row, hm, fun a ha => Classical.byContradiction fun hn => ?_⟩
    have h1 := hk.num
    have h2 := cnt_strike (fun x => decide (x < 64) && !(!l.contains x)) a 64 (h64 a ha) (by simp [h64 a ha, ha])
    have h3 : cnt (hasP (getI row)) 64 ≤ cnt (fun i => (decide (i < 64) && !(!l.contains i)) && decide (i ≠ a)) 64 := cnt_mono fun i hi hp => by
      unfold hasP at hp
      have hp' : 0 ≤ getI row i := of_decide_eq_true hp
      have h4 := (hk.rows i hp').2
      have : i ≠ a := by rintro rfl; exact hn hp'
      simp only [Bool.and_eq_true, decide_eq_true_eq, Bool.not_eq_true']
      exact ⟨⟨hi, h4⟩, this⟩
    omega
  · rintro ⟨f, hf, ha⟩
    refine Classical.byContradiction fun hn => ?_
    obtain ⟨m, k', row, col, hk, hlt⟩ := h.2 (by simpa using hn)
    have hm : IsMat (Eg tl) (fun x => decide (x < m) && !(!l.contains x)) (fun c => !false) (fun x => if (decide (x < m) && !(!l.contains x)) = true then f x else -1) := by
      refine ⟨fun x hx => ?_, fun x hx => ?_, fun x y hx e => ?_⟩
      · by_cases e : (decide (x < m) && !(!l.contains x)) = true
        · rw [if_pos e] at hx ⊢
          obtain ⟨c, h1, h2, _⟩ := hf.edge x hx
          exact ⟨c, h1, h2, rfl⟩
        · rw [if_neg e] at hx; omega
      · by_cases e : (decide (x < m) && !(!l.contains x)) = true
        · exact e
        · rw [if_neg e] at hx; omega
      · by_cases ex : (decide (x < m) && !(!l.contains x)) = true
        · rw [if_pos ex] at hx e
          by_cases ey : (decide (y < m) && !(!l.contains y)) = true
          · rw [if_pos ey] at e; exact hf.one x y hx e
          · rw [if_neg ey] at e; omega
        · rw [if_neg ex] at hx; omega
    have h1 := hk.best.max (eg_small hok) hm
    have h2 : cnt (fun x => decide (x < m) && !(!l.contains x)) 64 ≤ cnt (hasP fun x => if (decide (x < m) && !(!l.contains x)) = true then f x else -1) 64 := cnt_mono fun i _ hp => by
      unfold hasP
      show decide (0 ≤ if (decide (i < m) && !(!l.contains i)) = true then f i else -1) = true
      rw [if_pos hp]
      have : i ∈ l := by
        simp only [Bool.and_eq_true, Bool.not_not] at hp
        simpa using hp.2
      exact decide_eq_true (ha i this)
    omega

/-! ### Tight edges -/
def tE (W : Nat → Nat → Int) (R C : Nat) (y z : Nat → Int) (r c : Nat) : Prop := wE W R C r c ∧ W r c = y r + z c
/-- Worth the most: all edges tight, all whose price is above 0 covered. -/
structure Full (W : Nat → Nat → Int) (R C : Nat) (y z f : Nat → Int) : Prop where
  mat : IsMat (tE W R C y z) (fun _ => true) (fun _ => true) f
  row : ∀ r, r < R → 0 < y r → 0 ≤ f r
  col : ∀ c : Nat, c < C → 0 < z c → ∃ r, f r = c
section
variable {W : Nat → Nat → Int} {R C : Nat} {y z f : Nat → Int}
theorem Full.of (hf : IsM W R C f) (s : Slack W R C f y z) : Full W R C y z f := by
  refine ⟨⟨fun r hr => ?_, fun _ _ => rfl, hf.one⟩, fun r hr hy => ?_, fun c hc hz => ?_⟩
  · obtain ⟨c, h1, h2, h3, h4⟩ := hf.at hr
    exact ⟨c, h1, ⟨⟨h2, h3, h4⟩, (s.pair r c h2 h3 h1).symm⟩, rfl⟩
  · refine Classical.byContradiction fun e => ?_
    have := s.row r hr (by omega)
    omega
  · refine Classical.byContradiction fun e => ?_
    have := s.col c hc fun r _ h => e ⟨r, h⟩
    omega
theorem Full.back (d : Dual W R C y z) (h : Full W R C y z f) : IsM W R C f ∧ Slack W R C f y z := by
  have hm : IsM W R C f := ⟨fun r hr => by obtain ⟨c, h1, h2, _⟩ := h.mat.edge r hr; exact ⟨c, h1, h2.1, rfl⟩, fun _ _ => rfl, h.mat.one⟩
  refine ⟨hm, fun r c hr hc e => ?_, fun r hr e => ?_, fun c hc e => ?_⟩
  · obtain ⟨c', h1, h2, _⟩ := h.mat.edge r (by omega)
    have : c' = c := by omega
    subst this; exact h2.2.symm
  · have := d.y0 r hr
    refine Classical.byContradiction fun e2 => ?_
    have := h.row r hr (by omega)
    omega
  · have := d.z0 c hc
    refine Classical.byContradiction fun e2 => ?_
    obtain ⟨r, h1⟩ := h.col c hc (by omega)
    obtain ⟨c', h2, h3, _⟩ := h.mat.edge r (by omega)
    exact e r h3.1.1 h1
end
/-- The program's 'tight': of rows from done on and columns that are not taken. -/
def tg (W : Nat → Nat → Int) (y z : List Int) (done : Nat) (taken : List Bool) (r c : Nat) : Bool := decide (done ≤ r) && (!getB taken c && (decide (0 < W r c) && decide (W r c = getI y r + getI z c)))
/-- Who goes with whom, as lists. -/
def tlOf (others : Nat) (t : Nat → Nat → Bool) : List (List Nat) := (List.range 64).map fun a => (List.range others).filter (t a)
theorem tlOf_ok {others : Nat} (ho : others ≤ 64) (t : Nat → Nat → Bool) : NetOk (tlOf others t) noMarks := by
  refine ⟨by simp [tlOf], fun r l hl => ?_, by simp [noMarks]⟩
  unfold tlOf at hl
  rw [List.getElem?_map] at hl
  obtain ⟨a, _, rfl⟩ := Option.map_eq_some_iff.1 hl
  refine ⟨fun c hc => ?_, ?_⟩
  · have := List.mem_range.1 (List.mem_filter.1 hc).1
    omega
  · have := List.length_filter_le (t a) (List.range others)
    rw [List.length_range] at this
    omega
theorem tlOf_eg (others : Nat) (t : Nat → Nat → Bool) (a b : Nat) : Eg (tlOf others t) a b ↔ a < 64 ∧ b < others ∧ t a b = true := by
  unfold Eg tlOf
  rw [List.getElem?_map]
  by_cases h : a < 64
  · rw [List.getElem?_range h]
    simp [h]
  · rw [List.getElem?_eq_none (by simp; omega)]
    simp [h]
/-- Rows from done on whose price is above 0. -/
def wantR (R : Nat) (y : List Int) (done : Nat) : List Nat := (List.range R).filter fun r => decide (done ≤ r) && decide (0 < getI y r)
def wantC (C : Nat) (z : List Int) (taken : List Bool) : List Nat := (List.range C).filter fun c => decide (0 < getI z c) && !getB taken c
/-- The program's 'can'. -/
def canF (W : Nat → Nat → Int) (R C : Nat) (y z : List Int) (done : Nat) (taken : List Bool) : Bool :=
  covL (tlOf C (tg W y z done taken)) (wantR R y done) none64 none64 && covL (tlOf R (fun c r => tg W y z done taken r c)) (wantC C z taken) none64 none64
theorem canF_iff {W : Nat → Nat → Int} {R C : Nat} (hR : R ≤ 64) (hC : C ≤ 64) (hout : ∀ r c, ¬ (r < R ∧ c < C) → W r c = 0) (y z : List Int) (done : Nat) (taken : List Bool) :
    canF W R C y z done taken = true ↔ ∃ f, IsMat (fun r c => tE W R C (getI y) (getI z) r c ∧ done ≤ r ∧ getB taken c = false) (fun _ => true) (fun _ => true) f ∧ (∀ r, r < R → done ≤ r → 0 < getI y r → 0 ≤ f r) ∧ ∀ c : Nat, c < C → getB taken c = false → 0 < getI z c → ∃ r, f r = c := by
  have hin : ∀ r c, 0 < W r c → r < R ∧ c < C := fun r c hw => by
    refine Classical.byContradiction fun e => ?_
    rw [hout r c e] at hw; omega
  have htg : ∀ r c, tg W y z done taken r c = true ↔ (tE W R C (getI y) (getI z) r c ∧ done ≤ r ∧ getB taken c = false) := fun r c => by
    unfold tg tE wE
    simp only [Bool.and_eq_true, decide_eq_true_eq, Bool.not_eq_true']
    constructor
    · rintro ⟨h1, h2, h3, h4⟩
      exact ⟨⟨⟨(hin r c h3).1, (hin r c h3).2, h3⟩, h4⟩, h1, h2⟩
    · rintro ⟨⟨⟨_, _, h3⟩, h4⟩, h1, h2⟩
      exact ⟨h1, h2, h3, h4⟩
  have hE : Small (fun r c => tE W R C (getI y) (getI z) r c ∧ done ≤ r ∧ getB taken c = false) := fun r c h => by
    have h1 := h.1.1.1
    have h2 := h.1.1.2.1
    omega
  have e1 : ∀ r c, Eg (tlOf C (tg W y z done taken)) r c ↔ (tE W R C (getI y) (getI z) r c ∧ done ≤ r ∧ getB taken c = false) := fun r c => by
    rw [tlOf_eg, htg]
    constructor
    · rintro ⟨_, _, h⟩; exact h
    · intro h
      have h1 := h.1.1.1
      exact ⟨by omega, h.1.1.2.1, h⟩
  have e2 : ∀ c r, Eg (tlOf R (fun c r => tg W y z done taken r c)) c r ↔ (tE W R C (getI y) (getI z) r c ∧ done ≤ r ∧ getB taken c = false) := fun c r => by
    rw [tlOf_eg, htg]
    constructor
    · rintro ⟨_, _, h⟩; exact h
    · intro h
      have h1 := h.1.1.2.1
      exact ⟨by omega, h.1.1.1, h⟩
  unfold canF
  have w1 : (wantR R y done).Pairwise (· < ·) := List.Pairwise.filter _ List.pairwise_lt_range
  have w2 : (wantC C z taken).Pairwise (· < ·) := List.Pairwise.filter _ List.pairwise_lt_range
  rw [Bool.and_eq_true, covL_iff (tlOf_ok hC _) w1 (fun a ha => by have := List.mem_range.1 (List.mem_filter.1 ha).1; omega),
    covL_iff (tlOf_ok hR _) w2 (fun a ha => by have := List.mem_range.1 (List.mem_filter.1 ha).1; omega)]
  constructor
  · rintro ⟨⟨f, hf, h1⟩, ⟨g, hg, h2⟩⟩
    have hf' : IsMat (fun r c => tE W R C (getI y) (getI z) r c ∧ done ≤ r ∧ getB taken c = false) (fun _ => true) (fun _ => true) f :=
      ⟨fun x hx => by obtain ⟨c, a, b, _⟩ := hf.edge x hx; exact ⟨c, a, (e1 _ _).1 b, rfl⟩, fun _ _ => rfl, hf.one⟩
    have hg' : IsMat (fun c r => tE W R C (getI y) (getI z) r c ∧ done ≤ r ∧ getB taken c = false) (fun _ => true) (fun _ => true) g :=
      ⟨fun x hx => by obtain ⟨c, a, b, _⟩ := hg.edge x hx; exact ⟨c, a, (e2 _ _).1 b, rfl⟩, fun _ _ => rfl, hg.one⟩
    obtain ⟨f', q1, q2, q3⟩ := both_ends hE (fun r => r ∈ wantR R y done) (fun c => c ∈ wantC C z taken) g hg' (fun q hq => h2 q hq) _ f hf' (fun r hr => h1 r hr) (Nat.le_refl _)
    refine ⟨f', q1, fun r hr hd hy => q2 r ?_, fun c hc ht hz => q3 c ?_⟩
    · unfold wantR; simp [hr, hd, hy]
    · unfold wantC; simp [hc, ht, hz]
  · rintro ⟨f, hf, h1, h2⟩
    refine ⟨⟨f, ⟨fun x hx => by obtain ⟨c, a, b, _⟩ := hf.edge x hx; exact ⟨c, a, (e1 _ _).2 b, rfl⟩, fun _ _ => rfl, hf.one⟩, fun a ha => ?_⟩, ⟨fun c => open Classical in if h : ∃ r, f r = (c : Int) then ((Classical.choose h : Nat) : Int) else -1, ⟨fun c hc => ?_, fun _ _ => rfl, fun c c' hc e => ?_⟩, fun c hc => ?_⟩⟩
    · unfold wantR at ha
      simp only [List.mem_filter, List.mem_range, Bool.and_eq_true, decide_eq_true_eq] at ha
      exact h1 a ha.1 ha.2.1 ha.2.2
    · by_cases h : ∃ r, f r = (c : Int)
      · simp only [h, dif_pos] at hc ⊢
        have hs := Classical.choose_spec h
        refine ⟨_, rfl, ?_, trivial⟩
        obtain ⟨c', a, b, _⟩ := hf.edge _ (by rw [hs]; omega : 0 ≤ f (Classical.choose h))
        have : c' = c := by omega
        subst this
        exact (e2 _ _).2 b
      · simp only [h, dif_neg, not_false_eq_true] at hc
        omega
    · by_cases h : ∃ r, f r = (c : Int)
      · by_cases h' : ∃ r, f r = (c' : Int)
        · simp only [h, h', dif_pos] at e
          have s1 := Classical.choose_spec h
          have s2 := Classical.choose_spec h'
          have e' : Classical.choose h = Classical.choose h' := by omega
          rw [e'] at s1
          omega
        · simp only [h, h', dif_pos, dif_neg, not_false_eq_true] at e
          omega
      · simp only [h, dif_neg, not_false_eq_true] at hc
        omega
    · unfold wantC at hc
      simp only [List.mem_filter, List.mem_range, Bool.and_eq_true, decide_eq_true_eq, Bool.not_eq_true'] at hc
      have h := h2 c hc.1 hc.2.2 hc.2.1
      simp only [h, dif_pos]
      omega
end Go.Proofs.Ytmddhjoomlhbcaa
