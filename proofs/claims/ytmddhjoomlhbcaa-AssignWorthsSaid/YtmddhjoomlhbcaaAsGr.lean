/- The least columns, row by row: in plain Lean. -/
import Derived.Test.YtmddhjoomlhbcaaAsLe
namespace Go.Proofs.Ytmddhjoomlhbcaa

/-- Rows below r have their columns: the rest can still be worth as much; none could have had a column that is less. -/
structure LI (W : Nat → Nat → Int) (R C : Nat) (y z : List Int) (r : Nat) (tt : List Int) (taken : List Bool) : Prop where
  len : tt.length = 64
  lt : taken.length = 64
  tk : ∀ c : Nat, getB taken c = true ↔ ∃ x, x < r ∧ getI tt x = c
  cmp : ∃ g, Full W R C (getI y) (getI z) g ∧ ∀ x, x < r → Alk (g x) (getI tt x)
  lex : ∀ x, x < r → ∀ f', Full W R C (getI y) (getI z) f' → (∀ i, i < x → Alk (f' i) (getI tt i)) → LexLe (getI tt x) (f' x)
  val : ∀ x, x < r → getI tt x = -1 ∨ ∃ c : Nat, getI tt x = c ∧ c < C
/-- Can the rest be worth as much if row r has column c? -/
def Goes (W : Nat → Nat → Int) (R C : Nat) (y z : List Int) (r : Nat) (tt : List Int) (c : Nat) : Prop := ∃ g, Full W R C (getI y) (getI z) g ∧ (∀ x, x < r → Alk (g x) (getI tt x)) ∧ g r = c
section
variable {W : Nat → Nat → Int} {R C : Nat} {y z : List Int} {r : Nat} {tt : List Int} {taken : List Bool}
theorem LI.start (he : Ends W R C (getI y) (getI z)) (ht : tt.length = 64) : LI W R C y z 0 tt (List.replicate 64 false) := by
  obtain ⟨f, hf, hs⟩ := he.some
  refine ⟨ht, by simp, fun c => ?_, ⟨f, Full.of hf hs, fun x h => by omega⟩, fun x h => by omega, fun x h => by omega⟩
  have : getB (List.replicate 64 false) c = false := by
    unfold getB; rw [List.getElem?_replicate]; split <;> rfl
  rw [this]
  constructor
  · intro h; cases h
  · rintro ⟨x, h, _⟩; omega
theorem LI.untight (h : LI W R C y z r tt taken) {c : Nat} (hn : tg W y z r taken r c = false) : ¬ Goes W R C y z r tt c := by
  rintro ⟨g, hg, ha, he⟩
  obtain ⟨c', h1, h2, _⟩ := hg.mat.edge r (by omega)
  have : c' = c := by omega
  subst this
  have h3 : getB taken c' = false := by
    cases e : getB taken c'
    · rfl
    · obtain ⟨x, h4, h5⟩ := (h.tk c').1 e
      have h6 := ha x h4 (.inr (by omega))
      have := hg.mat.one x r (by omega) (by omega)
      omega
  unfold tg at hn
  rw [h3, decide_eq_true h2.1.2.2, decide_eq_true h2.2] at hn
  simp at hn
theorem LI.can (h : LI W R C y z r tt taken) (hR : R ≤ 64) (hC : C ≤ 64) (hout : ∀ r c, ¬ (r < R ∧ c < C) → W r c = 0) {c : Nat} (ht : tg W y z r taken r c = true) : canF W R C y z (r + 1) (taken.set c true) = true ↔ Goes W R C y z r tt c := by
  obtain ⟨htc, hw, hte⟩ : getB taken c = false ∧ 0 < W r c ∧ W r c = getI y r + getI z c := by
    unfold tg at ht
    simp only [Bool.and_eq_true, decide_eq_true_eq, Bool.not_eq_true'] at ht
    exact ht.2
  obtain ⟨hrR, hcC⟩ : r < R ∧ c < C := by
    refine Classical.byContradiction fun e => ?_
    rw [hout r c e] at hw; omega
  have hE : tE W R C (getI y) (getI z) r c := ⟨⟨hrR, hcC, hw⟩, hte⟩
  have hS : ∀ x, getB (taken.set c true) x = if x = c then true else getB taken x := fun x => by
    rw [getB_set, h.lt]
    by_cases e : x = c
    · rw [if_pos ⟨e.symm, by omega⟩, if_pos e]
    · rw [if_neg (fun h => e h.1.symm), if_neg e]
  rw [canF_iff hR hC hout]
  constructor
  · rintro ⟨f, hf, h1, h2⟩
    obtain ⟨g0, hg0, ha⟩ := h.cmp
    obtain ⟨g, hg⟩ : ∃ g : Nat → Int, g = fun x => if x < r then getI tt x else if x = r then (c : Int) else f x := ⟨_, rfl⟩
    have gl : ∀ x, x < r → g x = getI tt x := fun x hx => by rw [hg]; exact if_pos hx
    have gr : g r = c := by rw [hg]; show (if r < r then _ else if r = r then (c : Int) else f r) = _; rw [if_neg (by omega), if_pos rfl]
    have gh : ∀ x, r < x → g x = f x := fun x hx => by rw [hg]; show (if x < r then _ else if x = r then (c : Int) else f x) = _; rw [if_neg (by omega), if_neg (by omega)]
    clear hg
    have fE : ∀ x, 0 ≤ f x → ∃ c' : Nat, f x = c' ∧ tE W R C (getI y) (getI z) x c' ∧ r + 1 ≤ x ∧ c' ≠ c ∧ getB taken c' = false := fun x hx => by
      obtain ⟨c', a1, ⟨a2, a3, a4⟩, _⟩ := hf.edge x hx
      rw [hS] at a4
      by_cases e : c' = c
      · rw [if_pos e] at a4; cases a4
      · rw [if_neg e] at a4; exact ⟨c', a1, a2, a3, e, a4⟩
    have hne : ∀ a b, a < b → 0 ≤ g a → g a ≠ g b := fun a b hab h0 e => by
      by_cases b1 : b < r
      · rw [gl a (by omega)] at h0 e
        rw [gl b b1] at e
        have e1 := ha a (by omega) (.inr h0)
        have e2 := ha b b1 (.inr (by omega))
        have := hg0.mat.one a b (by omega) (by omega)
        omega
      · by_cases b2 : b = r
        · subst b2
          rw [gl a hab, gr] at e
          rw [(h.tk c).2 ⟨a, hab, e⟩] at htc; cases htc
        · rw [gh b (by omega)] at e
          obtain ⟨c', q1, q2, q3, q4, q5⟩ := fE b (by omega)
          by_cases a1 : a < r
          · rw [gl a a1] at e
            rw [(h.tk c').2 ⟨a, a1, by omega⟩] at q5; cases q5
          · by_cases a2 : a = r
            · subst a2; rw [gr] at e; omega
            · rw [gh a (by omega)] at h0 e
              have := hf.one a b h0 e
              omega
    refine ⟨g, ⟨⟨fun x hx => ?_, fun _ _ => rfl, fun a b h0 e => ?_⟩, fun x hx hy => ?_, fun c' hc' hz => ?_⟩, fun x hx => by rw [gl x hx]; exact fun _ => rfl, gr⟩
    · by_cases x1 : x < r
      · rw [gl x x1] at hx
        have e1 := ha x x1 (.inr hx)
        obtain ⟨c', a1, a2, a3⟩ := hg0.mat.edge x (by omega)
        exact ⟨c', by rw [gl x x1]; omega, a2, a3⟩
      · by_cases x2 : x = r
        · subst x2; exact ⟨c, gr, hE, rfl⟩
        · rw [gh x (by omega)] at hx
          obtain ⟨c', a1, a2, _⟩ := fE x hx
          exact ⟨c', by rw [gh x (by omega)]; exact a1, a2, rfl⟩
    · rcases Nat.lt_trichotomy a b with hab | hab | hab
      · exact absurd e (hne a b hab h0)
      · exact hab
      · exact absurd e.symm (hne b a hab (by omega))
    · by_cases x1 : x < r
      · rw [gl x x1]
        have e1 := hg0.row x hx hy
        have e2 := ha x x1 (.inl e1)
        omega
      · by_cases x2 : x = r
        · subst x2; rw [gr]; omega
        · rw [gh x (by omega)]; exact h1 x hx (by omega) hy
    · by_cases e : c' = c
      · subst e; exact ⟨r, gr⟩
      · cases e2 : getB taken c'
        · obtain ⟨x, hx⟩ := h2 c' hc' (by rw [hS, if_neg e]; exact e2) hz
          obtain ⟨_, _, _, hrx, _⟩ := fE x (by omega)
          exact ⟨x, by rw [gh x (by omega)]; exact hx⟩
        · obtain ⟨x, q1, q2⟩ := (h.tk c').1 e2
          exact ⟨x, by rw [gl x q1]; exact q2⟩
  · rintro ⟨g, hg, ha, he⟩
    have hfree : ∀ x c' : Nat, r < x → g x = c' → getB (taken.set c true) c' = false := fun x c' hx hc => by
      rw [hS]
      by_cases e : c' = c
      · subst e
        have := hg.mat.one x r (by omega) (by omega)
        omega
      · rw [if_neg e]
        cases e2 : getB taken c'
        · rfl
        · obtain ⟨x', q1, q2⟩ := (h.tk c').1 e2
          have e3 := ha x' q1 (.inr (by omega))
          have := hg.mat.one x' x (by omega) (by omega)
          omega
    refine ⟨fun x => if r + 1 ≤ x then g x else -1, ⟨fun x hx => ?_, fun _ _ => rfl, fun a b h0 e => ?_⟩, fun x hx hd hy => ?_, fun c' hc' ht' hz => ?_⟩
    · by_cases e : r + 1 ≤ x
      · rw [if_pos e] at hx ⊢
        obtain ⟨c', a1, a2, _⟩ := hg.mat.edge x hx
        exact ⟨c', a1, ⟨a2, e, hfree x c' (by omega) a1⟩, rfl⟩
      · rw [if_neg e] at hx; omega
    · by_cases a1 : r + 1 ≤ a
      · rw [if_pos a1] at h0 e
        by_cases b1 : r + 1 ≤ b
        · rw [if_pos b1] at e; exact hg.mat.one a b h0 e
        · rw [if_neg b1] at e; omega
      · rw [if_neg a1] at h0; omega
    · show 0 ≤ if r + 1 ≤ x then g x else -1
      rw [if_pos hd]; exact hg.row x hx hy
    · obtain ⟨x, hx⟩ := hg.col c' hc' hz
      refine ⟨x, ?_⟩
      show (if r + 1 ≤ x then g x else -1) = _
      rw [hS] at ht'
      by_cases e : c' = c
      · rw [if_pos e] at ht'; cases ht'
      · rw [if_neg e] at ht'
        have h1 : x ≠ r := by rintro rfl; omega
        have h2 : ¬ x < r := fun h3 => by
          have e3 := ha x h3 (.inl (by omega))
          rw [(h.tk c').2 ⟨x, h3, by omega⟩] at ht'; cases ht'
        rw [if_pos (by omega)]; exact hx
theorem set_other {l : List Int} {r x : Nat} {n : Int} (h : x < r) : getI (l.set r n) x = getI l x := by rw [getI_set, if_neg (by omega)]
theorem LI.take (h : LI W R C y z r tt taken) (hr : r < 64) {c : Nat} (hc : c < C) (hC : C ≤ 64) (hg : Goes W R C y z r tt c) (hno : ∀ c', c' < c → ¬ Goes W R C y z r tt c') : LI W R C y z (r + 1) (tt.set r (c : Int)) (taken.set c true) := by
  have e1 : ∀ x, x < r → getI (tt.set r (c : Int)) x = getI tt x := fun x hx => set_other hx
  have e2 : getI (tt.set r (c : Int)) r = c := by rw [getI_set, if_pos ⟨rfl, by rw [h.len]; omega⟩]
  refine ⟨by simp [h.len], by simp [h.lt], fun c' => ?_, ?_, fun x hx f' hf ha => ?_, fun x hx => ?_⟩
  · have hS : getB (taken.set c true) c' = if c' = c then true else getB taken c' := by
      rw [getB_set, h.lt]
      by_cases e : c' = c
      · rw [if_pos ⟨e.symm, by omega⟩, if_pos e]
      · rw [if_neg (fun h => e h.1.symm), if_neg e]
    rw [hS]
    by_cases e : c' = c
    · rw [if_pos e]
      exact ⟨fun _ => ⟨r, by omega, by rw [e2, e]⟩, fun _ => rfl⟩
    · rw [if_neg e, h.tk]
      constructor
      · rintro ⟨x, q1, q2⟩; exact ⟨x, by omega, by rw [e1 x q1]; exact q2⟩
      · rintro ⟨x, q1, q2⟩
        by_cases ex : x = r
        · subst ex; rw [e2] at q2; omega
        · exact ⟨x, by omega, by rw [e1 x (by omega)] at q2; exact q2⟩
  · obtain ⟨g, q1, q2, q3⟩ := hg
    refine ⟨g, q1, fun x hx => ?_⟩
    by_cases ex : x = r
    · subst ex; rw [e2, q3]; exact fun _ => rfl
    · rw [e1 x (by omega)]; exact q2 x (by omega)
  · by_cases ex : x = r
    · subst ex
      rw [e2]
      by_cases hf0 : f' x < 0
      · exact .inl hf0
      · refine .inr ⟨by omega, ?_⟩
        refine Classical.byContradiction fun hlt => ?_
        obtain ⟨c', q1, _⟩ := hf.mat.edge x (by omega)
        exact hno c' (by omega) ⟨f', hf, fun i hi => by have := ha i hi; rw [e1 i hi] at this; exact this, q1⟩
    · rw [e1 x (by omega)]
      exact h.lex x (by omega) f' hf fun i hi => by have := ha i hi; rw [e1 i (by omega)] at this; exact this
  · by_cases ex : x = r
    · subst ex; rw [e2]; exact .inr ⟨c, rfl, hc⟩
    · rw [e1 x (by omega)]; exact h.val x (by omega)
theorem LI.none (h : LI W R C y z r tt taken) (hr : r < 64) (hno : ∀ c', c' < C → ¬ Goes W R C y z r tt c') : LI W R C y z (r + 1) (tt.set r (-1)) taken := by
  have e1 : ∀ x, x < r → getI (tt.set r (-1)) x = getI tt x := fun x hx => set_other hx
  have e2 : getI (tt.set r (-1)) r = -1 := by rw [getI_set, if_pos ⟨rfl, by rw [h.len]; omega⟩]
  have hneg : ∀ f', Full W R C (getI y) (getI z) f' → (∀ i, i < r → Alk (f' i) (getI tt i)) → f' r < 0 := fun f' hf ha => by
    refine Classical.byContradiction fun hn => ?_
    obtain ⟨c', q1, q2, _⟩ := hf.mat.edge r (by omega)
    exact hno c' q2.1.2.1 ⟨f', hf, ha, q1⟩
  refine ⟨by simp [h.len], h.lt, fun c' => ?_, ?_, fun x hx f' hf ha => ?_, fun x hx => ?_⟩
  · rw [h.tk]
    constructor
    · rintro ⟨x, q1, q2⟩; exact ⟨x, by omega, by rw [e1 x q1]; exact q2⟩
    · rintro ⟨x, q1, q2⟩
      by_cases ex : x = r
      · subst ex; rw [e2] at q2; omega
      · exact ⟨x, by omega, by rw [e1 x (by omega)] at q2; exact q2⟩
  · obtain ⟨g, q1, q2⟩ := h.cmp
    refine ⟨g, q1, fun x hx => ?_⟩
    by_cases ex : x = r
    · subst ex
      have := hneg g q1 q2
      rw [e2]
      intro hk; omega
    · rw [e1 x (by omega)]; exact q2 x (by omega)
  · by_cases ex : x = r
    · subst ex
      exact .inl (hneg f' hf fun i hi => by have := ha i hi; rw [e1 i hi] at this; exact this)
    · rw [e1 x (by omega)]
      exact h.lex x (by omega) f' hf fun i hi => by have := ha i hi; rw [e1 i (by omega)] at this; exact this
  · by_cases ex : x = r
    · subst ex; exact .inl e2
    · rw [e1 x (by omega)]; exact h.val x (by omega)
/-- The rows' columns; rows beyond have none. -/
def upTo (R : Nat) (tt : List Int) (r : Nat) : Int := if r < R then getI tt r else -1
theorem LI.done (h : LI W R C y z R tt taken) (he : Ends W R C (getI y) (getI z)) : BestW W R C (upTo R tt) (getI y) (getI z) := by
  have e1 : ∀ x, x < R → upTo R tt x = getI tt x := fun x hx => if_pos hx
  obtain ⟨g, hg, ha⟩ := h.cmp
  have hal : ∀ x, Alk (g x) (upTo R tt x) := fun x => by
    by_cases hx : x < R
    · rw [e1 x hx]; exact ha x hx
    · unfold upTo
      rw [if_neg hx]
      intro hk
      obtain ⟨c, _, q, _⟩ := hg.mat.edge x (by omega)
      exact absurd q.1.1 hx
  have hF : Full W R C (getI y) (getI z) (upTo R tt) := by
    refine ⟨⟨fun x hx => ?_, fun _ _ => rfl, fun a b h0 e => ?_⟩, fun x hx hy => ?_, fun c hc hz => ?_⟩
    · have q := hal x (.inr hx)
      obtain ⟨c, q1, q2, q3⟩ := hg.mat.edge x (by omega)
      exact ⟨c, by omega, q2, q3⟩
    · have q1 := hal a (.inr h0)
      have q2 := hal b (.inr (by omega))
      exact hg.mat.one a b (by omega) (by omega)
    · have q := hg.row x hx hy
      have := hal x (.inl q)
      omega
    · obtain ⟨x, q⟩ := hg.col c hc hz
      have := hal x (.inl (by omega))
      exact ⟨x, by omega⟩
  obtain ⟨hm, hs⟩ := hF.back he.dual
  refine ⟨hm, he.dual, hs, fun y' z' hd hs' => he.least _ y' z' hm hd hs', fun f' hf hsf r hr hx => ?_⟩
  rw [e1 r hr]
  exact h.lex r hr f' (Full.of hf hsf) fun i hi => by have := hx i hi; rw [e1 i (by omega)] at this; exact this
end
theorem Ends.congr {W : Nat → Nat → Int} {R C : Nat} {y y' z z' : Nat → Int} (h : Ends W R C y z) (hy : ∀ r, r < R → y' r = y r) (hz : ∀ c, c < C → z' c = z c) : Ends W R C y' z' := by
  obtain ⟨f, hf, hs⟩ := h.some
  refine ⟨⟨fun r hr => by rw [hy r hr]; exact h.dual.y0 r hr, fun c hc => by rw [hz c hc]; exact h.dual.z0 c hc, fun r c hr hc => by rw [hy r hr, hz c hc]; exact h.dual.feas r c hr hc⟩,
    ⟨f, hf, fun r c hr hc e => by rw [hy r hr, hz c hc]; exact hs.pair r c hr hc e, fun r hr e => by rw [hy r hr]; exact hs.row r hr e, fun c hc e => by rw [hz c hc]; exact hs.col c hc e⟩, fun f y1 z1 h1 h2 h3 c hc => by rw [hz c hc]; exact h.least f y1 z1 h1 h2 h3 c hc⟩
end Go.Proofs.Ytmddhjoomlhbcaa
