/- What pairs are worth, in plain Lean: pairs that are given their worth are a matching, worth as much. -/
import Derived.Test.YtmddhjoomlhbcaaAsWp
import Derived.Test.YtmddhjoomlhbcaaAsSp
namespace Go.Proofs.Ytmddhjoomlhbcaa

def goodL (W : Nat → Nat → Int) (R C : Nat) : List (Int × Int) → Int → List Bool → Prop
  | [], _, _ => True
  | p :: l, last, taken => badP W R C taken last p = false ∧ goodL W R C l p.1 (taken.set p.2.toNat true)
def sumW (W : Nat → Nat → Int) : List (Int × Int) → Int
  | [] => 0
  | p :: l => W p.1.toNat p.2.toNat + sumW W l
/-- The column of a row, by the pairs; -1: none. -/
def mtOf : List (Int × Int) → Nat → Int
  | [], _ => -1
  | p :: l, r => if p.1 = r then p.2 else mtOf l r
theorem worth_good (W : Nat → Nat → Int) (R C : Nat) : ∀ (l : List (Int × Int)) (last s : Int) (taken : List Bool),
    (goodL W R C l last taken ∧ worthL W R C l last taken s = (s + sumW W l, 0)) ∨ worthL W R C l last taken s = (0, 180)
  | [], last, s, taken => .inl ⟨trivial, by simp [worthL, sumW]⟩
  | p :: l, last, s, taken => by
    unfold worthL goodL
    cases hb : badP W R C taken last p with
    | true => exact .inr rfl
    | false =>
      rcases worth_good W R C l p.1 (s + W p.1.toNat p.2.toNat) (taken.set p.2.toNat true) with ⟨h1, h2⟩ | h
      · refine .inl ⟨⟨rfl, h1⟩, ?_⟩
        rw [if_neg (by simp), h2, sumW, Int.add_assoc]
      · exact .inr (by rw [if_neg (by simp), h])
theorem bad_no {W : Nat → Nat → Int} {R C : Nat} {taken : List Bool} {last : Int} {p : Int × Int} (h : badP W R C taken last p = false) : last < p.1 ∧ p.1 < R ∧ 0 ≤ p.2 ∧ p.2 < C ∧ getB taken p.2.toNat = false ∧ W p.1.toNat p.2.toNat ≠ 0 := by
  unfold badP at h
  simp only [Bool.or_eq_false_iff, decide_eq_false_iff_not] at h
  obtain ⟨⟨h1, h2⟩, h3⟩ := h
  refine ⟨by omega, by omega, by omega, by omega, h2, h3⟩
theorem good_in {W : Nat → Nat → Int} {R C : Nat} (hC : C ≤ 64) : ∀ {l : List (Int × Int)} {last : Int} {taken : List Bool}, taken.length = 64 → goodL W R C l last taken → ∀ p ∈ l, last < p.1 ∧ p.1 < R ∧ 0 ≤ p.2 ∧ p.2 < C ∧ getB taken p.2.toNat = false ∧ W p.1.toNat p.2.toNat ≠ 0
  | q :: l, last, taken, ht, h, p, hp => by
    have h1 := bad_no h.1
    rcases List.mem_cons.1 hp with rfl | hp
    · exact h1
    · obtain ⟨a1, a2, a3, a4, a5, a6⟩ := good_in hC (by simpa using ht) h.2 p hp
      rw [getB_set] at a5
      refine ⟨by omega, a2, a3, a4, ?_, a6⟩
      by_cases e : q.2.toNat = p.2.toNat
      · rw [if_pos ⟨e, by omega⟩] at a5; cases a5
      · rw [if_neg (fun h => e h.1)] at a5; exact a5
theorem good_col {W : Nat → Nat → Int} {R C : Nat} (hC : C ≤ 64) : ∀ {l : List (Int × Int)} {last : Int} {taken : List Bool}, taken.length = 64 → goodL W R C l last taken → ∀ p ∈ l, ∀ q ∈ l, p.2 = q.2 → p = q
  | a :: l, last, taken, ht, h, p, hp, q, hq, e => by
    have hin := good_in hC (by simpa using ht) h.2
    have key : ∀ x ∈ l, a.2 ≠ x.2 := fun x hx e => by
      have h1 := bad_no h.1
      obtain ⟨_, _, a3, a4, a5, _⟩ := hin x hx
      rw [getB_set, if_pos ⟨by rw [e], by omega⟩] at a5
      cases a5
    rcases List.mem_cons.1 hp with hp2 | hp2
    · rcases List.mem_cons.1 hq with hq2 | hq2
      · rw [hp2, hq2]
      · exact absurd (hp2 ▸ e) (key q hq2)
    · rcases List.mem_cons.1 hq with hq2 | hq2
      · exact absurd (hq2 ▸ e.symm) (key p hp2)
      · exact good_col hC (by simpa using ht) h.2 p hp2 q hq2 e
theorem mtOf_some : ∀ {l : List (Int × Int)} {r : Nat}, 0 ≤ mtOf l r → ∃ p ∈ l, p.1 = r ∧ p.2 = mtOf l r
  | [], r, h => by unfold mtOf at h; omega
  | q :: l, r, h => by
    unfold mtOf at h ⊢
    by_cases e : q.1 = r
    · rw [if_pos e]; exact ⟨q, by simp, e, rfl⟩
    · rw [if_neg e] at h ⊢
      obtain ⟨p, h1, h2, h3⟩ := mtOf_some h
      exact ⟨p, by simp [h1], h2, h3⟩
theorem mtOf_none : ∀ {l : List (Int × Int)} {r : Nat}, (∀ p ∈ l, p.1 ≠ r) → mtOf l r = -1
  | [], r, _ => rfl
  | q :: l, r, h => by
    unfold mtOf
    rw [if_neg (h q (by simp)), mtOf_none fun p hp => h p (by simp [hp])]
theorem sumN_one {g h : Nat → Int} {i : Nat} (hg : ∀ j, j ≠ i → g j = h j) : ∀ n, sumN g n = sumN h n + (if i < n then g i - h i else 0)
  | 0 => by simp [sumN]
  | n + 1 => by
    unfold sumN
    rw [sumN_one hg n]
    by_cases e : n = i
    · subst e; rw [if_neg (by omega), if_pos (by omega)]; omega
    · rw [hg n e]
      by_cases e2 : i < n
      · rw [if_pos e2, if_pos (by omega)]; omega
      · rw [if_neg e2, if_neg (by omega)]; omega
theorem good_val {W : Nat → Nat → Int} {R C : Nat} (hC : C ≤ 64) : ∀ {l : List (Int × Int)} {last : Int} {taken : List Bool}, -1 ≤ last → taken.length = 64 → goodL W R C l last taken → val W (mtOf l) R = sumW W l
  | [], last, taken, _, _, _ => by
    have : ∀ n, sumN (fun r => if mtOf [] r < 0 then 0 else W r (mtOf [] r).toNat) n = 0 := by
      intro n
      induction n with
      | zero => rfl
      | succ n ih => unfold sumN; rw [ih]; simp [mtOf]
    exact this R
  | p :: l, last, taken, hl, ht, h => by
    obtain ⟨h1, h2, h3, h4, _, _⟩ := bad_no h.1
    have hin := good_in hC (by simpa using ht) h.2
    have hn : mtOf l p.1.toNat = -1 := mtOf_none fun q hq e => by have := (hin q hq).1; omega
    have hp : mtOf (p :: l) p.1.toNat = p.2 := by unfold mtOf; rw [if_pos (by omega)]
    unfold val
    rw [sumN_one (i := p.1.toNat) (h := fun r => if mtOf l r < 0 then 0 else W r (mtOf l r).toNat) (fun j hj => by
      have : mtOf (p :: l) j = mtOf l j := by rw [mtOf, if_neg (by omega)]
      rw [this]) R]
    rw [if_pos (by omega), hp, hn, if_neg (by omega), if_pos (by omega)]
    have := good_val hC (by omega) (by simpa using ht) h.2
    unfold val at this
    rw [this, sumW]
    omega
theorem good_mat {W : Nat → Nat → Int} {R C : Nat} (hW : WOk W) (hC : C ≤ 64) {l : List (Int × Int)} {taken : List Bool} (ht : taken.length = 64) (h : goodL W R C l (-1) taken) : IsM W R C (mtOf l) := by
  have hin := good_in hC ht h
  refine ⟨fun x hx => ?_, fun _ _ => rfl, fun x y hx he => ?_⟩
  · obtain ⟨p, hp, e1, e2⟩ := mtOf_some hx
    obtain ⟨_, a2, a3, a4, _, a6⟩ := hin p hp
    have := hW.lo x p.2.toNat
    rw [show p.1.toNat = x by omega] at a6
    exact ⟨p.2.toNat, by omega, ⟨by omega, by omega, by omega⟩, rfl⟩
  · obtain ⟨p, hp, e1, e2⟩ := mtOf_some hx
    obtain ⟨q, hq, e3, e4⟩ := mtOf_some (l := l) (r := y) (by omega)
    have := good_col hC ht h p hp q hq (by omega)
    subst this
    omega
theorem len_up : ∀ {l : List Ed} {lo hi : Int}, lo ≤ hi → l.Pairwise (fun x y => x.r * 64 + x.c < y.r * 64 + y.c) → (∀ x ∈ l, lo ≤ x.r * 64 + x.c ∧ x.r * 64 + x.c < hi) → (l.length : Int) ≤ hi - lo
  | [], lo, hi, h, _, _ => by simp; omega
  | a :: l, lo, hi, h, hp, hb => by
    have h1 := hb a (by simp)
    have h2 := len_up (l := l) (lo := a.r * 64 + a.c + 1) (hi := hi) (by omega) (List.pairwise_cons.1 hp).2 fun x hx => by
      have := (List.pairwise_cons.1 hp).1 x hx
      have := hb x (by simp [hx])
      omega
    simp only [List.length_cons, Int.natCast_add, Int.natCast_one]
    omega
theorem es_len {g : Gr} (h : chk g = true) : g.es.length ≤ 4096 := by
  have hk : ∀ x ∈ g.es, 0 ≤ x.c ∧ x.c < 64 ∧ 0 ≤ x.r ∧ x.r < 64 := fun x hx => by
    obtain ⟨r, c, h1, h2, _, _, h3, h4⟩ := edge_ok h hx
    omega
  have hp : g.es.Pairwise (fun x y => x.r * 64 + x.c < y.r * 64 + y.c) := by
    refine List.Pairwise.imp_of_mem ?_ (edges_lt h)
    intro x y hx hy hl
    have := hk x hx
    have := hk y hy
    unfold ltE at hl
    omega
  have := len_up (lo := 0) (hi := 4096) (by omega) hp fun x hx => by have := hk x hx; omega
  omega
/-- A row's column; 'n' for none. -/
def colOr (n : Nat) (f : Nat → Int) (r : Nat) : Int := if f r < 0 then (n : Int) else f r
theorem val_nonneg {W : Nat → Nat → Int} (hW : WOk W) (f : Nat → Int) (R : Nat) : 0 ≤ val W f R := by
  have : ∀ n, 0 ≤ sumN (fun r => if f r < 0 then 0 else W r (f r).toNat) n := by
    intro n
    induction n with
    | zero => exact Int.le_refl _
    | succ n ih =>
      unfold sumN
      have := hW.lo n (f n).toNat
      split <;> omega
  exact this R
theorem worthF_no {g : Gr} (l : List (Int × Int)) (hc : chk g = true) (e : (worthF g l).2 = 0) : goodL (wG g) g.rows.toNat g.cols.toNat l (-1) (List.replicate 64 false) ∧ (worthF g l).1 = sumW (wG g) l := by
  unfold worthF at e ⊢
  rw [if_pos hc] at e ⊢
  rcases worth_good (wG g) g.rows.toNat g.cols.toNat l (-1) 0 (List.replicate 64 false) with ⟨h1, h2⟩ | h
  · rw [h2]; exact ⟨h1, by simp⟩
  · rw [h] at e; cases e
theorem least_le {g : Gr} (hc : chk g = true) {tt y z : List Int} (h : BestAns g tt y z) (l : List (Int × Int)) : (worthF g l).1 ≤ val (wG g) (upTo g.rows.toNat tt) g.rows.toNat := by
  have hs := BestAns.sizes hc
  have hv := val_nonneg (wG_ok hc) (upTo g.rows.toNat tt) g.rows.toNat
  unfold worthF
  rw [if_pos hc]
  rcases worth_good (wG g) g.rows.toNat g.cols.toNat l (-1) 0 (List.replicate 64 false) with ⟨h1, h2⟩ | h2
  · rw [h2, ← good_val hs.2.1 (by omega) (by simp) h1, Int.zero_add]
    exact h.best.most (good_mat (wG_ok hc) hs.2.1 (by simp) h1)
  · rw [h2]; exact hv
theorem least_lex {g : Gr} (hc : chk g = true) {tt y z : List Int} (h : BestAns g tt y z) {l : List (Int × Int)} (e : (worthF g l).2 = 0) (hm : val (wG g) (upTo g.rows.toNat tt) g.rows.toNat ≤ (worthF g l).1)
    {i : Nat} (hi : i < g.rows.toNat) (hb : ∀ j, j < i → colOr g.cols.toNat (getI tt) j = colOr g.cols.toNat (mtOf l) j) (hne : colOr g.cols.toNat (getI tt) i ≠ colOr g.cols.toNat (mtOf l) i) : colOr g.cols.toNat (getI tt) i < colOr g.cols.toNat (mtOf l) i := by
  have hs := BestAns.sizes hc
  obtain ⟨h1, h2⟩ := worthF_no l hc e
  have hmat := good_mat (wG_ok hc) hs.2.1 (by simp) h1
  rw [h2, ← good_val hs.2.1 (by omega) (by simp) h1] at hm
  have hsl := h.best.as hmat hm
  have hlt : ∀ x, 0 ≤ mtOf l x → mtOf l x < g.cols.toNat := fun x hx => by
    obtain ⟨c, q1, ⟨_, q2, _⟩, _⟩ := hmat.edge x hx
    omega
  have hlt2 : ∀ x, x < g.rows.toNat → getI tt x < g.cols.toNat := fun x hx => by
    rcases h.val x hx with q | ⟨c, q1, q2⟩ <;> omega
  have hup : ∀ x, x < g.rows.toNat → upTo g.rows.toNat tt x = getI tt x := fun x hx => if_pos hx
  have hl := h.best.lex (mtOf l) hmat hsl i hi fun x hx => by
    have q := hb x hx
    have q1 := hlt x
    have q2 := hlt2 x (by omega)
    rw [hup x (by omega)]
    unfold colOr at q
    unfold Alk
    split at q <;> split at q <;> omega
  rw [hup i hi] at hl
  have q1 := hlt i
  have q2 := hlt2 i hi
  unfold LexLe at hl
  unfold colOr at hne ⊢
  by_cases k1 : getI tt i < 0 <;> by_cases k2 : mtOf l i < 0 <;> simp only [k1, k2, if_true, if_false] at hne ⊢ <;> omega
end Go.Proofs.Ytmddhjoomlhbcaa
