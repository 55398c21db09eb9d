/- What Settle tells brings all to 0, plain. -/
import Derived.Test.YtnapfjgokeloeaaLedIn
namespace Go.Proofs.Ytnapfjgokeloeaa
open Go.RowKit

/-- What a list of entries brings their accounts, or takes from them. -/
def frS (l : List En) (x : Id8) : Int := (l.map fun e => if e.fr = x then e.amt else 0).sum
def toS (l : List En) (x : Id8) : Int := (l.map fun e => if e.to = x then e.amt else 0).sum
def amtS (l : List En) : Int := (l.map En.amt).sum
theorem frS_cons (e : En) (l : List En) (x : Id8) : frS (e :: l) x = (if e.fr = x then e.amt else 0) + frS l x := rfl
theorem toS_cons (e : En) (l : List En) (x : Id8) : toS (e :: l) x = (if e.to = x then e.amt else 0) + toS l x := rfl
theorem amtS_cons (e : En) (l : List En) : amtS (e :: l) = e.amt + amtS l := rfl
/-- What has, what owes: as the balances are. -/
structure Rep (T : List (Id8 × Ac)) (hs os : List En) : Prop where
  bal : ∀ x, (acOf T x).bal = frS hs x - toS os x
  ph : ∀ e ∈ hs, 1 ≤ e.amt
  po : ∀ e ∈ os, 1 ≤ e.amt
  nh : (hs.map En.fr).Nodup
  no : (os.map En.to).Nodup
  apart : ∀ h ∈ hs, ∀ o ∈ os, h.fr ≠ o.to
  sum : amtS hs = amtS os
theorem frS_none {l : List En} {x : Id8} (h : ∀ e ∈ l, e.fr ≠ x) : frS l x = 0 := by
  induction l with
  | nil => rfl
  | cons e l ih => rw [frS_cons, if_neg (h e List.mem_cons_self), ih (fun e' he => h e' (List.mem_cons_of_mem _ he))]; rfl
theorem toS_none {l : List En} {x : Id8} (h : ∀ e ∈ l, e.to ≠ x) : toS l x = 0 := by
  induction l with
  | nil => rfl
  | cons e l ih => rw [toS_cons, if_neg (h e List.mem_cons_self), ih (fun e' he => h e' (List.mem_cons_of_mem _ he))]; rfl
theorem amtS_pos {l : List En} (h : ∀ e ∈ l, 1 ≤ e.amt) : 0 ≤ amtS l := by
  induction l with
  | nil => exact Int.le_refl _
  | cons e l ih =>
    rw [amtS_cons]
    have := h e List.mem_cons_self
    have := ih (fun e' he => h e' (List.mem_cons_of_mem _ he))
    omega
theorem lessN_facts {e : En} {n : Int} {l : List En} (hn : n ≤ e.amt) (hp : ∀ e' ∈ e :: l, 1 ≤ e'.amt) :
    (∀ e' ∈ lessN e n l, 1 ≤ e'.amt) ∧ (∀ x, frS (lessN e n l) x = frS (e :: l) x - (if e.fr = x then n else 0)) ∧ (∀ x, toS (lessN e n l) x = toS (e :: l) x - (if e.to = x then n else 0)) ∧ amtS (lessN e n l) = amtS (e :: l) - n ∧
    (∀ e' ∈ lessN e n l, ∃ f ∈ e :: l, e'.fr = f.fr ∧ e'.to = f.to) ∧ ((lessN e n l).map En.fr).Sublist ((e :: l).map En.fr) ∧ ((lessN e n l).map En.to).Sublist ((e :: l).map En.to) := by
  unfold lessN
  by_cases h0 : e.amt - n = 0
  · rw [if_pos h0]
    have he : e.amt = n := by omega
    refine ⟨fun e' h => hp e' (List.mem_cons_of_mem _ h), fun x => ?_, fun x => ?_, ?_, fun e' h => ⟨e', List.mem_cons_of_mem _ h, rfl, rfl⟩, List.sublist_cons_self _ _, List.sublist_cons_self _ _⟩
    · rw [frS_cons, he]; omega
    · rw [toS_cons, he]; omega
    · rw [amtS_cons, he]; omega
  · rw [if_neg h0]
    refine ⟨fun e' h => ?_, fun x => ?_, fun x => ?_, ?_, fun e' h => ?_, List.Sublist.refl _, List.Sublist.refl _⟩
    · rcases List.mem_cons.1 h with rfl | h
      · dsimp only; omega
      · exact hp e' (List.mem_cons_of_mem _ h)
    · rw [frS_cons, frS_cons]; dsimp only; split <;> omega
    · rw [toS_cons, toS_cons]; dsimp only; split <;> omega
    · rw [amtS_cons, amtS_cons]; dsimp only; omega
    · rcases List.mem_cons.1 h with rfl | h
      · exact ⟨e, List.mem_cons_self, rfl, rfl⟩
      · exact ⟨e', List.mem_cons_of_mem _ h, rfl, rfl⟩
theorem lessN_len {e : En} {n : Int} (l : List En) : (lessN e n l).length = if e.amt - n = 0 then l.length else l.length + 1 := by
  unfold lessN; split <;> rfl
/-- One pair paid. -/
theorem Rep.step {T : List (Id8 × Ac)} {h o : En} {hs os : List En} (hr : Rep T (h :: hs) (o :: os)) (hok : OkT T) :
    payE T h.fr o.to (min h.amt o.amt) = 0 ∧ Rep (payT T h.fr o.to (min h.amt o.amt)) (lessN h (min h.amt o.amt) hs) (lessN o (min h.amt o.amt) os) := by
  have ph := hr.ph h List.mem_cons_self
  have po := hr.po o List.mem_cons_self
  have hne : h.fr ≠ o.to := hr.apart h List.mem_cons_self o List.mem_cons_self
  have nh := hr.nh
  have no := hr.no
  rw [List.map_cons, List.nodup_cons] at nh no
  have b1 : (acOf T h.fr).bal = h.amt := by
    rw [hr.bal, frS_cons, if_pos rfl, frS_none (fun e he e1 => nh.1 (List.mem_map.2 ⟨e, he, e1⟩)), toS_none (fun e he e1 => hr.apart h List.mem_cons_self e he e1.symm)]; omega
  have b2 : (acOf T o.to).bal = -o.amt := by
    rw [hr.bal, toS_cons, if_pos rfl, toS_none (fun e he e1 => no.1 (List.mem_map.2 ⟨e, he, e1⟩)), frS_none (fun e he e1 => hr.apart e he o List.mem_cons_self e1)]; omega
  have k1 := hok h.fr
  have k2 := hok o.to
  unfold AcOk at k1 k2
  have hp : payE T h.fr o.to (min h.amt o.amt) = 0 := pay_is_zero (by omega) (by omega) hne (by omega) (by omega)
  obtain ⟨l1, l2, _, l4, l5, l6, _⟩ := lessN_facts (e := h) (n := min h.amt o.amt) (l := hs) (by omega) hr.ph
  obtain ⟨m1, _, m3, m4, m5, _, m7⟩ := lessN_facts (e := o) (n := min h.amt o.amt) (l := os) (by omega) hr.po
  refine ⟨hp, ⟨fun x => ?_, l1, m1, hr.nh.sublist l6, hr.no.sublist m7, fun a ha b hb e => ?_, ?_⟩⟩
  · rw [payT_at hp]
    dsimp only
    rw [l2, m3, hr.bal]
    unfold oneE
    dsimp only
    by_cases e1 : h.fr = x
    · rw [if_pos e1, if_neg (fun e2 => hne (e1.trans e2.symm))]; omega
    · rw [if_neg e1]
      by_cases e2 : o.to = x
      · rw [if_pos e2]; omega
      · rw [if_neg e2]; omega
  · obtain ⟨f, hf, q1, _⟩ := l5 a ha
    obtain ⟨g, hg, _, q2⟩ := m5 b hb
    exact hr.apart f hf g hg (by rw [← q1, ← q2]; exact e)
  · rw [l4, m4, hr.sum]
theorem Rep.empty_right {T : List (Id8 × Ac)} {hs : List En} (hr : Rep T hs []) : hs = [] := by
  cases hs with
  | nil => rfl
  | cons h hs =>
    have h1 := hr.sum
    rw [amtS_cons] at h1
    have h2 := amtS_pos (fun e he => hr.ph e (List.mem_cons_of_mem _ he))
    have h3 := hr.ph h List.mem_cons_self
    have h4 : amtS [] = 0 := rfl
    omega
theorem Rep.empty_left {T : List (Id8 × Ac)} {os : List En} (hr : Rep T [] os) : os = [] := by
  cases os with
  | nil => rfl
  | cons o os =>
    have h1 := hr.sum
    rw [amtS_cons] at h1
    have h2 := amtS_pos (fun e he => hr.po e (List.mem_cons_of_mem _ he))
    have h3 := hr.po o List.mem_cons_self
    have h4 : amtS [] = 0 := rfl
    omega
/-- All of it paid. -/
theorem Rep.all : ∀ (n : Nat) (T : List (Id8 × Ac)) (hs os : List En) (j : Nat), Rep T hs os → OkT T → hs.length + os.length ≤ n →
    allX T j (stlF n hs os) = none ∧ (∀ x, (acOf (allT T (stlF n hs os)) x).bal = 0) ∧ (stlF n hs os).length ≤ hs.length + os.length - 1 ∧ ∀ e ∈ stlF n hs os, (∃ h ∈ hs, e.fr = h.fr) ∧ (∃ o ∈ os, e.to = o.to)
  | 0, T, hs, os, j, hr, _, hl => by
    obtain rfl : hs = [] := List.eq_nil_of_length_eq_zero (by omega)
    obtain rfl : os = [] := List.eq_nil_of_length_eq_zero (by omega)
    exact ⟨rfl, fun x => by show (acOf T x).bal = 0; rw [hr.bal]; rfl, Nat.le_refl _, fun e he => by cases he⟩
  | n + 1, T, [], os, j, hr, _, _ => by
    obtain rfl := hr.empty_left
    exact ⟨rfl, fun x => by show (acOf T x).bal = 0; rw [hr.bal]; rfl, Nat.zero_le _, fun e he => by cases he⟩
  | n + 1, T, h :: hs, [], j, hr, _, _ => by cases hr.empty_right
  | n + 1, T, h :: hs, o :: os, j, hr, hok, hl => by
    obtain ⟨hp, hr2⟩ := hr.step hok
    have ph := hr.ph h List.mem_cons_self
    have po := hr.po o List.mem_cons_self
    have l1 := lessN_len (e := h) (n := min h.amt o.amt) hs
    have l2 := lessN_len (e := o) (n := min h.amt o.amt) os
    have hle : (lessN h (min h.amt o.amt) hs).length + (lessN o (min h.amt o.amt) os).length ≤ n := by
      simp only [List.length_cons] at hl
      rw [l1, l2]
      split <;> split <;> omega
    obtain ⟨i1, i2, i3, i4⟩ := Rep.all n _ _ _ (j + 1) hr2 (payT_ok hok _ _ _) hle
    refine ⟨?_, i2, ?_, fun e he => ?_⟩
    · show (if payE T h.fr o.to (min h.amt o.amt) = 0 then _ else _) = none
      rw [if_pos hp]; exact i1
    · show (stlF n _ _).length + 1 ≤ _
      simp only [List.length_cons] at hl ⊢
      rw [l1, l2] at i3
      by_cases e : h.amt = o.amt
      · rw [if_pos (by omega), if_pos (by omega)] at i3
        -- both are struck: the sum of the others
        by_cases h0 : hs.length + os.length = 0
        · omega
        · omega
      · have : ¬ (h.amt - min h.amt o.amt = 0) ∨ ¬ (o.amt - min h.amt o.amt = 0) := by omega
        rcases this with q | q
        · rw [if_neg q] at i3
          rw [if_pos (by omega)] at i3
          omega
        · rw [if_neg q] at i3
          rw [if_pos (by omega)] at i3
          omega
    · have he' : e ∈ (⟨h.fr, o.to, min h.amt o.amt⟩ : En) :: stlF n (lessN h (min h.amt o.amt) hs) (lessN o (min h.amt o.amt) os) := he
      rcases List.mem_cons.1 he' with rfl | he'
      · exact ⟨⟨h, List.mem_cons_self, rfl⟩, ⟨o, List.mem_cons_self, rfl⟩⟩
      · obtain ⟨⟨a, ha, e1⟩, ⟨b, hb, e2⟩⟩ := i4 e he'
        obtain ⟨_, _, _, _, l5, _⟩ := lessN_facts (e := h) (n := min h.amt o.amt) (l := hs) (by omega) hr.ph
        obtain ⟨_, _, _, _, m5, _⟩ := lessN_facts (e := o) (n := min h.amt o.amt) (l := os) (by omega) hr.po
        obtain ⟨f, hf, q1, _⟩ := l5 a ha
        obtain ⟨g, hg, _, q2⟩ := m5 b hb
        exact ⟨⟨f, hf, e1.trans q1⟩, ⟨g, hg, e2.trans q2⟩⟩
theorem hasL_cons (T : List (Id8 × Ac)) (x : Id8) (l : List Id8) : hasL T (x :: l) = (if 0 < (acOf T x).bal then [⟨x, zId, (acOf T x).bal⟩] else []) ++ hasL T l := by unfold hasL; simp
theorem owesL_cons (T : List (Id8 × Ac)) (x : Id8) (l : List Id8) : owesL T (x :: l) = (if (acOf T x).bal < 0 then [⟨zId, x, -(acOf T x).bal⟩] else []) ++ owesL T l := by unfold owesL; simp
theorem hasL_mem {T : List (Id8 × Ac)} {l : List Id8} {e : En} (h : e ∈ hasL T l) : e.fr ∈ l ∧ 0 < (acOf T e.fr).bal ∧ e.amt = (acOf T e.fr).bal := by
  unfold hasL at h
  obtain ⟨x, hx, he⟩ := List.mem_flatMap.1 h
  by_cases hb : 0 < (acOf T x).bal
  · rw [if_pos hb, List.mem_singleton] at he; subst he; exact ⟨hx, hb, rfl⟩
  · rw [if_neg hb] at he; cases he
theorem owesL_mem {T : List (Id8 × Ac)} {l : List Id8} {e : En} (h : e ∈ owesL T l) : e.to ∈ l ∧ (acOf T e.to).bal < 0 ∧ e.amt = -(acOf T e.to).bal := by
  unfold owesL at h
  obtain ⟨x, hx, he⟩ := List.mem_flatMap.1 h
  by_cases hb : (acOf T x).bal < 0
  · rw [if_pos hb, List.mem_singleton] at he; subst he; exact ⟨hx, hb, rfl⟩
  · rw [if_neg hb] at he; cases he
/-- How many accounts are not at 0. -/
def offN (T : List (Id8 × Ac)) (l : List Id8) : Nat := l.countP fun x => decide ((acOf T x).bal ≠ 0)
theorem off_len (T : List (Id8 × Ac)) (l : List Id8) : (hasL T l).length + (owesL T l).length = offN T l := by
  unfold offN
  induction l with
  | nil => rfl
  | cons x l ih =>
    rw [hasL_cons, owesL_cons, List.length_append, List.length_append, List.countP_cons, ← ih]
    by_cases h1 : 0 < (acOf T x).bal
    · rw [if_pos h1, if_neg (by omega), if_pos (by simp; omega)]; simp; omega
    · rw [if_neg h1]
      by_cases h2 : (acOf T x).bal < 0
      · rw [if_pos h2, if_pos (by simp; omega)]; simp; omega
      · rw [if_neg h2, if_neg (by simp; omega)]; simp
theorem rep_of {T : List (Id8 × Ac)} : ∀ (l : List Id8), l.Nodup → (∀ x, frS (hasL T l) x - toS (owesL T l) x = if x ∈ l then (acOf T x).bal else 0) ∧ ((hasL T l).map En.fr).Sublist l ∧ ((owesL T l).map En.to).Sublist l ∧ amtS (hasL T l) - amtS (owesL T l) = (l.map fun x => (acOf T x).bal).sum
  | [], _ => ⟨fun _ => rfl, List.Sublist.refl _, List.Sublist.refl _, rfl⟩
  | a :: l, hn => by
    rw [List.nodup_cons] at hn
    obtain ⟨i1, i2, i3, i4⟩ := rep_of (T := T) l hn.2
    rw [hasL_cons, owesL_cons]
    refine ⟨fun x => ?_, ?_, ?_, ?_⟩
    · have hi := i1 x
      by_cases e : x = a
      · subst e
        rw [if_neg hn.1] at hi
        rw [if_pos List.mem_cons_self]
        by_cases h1 : 0 < (acOf T x).bal
        · rw [if_pos h1, if_neg (by omega)]
          show frS (_ :: hasL T l) x - toS (owesL T l) x = _
          rw [frS_cons, if_pos rfl]; dsimp only; omega
        · rw [if_neg h1]
          by_cases h2 : (acOf T x).bal < 0
          · rw [if_pos h2]
            show frS (hasL T l) x - toS (_ :: owesL T l) x = _
            rw [toS_cons, if_pos rfl]; dsimp only; omega
          · rw [if_neg h2]
            show frS (hasL T l) x - toS (owesL T l) x = _
            omega
      · have hm : (x ∈ a :: l) ↔ x ∈ l := by rw [List.mem_cons]; exact ⟨fun h => h.elim (fun h => absurd h e) id, .inr⟩
        have e' : ¬ a = x := fun h => e h.symm
        have hif : (if x ∈ a :: l then (acOf T x).bal else 0) = if x ∈ l then (acOf T x).bal else 0 := by simp only [hm]
        rw [hif, ← hi]
        by_cases h1 : 0 < (acOf T a).bal
        · rw [if_pos h1, if_neg (by omega)]
          show frS (_ :: hasL T l) x - toS (owesL T l) x = _
          rw [frS_cons, if_neg e']; omega
        · rw [if_neg h1]
          by_cases h2 : (acOf T a).bal < 0
          · rw [if_pos h2]
            show frS (hasL T l) x - toS (_ :: owesL T l) x = _
            rw [toS_cons, if_neg e']; omega
          · rw [if_neg h2]; rfl
    · by_cases h1 : 0 < (acOf T a).bal
      · rw [if_pos h1]; exact i2.cons_cons a
      · rw [if_neg h1]; exact i2.cons a
    · by_cases h1 : (acOf T a).bal < 0
      · rw [if_pos h1]; exact i3.cons_cons a
      · rw [if_neg h1]; exact i3.cons a
    · rw [List.map_cons, List.sum_cons, ← i4]
      by_cases h1 : 0 < (acOf T a).bal
      · rw [if_pos h1, if_neg (by omega)]
        show amtS (_ :: hasL T l) - amtS (owesL T l) = _
        rw [amtS_cons]; dsimp only; omega
      · rw [if_neg h1]
        by_cases h2 : (acOf T a).bal < 0
        · rw [if_pos h2]
          show amtS (hasL T l) - amtS (_ :: owesL T l) = _
          rw [amtS_cons]; dsimp only; omega
        · rw [if_neg h2]
          show amtS (hasL T l) - amtS (owesL T l) = _
          omega
theorem rep_all {s : LSt} (h : Inv s) : Rep s.T (hasL s.T (sortI (Keys s.T))) (owesL s.T (sortI (Keys s.T))) := by
  have hn : (sortI (Keys s.T)).Nodup := (sortI_perm _).nodup_iff.2 h.nodup
  obtain ⟨r1, r2, r3, r4⟩ := rep_of (T := s.T) _ hn
  have hz := sum_zero hn s.E (fun e he => by rw [sortI_mem, sortI_mem]; exact h.keys e he)
  have hb : ((sortI (Keys s.T)).map fun x => (acOf s.T x).bal) = (sortI (Keys s.T)).map (sumE s.E) := List.map_congr_left fun x _ => h.bal x
  rw [hb, hz] at r4
  refine ⟨fun x => ?_, fun e he => ?_, fun e he => ?_, hn.sublist r2, hn.sublist r3, fun a ha b hb e => ?_, by omega⟩
  · rw [r1]
    by_cases hx : x ∈ sortI (Keys s.T)
    · rw [if_pos hx]
    · rw [if_neg hx]
      rw [sortI_mem, ← lkp_none] at hx
      unfold acOf; rw [hx]; rfl
  · have := hasL_mem he; omega
  · have := owesL_mem he; omega
  · have h1 := hasL_mem ha
    have h2 := owesL_mem hb
    rw [← e] at h2
    omega
theorem lenoff {n m : Nat} (h : n ≤ m - 1) : (0 < m → n ≤ m - 1) ∧ (m = 0 → n = 0) := ⟨fun _ => h, fun e => by omega⟩
/-- What LedgerSettled asks. -/
theorem settled_all {s : LSt} (h : Inv s) (hok : OkT s.T) : allX s.T 0 (settleF s.T) = none ∧ (∀ x, (acOf (allT s.T (settleF s.T)) x).bal = 0) ∧ (settleF s.T).length ≤ offN s.T (sortI (Keys s.T)) - 1 ∧ settleF (allT s.T (settleF s.T)) = [] := by
  have hr := rep_all h
  obtain ⟨a1, a2, a3, _⟩ := Rep.all _ s.T _ _ 0 hr hok (Nat.le_refl _)
  refine ⟨a1, a2, ?_, ?_⟩
  · rw [← off_len]; exact a3
  · have hnil : ∀ (T : List (Id8 × Ac)) (l : List Id8), (∀ x, (acOf T x).bal = 0) → hasL T l = [] ∧ owesL T l = [] := by
      intro T l hz
      induction l with
      | nil => exact ⟨rfl, rfl⟩
      | cons x l ih => rw [hasL_cons, owesL_cons, ih.1, ih.2, hz]; exact ⟨rfl, rfl⟩
    have := hnil (allT s.T (settleF s.T)) (sortI (Keys (allT s.T (settleF s.T)))) a2
    show stl _ _ = []
    rw [this.1, this.2]; rfl
end Go.Proofs.Ytnapfjgokeloeaa
