/- What holds behind every script of a ledger, plain. -/
import Derived.Test.YtnapfjgokeloeaaLedPl
namespace Go.Proofs.Ytnapfjgokeloeaa
open Go.RowKit

/-- A balance by the entries. -/
def oneE (e : En) (x : Id8) : Int := (if e.to = x then e.amt else 0) - (if e.fr = x then e.amt else 0)
def sumE (E : List En) (x : Id8) : Int := (E.map fun e => oneE e x).sum
theorem sumE_snoc (E : List En) (e : En) (x : Id8) : sumE (E ++ [e]) x = sumE E x + oneE e x := by unfold sumE; simp
/-- May an entry be paid where no limit is in the way? -/
def PayOk (b : Id8 → Int) (e : En) : Prop := 1 ≤ e.amt ∧ e.amt ≤ 4611686018427387903 ∧ e.fr ≠ e.to ∧ -4611686018427387903 ≤ b e.fr - e.amt ∧ b e.to + e.amt ≤ 4611686018427387903
inductive GoodE : List En → Prop where
  | nil : GoodE []
  | snoc (E : List En) (e : En) : GoodE E → PayOk (sumE E) e → GoodE (E ++ [e])
structure Inv (s : LSt) : Prop where
  bal : ∀ x, (acOf s.T x).bal = sumE s.E x
  lim : ∀ x, (acOf s.T x).lim = limL s.L x
  good : GoodE s.E
  keys : ∀ e ∈ s.E, e.fr ∈ Keys s.T ∧ e.to ∈ Keys s.T
  nodup : (Keys s.T).Nodup
theorem pay_zero {T : List (Id8 × Ac)} {f t : Id8} {n : Int} (h : payE T f t n = 0) : 1 ≤ n ∧ n ≤ 4611686018427387903 ∧ f ≠ t ∧ -(acOf T f).lim ≤ (acOf T f).bal - n ∧ (acOf T t).bal + n ≤ 4611686018427387903 := by
  unfold payE at h
  by_cases h1 : n < 1 ∨ 4611686018427387903 < n ∨ f = t
  · rw [if_pos h1] at h; omega
  rw [if_neg h1] at h
  by_cases h2 : (acOf T f).bal - n < -(acOf T f).lim
  · rw [if_pos h2] at h; omega
  rw [if_neg h2] at h
  by_cases h3 : 4611686018427387903 < (acOf T t).bal + n
  · rw [if_pos h3] at h; omega
  have h4 : ¬ f = t := fun e => h1 (.inr (.inr e))
  exact ⟨by omega, by omega, h4, by omega, by omega⟩
theorem pay_is_zero {T : List (Id8 × Ac)} {f t : Id8} {n : Int} (h1 : 1 ≤ n) (h2 : n ≤ 4611686018427387903) (h3 : f ≠ t) (h4 : -(acOf T f).lim ≤ (acOf T f).bal - n) (h5 : (acOf T t).bal + n ≤ 4611686018427387903) : payE T f t n = 0 := by
  unfold payE
  rw [if_neg (by rintro (h | h | h) <;> first | omega | exact h3 h), if_neg (by omega), if_neg (by omega)]
theorem payT_at {T : List (Id8 × Ac)} {f t : Id8} {n : Int} (h : payE T f t n = 0) (x : Id8) : acOf (payT T f t n) x = ⟨(acOf T x).bal + oneE ⟨f, t, n⟩ x, (acOf T x).lim⟩ := by
  obtain ⟨_, _, h3, _⟩ := pay_zero h
  unfold payT oneE
  rw [if_pos h, acOf_put, acOf_put]
  by_cases e1 : t = x
  · subst e1
    rw [if_pos rfl, if_pos rfl, if_neg h3]; simp
  · rw [if_neg e1, if_neg e1]
    by_cases e2 : f = x
    · subst e2
      rw [if_pos rfl, if_pos rfl]
      congr 1; dsimp only; omega
    · rw [if_neg e2, if_neg e2]; simp
theorem payT_keys {T : List (Id8 × Ac)} {f t : Id8} {n : Int} (h : payE T f t n = 0) (x : Id8) : x ∈ Keys (payT T f t n) ↔ x = f ∨ x = t ∨ x ∈ Keys T := by
  unfold payT
  rw [if_pos h, mem_keys_putM, mem_keys_putM]
  constructor
  · rintro (h | h | h)
    · exact .inr (.inl h)
    · exact .inl h
    · exact .inr (.inr h)
  · rintro (h | h | h)
    · exact .inr (.inl h)
    · exact .inl h
    · exact .inr (.inr h)
theorem payT_nodup {T : List (Id8 × Ac)} (hn : (Keys T).Nodup) (f t : Id8) (n : Int) : (Keys (payT T f t n)).Nodup := by
  unfold payT
  split
  · exact nodup_putM (nodup_putM hn _ _) _ _
  · exact hn
theorem Inv.pay {T : List (Id8 × Ac)} {E L : List En} (h : Inv ⟨T, E, L⟩) (hok : OkT T) {e : En} (h0 : payE T e.fr e.to e.amt = 0) : Inv ⟨payT T e.fr e.to e.amt, E ++ [e], L⟩ := by
  obtain ⟨h1, h2, h3, h4, h5⟩ := pay_zero h0
  have hb := h.bal
  dsimp only at hb
  refine ⟨fun x => ?_, fun x => ?_, .snoc E e h.good ⟨h1, h2, h3, ?_, ?_⟩, fun e' he => ?_, payT_nodup h.nodup _ _ _⟩
  · dsimp only; rw [payT_at h0, sumE_snoc, ← hb]
  · dsimp only; rw [payT_at h0]; exact h.lim x
  · have := hok e.fr
    unfold AcOk at this
    rw [← hb]; omega
  · rw [← hb]; exact h5
  · dsimp only at he ⊢
    rw [payT_keys h0, payT_keys h0]
    rcases List.mem_append.1 he with he | he
    · exact ⟨.inr (.inr (h.keys e' he).1), .inr (.inr (h.keys e' he).2)⟩
    · rw [List.mem_singleton.1 he]; exact ⟨.inl rfl, .inr (.inl rfl)⟩
theorem Inv.payN {T : List (Id8 × Ac)} {E L : List En} (h : Inv ⟨T, E, L⟩) (hok : OkT T) (e : En) : Inv ⟨payT T e.fr e.to e.amt, payN T E e.fr e.to e.amt, L⟩ := by
  by_cases h0 : payE T e.fr e.to e.amt = 0
  · unfold Go.Proofs.Ytnapfjgokeloeaa.payN
    rw [if_pos h0]; exact h.pay hok h0
  · unfold Go.Proofs.Ytnapfjgokeloeaa.payN payT
    rw [if_neg h0, if_neg h0]; exact h
theorem Inv.all {L : List En} : ∀ {l : List En} {T : List (Id8 × Ac)} {E : List En} {j : Nat}, Inv ⟨T, E, L⟩ → OkT T → allX T j l = none → Inv ⟨allT T l, E ++ l, L⟩
  | [], T, E, j, h, _, _ => by rw [List.append_nil]; exact h
  | e :: l, T, E, j, h, hok, hx => by
    unfold allX at hx
    by_cases h0 : payE T e.fr e.to e.amt = 0
    · rw [if_pos h0] at hx
      have := Inv.all (h.pay hok h0) (payT_ok hok _ _ _) hx
      rw [List.append_assoc] at this
      exact this
    · rw [if_neg h0] at hx; cases hx
theorem cred_zero {T : List (Id8 × Ac)} {x : Id8} {n : Int} (h : credE T x n = 0) : 0 ≤ n ∧ n ≤ 4611686018427387903 ∧ -n ≤ (acOf T x).bal := by
  unfold credE at h
  by_cases h1 : n < 0 ∨ 4611686018427387903 < n
  · rw [if_pos h1] at h; omega
  rw [if_neg h1] at h
  by_cases h2 : (acOf T x).bal < -n
  · rw [if_pos h2] at h; omega
  · omega
theorem credT_at {T : List (Id8 × Ac)} {x : Id8} {n : Int} (h : credE T x n = 0) (y : Id8) : acOf (credT T x n) y = ⟨(acOf T y).bal, if x = y then n else (acOf T y).lim⟩ := by
  unfold credT
  rw [if_pos h, acOf_put]
  by_cases e : x = y
  · subst e; rw [if_pos rfl, if_pos rfl]
  · rw [if_neg e, if_neg e]
theorem credT_keys {T : List (Id8 × Ac)} {x : Id8} {n : Int} (h : credE T x n = 0) (y : Id8) : y ∈ Keys (credT T x n) ↔ y = x ∨ y ∈ Keys T := by
  unfold credT; rw [if_pos h, mem_keys_putM]
theorem credT_nodup {T : List (Id8 × Ac)} (hn : (Keys T).Nodup) (x : Id8) (n : Int) : (Keys (credT T x n)).Nodup := by
  unfold credT
  split
  · exact nodup_putM hn _ _
  · exact hn
theorem inv_step {s : LSt} (h : Inv s) (hok : OkT s.T) (o : LOp) : Inv (stepL s o) := by
  unfold stepL
  by_cases k0 : o.kind % 4 = 0
  · rw [if_pos k0]; exact Inv.payN h hok o.e
  rw [if_neg k0]
  by_cases k1 : o.kind % 4 = 1
  · rw [if_pos k1]
    by_cases h0 : credE s.T o.e.fr o.e.amt = 0
    · rw [if_pos h0]
      refine ⟨fun x => ?_, fun x => ?_, h.good, fun e he => ?_, credT_nodup h.nodup _ _⟩
      · dsimp only; rw [credT_at h0]; exact h.bal x
      · dsimp only; rw [credT_at h0, limL_snoc, ← h.lim]
      · dsimp only at he ⊢
        rw [credT_keys h0, credT_keys h0]
        exact ⟨.inr (h.keys e he).1, .inr (h.keys e he).2⟩
    · rw [if_neg h0]
      unfold credT
      rw [if_neg h0]; exact h
  rw [if_neg k1]
  by_cases k2 : o.kind % 4 = 2
  · rw [if_pos k2]
    unfold allT2 allE2
    by_cases h0 : allX s.T 0 o.l = none
    · rw [if_pos h0, if_pos h0]; exact Inv.all h hok h0
    · rw [if_neg h0, if_neg h0]; exact h
  · rw [if_neg k2]; exact h
theorem play_inv (S : List LOp) : Inv (playL S) :=
  snoc_ind (P := fun S => Inv (playL S)) ⟨fun _ => rfl, fun _ => rfl, .nil, fun _ h => (by cases h), List.nodup_nil⟩ (fun S o ih => by rw [playL_snoc]; exact inv_step ih (play_len S).1 o) S
/-- All balances together. -/
theorem sum_zero {K : List Id8} (hn : K.Nodup) (E : List En) (hk : ∀ e ∈ E, e.fr ∈ K ∧ e.to ∈ K) : (K.map (sumE E)).sum = 0 := by
  have one : ∀ (K : List Id8) (x : Id8) (n : Int), K.Nodup → (K.map fun y => if x = y then n else 0).sum = if x ∈ K then n else 0 := by
    intro K x n
    induction K with
    | nil => simp
    | cons a K ih =>
      intro hn
      rw [List.nodup_cons] at hn
      rw [List.map_cons, List.sum_cons, ih hn.2]
      by_cases e : x = a
      · subst e
        rw [if_pos rfl, if_neg hn.1, if_pos List.mem_cons_self]; omega
      · rw [if_neg e]
        by_cases h : x ∈ K
        · rw [if_pos h, if_pos (List.mem_cons_of_mem _ h)]; omega
        · rw [if_neg h, if_neg (by rw [List.mem_cons]; rintro (h1 | h1); exact e h1; exact h h1)]; rfl
  have add : ∀ (K : List Id8) (f g : Id8 → Int), (K.map fun y => f y + g y).sum = (K.map f).sum + (K.map g).sum := by
    intro K f g
    induction K with
    | nil => rfl
    | cons a K ih => simp only [List.map_cons, List.sum_cons, ih]; omega
  have sub : ∀ (K : List Id8) (f g : Id8 → Int), (K.map fun y => f y - g y).sum = (K.map f).sum - (K.map g).sum := by
    intro K f g
    induction K with
    | nil => rfl
    | cons a K ih => simp only [List.map_cons, List.sum_cons, ih]; omega
  revert hk
  refine snoc_ind (P := fun E => (∀ e ∈ E, e.fr ∈ K ∧ e.to ∈ K) → (K.map (sumE E)).sum = 0) ?_ (fun E e ih hk => ?_) E
  · intro hk
    have : (K.map (sumE [])) = K.map fun _ => (0 : Int) := List.map_congr_left fun _ _ => rfl
    rw [this]
    clear hn this hk
    induction K with
    | nil => rfl
    | cons a K ih => rw [List.map_cons, List.sum_cons, ih]; rfl
  · have h1 : K.map (sumE (E ++ [e])) = K.map fun y => sumE E y + oneE e y := List.map_congr_left fun y _ => sumE_snoc E e y
    rw [h1, add, ih (fun e' he => hk e' (List.mem_append_left _ he))]
    have h2 : (K.map fun y => oneE e y) = K.map fun y => (if e.to = y then e.amt else 0) - (if e.fr = y then e.amt else 0) := rfl
    rw [h2, sub, one K e.to e.amt hn, one K e.fr e.amt hn]
    have := hk e (List.mem_append_right _ List.mem_cons_self)
    rw [if_pos this.1, if_pos this.2]; omega
theorem GoodE.mem {E : List En} (h : GoodE E) : ∀ e ∈ E, 1 ≤ e.amt ∧ e.amt ≤ 4611686018427387903 ∧ e.fr ≠ e.to := by
  induction h with
  | nil => intro e he; cases he
  | snoc E e _ h2 ih =>
    intro e' he
    rcases List.mem_append.1 he with he | he
    · exact ih e' he
    · rw [List.mem_singleton.1 he]; exact ⟨h2.1, h2.2.1, h2.2.2.1⟩
/-- The entries paid anew, where all accounts may go as far down as can be. -/
theorem good_all {E : List En} (h : GoodE E) {T : List (Id8 × Ac)} (hz : ∀ x, (acOf T x).bal = 0) (hl : ∀ e ∈ E, (acOf T e.fr).lim = 4611686018427387903) :
    allX T 0 E = none ∧ (∀ x, acOf (allT T E) x = ⟨sumE E x, (acOf T x).lim⟩) ∧ ∀ x, x ∈ Keys (allT T E) ↔ x ∈ Keys T ∨ ∃ e ∈ E, x = e.fr ∨ x = e.to := by
  induction h with
  | nil => exact ⟨rfl, fun x => by show acOf T x = _; have := hz x; cases hx : acOf T x; rw [hx] at this; simp at this; subst this; rfl, fun x => by simp [allT]⟩
  | snoc E e _ h2 ih =>
    obtain ⟨i1, i2, i3⟩ := ih (fun e' he => hl e' (List.mem_append_left _ he))
    obtain ⟨q1, q2, q3, q4, q5⟩ := h2
    have hp : payE (allT T E) e.fr e.to e.amt = 0 := pay_is_zero q1 q2 q3 (by rw [i2]; dsimp only; rw [hl e (List.mem_append_right _ List.mem_cons_self)]; exact q4) (by rw [i2]; exact q5)
    refine ⟨?_, fun x => ?_, fun x => ?_⟩
    · rw [allX_app i1]
      show (if _ then _ else _) = _
      rw [if_pos hp]; rfl
    · rw [allT_app]
      show acOf (payT (allT T E) e.fr e.to e.amt) x = _
      rw [payT_at hp, i2, sumE_snoc]
    · rw [allT_app]
      show x ∈ Keys (payT (allT T E) e.fr e.to e.amt) ↔ _
      rw [payT_keys hp, i3]
      constructor
      · rintro (h | h | h | ⟨e', he, h⟩)
        · exact .inr ⟨e, by simp, .inl h⟩
        · exact .inr ⟨e, by simp, .inr h⟩
        · exact .inl h
        · exact .inr ⟨e', List.mem_append_left _ he, h⟩
      · rintro (h | ⟨e', he, h⟩)
        · exact .inr (.inr (.inl h))
        · rcases List.mem_append.1 he with he | he
          · exact .inr (.inr (.inr ⟨e', he, h⟩))
          · rw [List.mem_singleton.1 he] at h
            rcases h with h | h
            · exact .inl h
            · exact .inr (.inl h)
end Go.Proofs.Ytnapfjgokeloeaa
