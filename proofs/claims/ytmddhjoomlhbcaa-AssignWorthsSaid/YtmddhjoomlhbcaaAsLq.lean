/- Columns laid into a list of rows, in plain Lean. -/
import Derived.Test.YtmddhjoomlhbcaaAsLp
namespace Go.Proofs.Ytmddhjoomlhbcaa

def putL (l : List Int) (ps : List (Int × Int)) : List Int := ps.foldl (fun l p => l.set p.1.toNat p.2) l
theorem putL_snoc (l : List Int) (ps : List (Int × Int)) (p : Int × Int) : putL l (ps ++ [p]) = (putL l ps).set p.1.toNat p.2 := by simp [putL]
theorem putL_len (l : List Int) (ps : List (Int × Int)) : (putL l ps).length = l.length := by
  induction ps generalizing l with
  | nil => rfl
  | cons p ps ih => show (putL (l.set p.1.toNat p.2) ps).length = _; rw [ih]; simp
theorem mtOf_mem {l : List (Int × Int)} (h : l.Pairwise fun p q => p.1 < q.1) {p : Int × Int} (hp : p ∈ l) (h0 : 0 ≤ p.1) : mtOf l p.1.toNat = p.2 := by
  induction h with
  | nil => cases hp
  | @cons a l ha _ ih =>
    unfold mtOf
    rcases List.mem_cons.1 hp with rfl | hp
    · rw [if_pos (by omega)]
    · rw [if_neg (by have := ha p hp; omega)]; exact ih hp
theorem mtOf_cons (p : Int × Int) (ps : List (Int × Int)) (j : Nat) : mtOf (p :: ps) j = if p.1 = j then p.2 else mtOf ps j := rfl
theorem putL_get : ∀ {ps : List (Int × Int)} {l : List Int} {j : Nat}, ps.Pairwise (fun p q => p.1 < q.1) → (∀ p ∈ ps, 0 ≤ p.1 ∧ 0 ≤ p.2) → j < l.length → getI (putL l ps) j = if mtOf ps j < 0 then getI l j else mtOf ps j
  | [], l, j, _, _, _ => by unfold mtOf putL; simp
  | p :: ps, l, j, h, h0, hj => by
    obtain ⟨h1, h2⟩ := List.pairwise_cons.1 h
    obtain ⟨a1, a2⟩ := h0 p (by simp)
    show getI (putL (l.set p.1.toNat p.2) ps) j = _
    rw [putL_get h2 (fun q hq => h0 q (by simp [hq])) (by simpa using hj), getI_set, mtOf_cons]
    by_cases e : p.1 = j
    · have k1 : p.1.toNat = j ∧ j < l.length := ⟨by omega, hj⟩
      have k2 : ¬ p.2 < 0 := by omega
      have k3 : (-1 : Int) < 0 := by omega
      rw [if_pos e, mtOf_none (fun q hq => by have := h1 q hq; omega), if_pos k3, if_pos k1, if_neg k2]
    · have k1 : ¬ (p.1.toNat = j ∧ j < l.length) := fun h => e (by omega)
      rw [if_neg e, if_neg k1]
theorem prs_up (tt : List Int) (n : Nat) : (prsTo tt n).Pairwise fun p q => p.1 < q.1 := by
  have key : ∀ m, (prsTo tt m).Pairwise (fun p q => p.1 < q.1) ∧ ∀ p ∈ prsTo tt m, p.1 < m := by
    intro m
    induction m with
    | zero => exact ⟨by simp [prsTo], fun p hp => by simp [prsTo] at hp⟩
    | succ m ih =>
      rw [prsTo_succ]
      refine ⟨List.pairwise_append.2 ⟨ih.1, ?_, fun p hp q hq => ?_⟩, fun p hp => ?_⟩
      · split <;> simp
      · have := ih.2 p hp
        split at hq
        · cases hq
        · simp at hq; subst hq; exact this
      · rcases List.mem_append.1 hp with hp | hp
        · have := ih.2 p hp; omega
        · split at hp
          · cases hp
          · simp at hp; subst hp; show (m : Int) < _; omega
  exact (key n).1
theorem good_up {W : Nat → Nat → Int} {R C : Nat} (hC : C ≤ 64) : ∀ {l : List (Int × Int)} {last : Int} {taken : List Bool}, taken.length = 64 → goodL W R C l last taken → l.Pairwise fun p q => p.1 < q.1
  | [], _, _, _, _ => by simp
  | p :: l, last, taken, ht, h => List.pairwise_cons.2 ⟨fun q hq => (good_in hC (by simpa using ht) h.2 q hq).1, good_up hC (by simpa using ht) h.2⟩
theorem colOr_put {ps : List (Int × Int)} {R n j : Nat} (h : ps.Pairwise fun p q => p.1 < q.1) (h0 : ∀ p ∈ ps, 0 ≤ p.1 ∧ 0 ≤ p.2) (hj : j < R) : getI (putL (List.replicate R (n : Int)) ps) j = colOr n (mtOf ps) j := by
  rw [putL_get h h0 (by simpa using hj)]
  unfold colOr
  have : getI (List.replicate R (n : Int)) j = n := by unfold getI; rw [List.getElem?_replicate, if_pos hj]; rfl
  rw [this]
theorem colOr_best {g : Gr} {tt y z : List Int} (h : BestAns g tt y z) {R : Nat} (hR : R = g.rows.toNat) {n j : Nat} (hj : j < R) : getI (putL (List.replicate R (n : Int)) (prsTo tt R)) j = colOr n (getI tt) j := by
  subst hR
  rw [colOr_put (prs_up tt _) (fun p hp => by obtain ⟨r, c, rfl, _⟩ := h.pair_in hp; constructor <;> simp) hj]
  have e : mtOf (prsTo tt g.rows.toNat) j = if getI tt j < 0 then -1 else getI tt j := by
    by_cases e : getI tt j < 0
    · rw [if_pos e]
      refine mtOf_none fun p hp h9 => ?_
      obtain ⟨r, c, rfl, _, _, h3⟩ := h.pair_in hp
      have : r = j := by have : (r : Int) = j := h9
                         omega
      subst this; omega
    · rw [if_neg e]
      rcases h.val j hj with h1 | ⟨c, h1, _⟩
      · omega
      · have := mtOf_mem (prs_up tt _) (BestAns.pair_of hj h1) (by simp)
        simp at this
        rw [this, h1]
  unfold colOr
  rw [e]
  by_cases e2 : getI tt j < 0
  · rw [if_pos e2, if_pos e2]; rfl
  · rw [if_neg e2, if_neg e2]
end Go.Proofs.Ytmddhjoomlhbcaa
