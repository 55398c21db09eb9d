/- Most: row by row the least column. Plain Lean. -/
import Derived.Test.YtjhomkdnhdhffaaTakeT
namespace Go.Proofs.Ytjhomkdnhdhffaa

/-! ### Row by row the least column -/
def mostL (tl : List (List Nat)) (r : Nat) : List Nat → List Int → List Int → List Bool → Option Nat × List Int × List Int × List Bool
  | [], row, col, gone => (none, row, col, gone)
  | c :: l, row, col, gone =>
    if getB gone c = true then mostL tl r l row col gone
    else if getI row r = c then (some c, row, col, gone.set c true)
    else if (takeF tl gone row col r c).1 = true then (some c, (takeF tl gone row col r c).2.1, (takeF tl gone row col r c).2.2, gone.set c true)
    else mostL tl r l (takeF tl gone row col r c).2.1 (takeF tl gone row col r c).2.2 gone
/-- The pairs so far; the net. -/
structure MSt where
  l : List (Nat × Nat)
  row : List Int
  col : List Int
  gone : List Bool
def mostF (tl : List (List Nat)) (p : List Int × List Int) : Nat → MSt
  | 0 => ⟨[], p.1, p.2, noMarks⟩
  | n + 1 =>
    let s := mostF tl p n
    let t := mostL tl n (tl[n]?.getD []) s.row s.col s.gone
    ⟨s.l ++ (match t.1 with | none => [] | some c => [(n, c)]), t.2.1, t.2.2.1, t.2.2.2⟩

/-- The row's column is the least that it can be. -/
def LexAt (E : Nat → Nat → Prop) (K : Nat) (g : Nat → Int) (r : Nat) : Prop :=
  ∀ f, IsMat E (fun _ => true) (fun _ => true) f → K ≤ cnt (hasP f) 64 → (∀ x, x < r → Alike (f x) (g x)) → 0 ≤ f r → 0 ≤ g r ∧ g r ≤ f r
theorem Alike.refl (a : Int) : Alike a a := fun _ => rfl
theorem LexAt.congr {E : Nat → Nat → Prop} {K : Nat} {g g' : Nat → Int} {r : Nat} (h : LexAt E K g r) (hg : ∀ x, x ≤ r → g' x = g x) : LexAt E K g' r := fun f hf hk hp hr => by
  rw [hg r (Nat.le_refl _)]
  exact h f hf hk (fun x hx => by rw [← hg x (by omega)]; exact hp x hx) hr
/-- Two that are both the least are the same. -/
theorem lex_unique {E : Nat → Nat → Prop} {K : Nat} {g g' : Nat → Int} (hg : IsMat E (fun _ => true) (fun _ => true) g) (hg' : IsMat E (fun _ => true) (fun _ => true) g') (hk : K ≤ cnt (hasP g) 64) (hk' : K ≤ cnt (hasP g') 64)
    (h : ∀ r, LexAt E K g r) (h' : ∀ r, LexAt E K g' r) : ∀ r, Alike (g r) (g' r) := by
  intro r
  induction r using Nat.strongRecOn with
  | ind r ih =>
    intro hr
    by_cases e : 0 ≤ g r
    · have a := h' r g hg hk (fun x hx => ih x hx) e
      have b := h r g' hg' hk' (fun x hx hx2 => (ih x hx (by omega)).symm) a.1
      omega
    · have e2 : 0 ≤ g' r := by omega
      have b := h r g' hg' hk' (fun x hx hx2 => (ih x hx (by omega)).symm) e2
      omega

structure MInv (tl : List (List Nat)) (K n : Nat) (row col : List Int) (gone : List Bool) : Prop where
  mat : Mat (Eg tl) row col
  num : cnt (hasP (getI row)) 64 = K
  done : Done row gone n
  lex : ∀ x, x < n → LexAt (Eg tl) K (getI row) x
theorem mostL_tells {tl : List (List Nat)} (hok : ∀ gone : List Bool, gone.length = 64 → NetOk tl gone) {K n : Nat} (hn : n < 64) (hmax : ∀ f, IsMat (Eg tl) (fun _ => true) (fun _ => true) f → cnt (hasP f) 64 ≤ K) {row col : List Int} {gone : List Bool} (h : MInv tl K n row col gone) :
    ∀ l : List Nat, (∀ c ∈ l, c < 64 ∧ Eg tl n c) → l.Pairwise (· < ·) → (∀ d, Eg tl n d → d ∉ l → (getB gone d = true ∨ NoExt (Eg tl) K (getI row) n d) ∧ getI row n ≠ d ∧ ∀ c ∈ l, d < c) →
      MInv tl K (n + 1) (mostL tl n l row col gone).2.1 (mostL tl n l row col gone).2.2.1 (mostL tl n l row col gone).2.2.2 ∧
      (∀ x, x < n → getI (mostL tl n l row col gone).2.1 x = getI row x) ∧
      (match (mostL tl n l row col gone).1 with | none => getI (mostL tl n l row col gone).2.1 n < 0 | some c => getI (mostL tl n l row col gone).2.1 n = c)
  | [], _, _, hd => by
    have hno : getI row n < 0 := by
      refine Classical.byContradiction fun e => ?_
      rcases h.mat.ok.val n with e1 | ⟨c, e1, _⟩
      · omega
      · exact (hd c (h.mat.edge n c e1) (by simp)).2.1 e1
    unfold mostL
    refine ⟨⟨h.mat, h.num, ⟨h.done.len, fun d hg => ?_, fun x d hx e => ?_⟩, fun x hx => ?_⟩, fun x _ => rfl, hno⟩
    · obtain ⟨x, h1, h2⟩ := h.done.yes d hg
      exact ⟨x, by omega, h2⟩
    · have e : getI row x = d := e
      by_cases e2 : x = n
      · subst e2; omega
      · exact h.done.no x d (by omega) e
    · by_cases e2 : x = n
      · subst e2
        intro f hf hk hp hr
        have hp : ∀ y, y < x → Alike (f y) (getI row y) := hp
        exfalso
        obtain ⟨d, h1, h2, _⟩ := hf.edge x hr
        rcases (hd d h2 (by simp)).1 with h3 | h3
        · obtain ⟨y, h4, h5⟩ := h.done.yes d h3
          have := hp y h4 (.inr (by omega))
          have := hf.one x y hr (by omega)
          omega
        · have := h3 f hf hp h1
          omega
      · exact h.lex x (by omega)
  | c :: l, hl, hs, hd => by
    obtain ⟨hc, he⟩ := hl c (by simp)
    have hs' := List.pairwise_cons.1 hs
    -- where the row gets this column
    have got : ∀ row' col', Mat (Eg tl) row' col' → getI row' n = c → (∀ x, x < n → getI row' x = getI row x) → K ≤ cnt (hasP (getI row')) 64 → getB gone c = false → MInv tl K (n + 1) row' col' (gone.set c true) := by
      intro row' col' hm hrc hold hnum hg
      refine ⟨hm, Nat.le_antisymm (hmax _ (hm.isMat (fun _ _ => rfl) fun _ _ _ => rfl)) hnum, ⟨by simp [h.done.len], fun d hgd => ?_, fun x d hx e => ?_⟩, fun x hx => ?_⟩
      · rw [getB_set] at hgd
        split at hgd
        · exact ⟨n, by omega, by rw [hrc]; omega⟩
        · obtain ⟨x, h1, h2⟩ := h.done.yes d hgd
          exact ⟨x, by omega, by rw [hold x h1]; exact h2⟩
      · rw [getB_set, h.done.len]
        by_cases e2 : x = n
        · subst e2
          have : c = d := by omega
          subst this; simp [hc]
        · have := h.done.no x d (by omega) (by rw [← hold x (by omega)]; exact e)
          split
          · rfl
          · exact this
      · by_cases e2 : x = n
        · subst e2
          intro f hf hk hp hr
          refine ⟨by omega, ?_⟩
          obtain ⟨d, h1, h2, _⟩ := hf.edge x hr
          refine Classical.byContradiction fun hlt => ?_
          have hdc : d < c := by omega
          have hnot : d ∉ c :: l := by
            intro hm2
            rcases List.mem_cons.1 hm2 with h3 | h3
            · omega
            · have := hs'.1 d h3; omega
          have hp' : ∀ y, y < x → Alike (f y) (getI row y) := fun y hy => by rw [← hold y hy]; exact hp y hy
          rcases (hd d h2 hnot).1 with h3 | h3
          · obtain ⟨y, h4, h5⟩ := h.done.yes d h3
            have := hp' y h4 (.inr (by omega))
            have := hf.one x y hr (by omega)
            omega
          · have := h3 f hf hp' h1
            omega
        · exact (h.lex x (by omega)).congr fun y hy => hold y (by omega)
    have next : (getB gone c = true ∨ NoExt (Eg tl) K (getI row) n c) → getI row n ≠ c → ∀ d, Eg tl n d → d ∉ l → (getB gone d = true ∨ NoExt (Eg tl) K (getI row) n d) ∧ getI row n ≠ d ∧ ∀ x ∈ l, d < x := by
      intro h1 h2 d h3 h4
      by_cases e : d = c
      · subst e; exact ⟨h1, h2, hs'.1⟩
      · obtain ⟨a, b, c'⟩ := hd d h3 (by simp [e, h4])
        exact ⟨a, b, fun x hx => c' x (by simp [hx])⟩
    have ih := mostL_tells hok hn hmax h l (fun c hc => hl c (by simp [hc])) hs'.2
    unfold mostL
    by_cases h1 : getB gone c = true
    · rw [if_pos h1]
      refine ih (next (.inl h1) fun e => ?_)
      obtain ⟨x, h2, h3⟩ := h.done.yes c h1
      have := (h.mat.both c n).2 e
      have := (h.mat.both c x).2 h3
      omega
    · rw [if_neg h1]
      have hg : getB gone c = false := by simpa using h1
      by_cases h2 : getI row n = c
      · rw [if_pos h2]
        exact ⟨got row col h.mat h2 (fun _ _ => rfl) (by rw [h.num]; exact Nat.le_refl _) hg, fun _ _ => rfl, h2⟩
      · rw [if_neg h2]
        have t := takeF_tells (hok gone h.done.len) h.mat hn hc he hg h.done h2
        by_cases h3 : (takeF tl gone row col n c).1 = true
        · rw [if_pos h3]
          have T := t.1 h3
          exact ⟨got _ _ T.mat T.own T.old (by rw [← h.num]; exact T.num) hg, T.old, T.own⟩
        · rw [if_neg h3]
          obtain ⟨e1, e2, e3⟩ := t.2 (by simpa using h3)
          rw [e1, e2]
          rw [h.num] at e3
          exact ih (next (.inr e3) h2)
/-- The pairs of the first n rows. -/
def pairsTo (row : List Int) (n : Nat) : List (Nat × Nat) := (List.range n).filterMap fun x => if getI row x < 0 then none else some (x, (getI row x).toNat)
theorem pairsTo_succ (row : List Int) (n : Nat) : pairsTo row (n + 1) = pairsTo row n ++ (if getI row n < 0 then [] else [(n, (getI row n).toNat)]) := by
  unfold pairsTo
  rw [List.range_succ, List.filterMap_append]
  congr 1
  by_cases h : getI row n < 0 <;> simp [h]
theorem pairsTo_congr {row row' : List Int} {n : Nat} (h : ∀ x, x < n → getI row' x = getI row x) : pairsTo row' n = pairsTo row n := by
  unfold pairsTo
  have : ∀ l : List Nat, (∀ x ∈ l, x < n) → l.filterMap (fun x => if getI row' x < 0 then none else some (x, (getI row' x).toNat)) = l.filterMap (fun x => if getI row x < 0 then none else some (x, (getI row x).toNat)) := by
    intro l
    induction l with
    | nil => intro _; rfl
    | cons a l ih =>
      intro hl
      rw [List.filterMap_cons, List.filterMap_cons, h a (hl a (by simp)), ih fun x hx => hl x (by simp [hx])]
  exact this _ fun x hx => by simpa using hx
theorem mostF_tells {tl : List (List Nat)} (hok : ∀ gone : List Bool, gone.length = 64 → NetOk tl gone) (hrise : ∀ r : Nat, (tl[r]?.getD []).Pairwise (· < ·)) {K : Nat} (hmax : ∀ f, IsMat (Eg tl) (fun _ => true) (fun _ => true) f → cnt (hasP f) 64 ≤ K) {p : List Int × List Int} (hm : Mat (Eg tl) p.1 p.2) (hk : cnt (hasP (getI p.1)) 64 = K) :
    ∀ n, n ≤ 64 → MInv tl K n (mostF tl p n).row (mostF tl p n).col (mostF tl p n).gone ∧ (mostF tl p n).l = pairsTo (mostF tl p n).row n
  | 0, _ => ⟨⟨hm, hk, ⟨by simp [mostF, noMarks], fun d h => by simp [mostF, noMarks_at] at h, fun x d h => by omega⟩, fun x h => by omega⟩, rfl⟩
  | n + 1, h => by
    obtain ⟨ih, il⟩ := mostF_tells hok hrise hmax hm hk n (by omega)
    have t := mostL_tells hok (show n < 64 by omega) hmax ih (tl[n]?.getD []) (fun c hc => ⟨(Eg.lt (hok noMarks (by simp [noMarks])) (r := n) (c := c) hc).2, hc⟩) (hrise n) (fun d hd hn => absurd hd hn)
    unfold mostF
    dsimp only
    generalize mostF tl p n = s at *
    generalize mostL tl n (tl[n]?.getD []) s.row s.col s.gone = t' at *
    obtain ⟨o, row', col', gone'⟩ := t'
    refine ⟨t.1, ?_⟩
    rw [pairsTo_succ, il, pairsTo_congr (row := s.row) (row' := row') t.2.1]
    congr 1
    have h3 := t.2.2
    cases o with
    | none =>
      have h4 : getI row' n < 0 := h3
      simp [h4]
    | some c =>
      have h4 : getI row' n = c := h3
      simp only [h4]
      rw [if_neg (by omega), Int.toNat_natCast]
end Go.Proofs.Ytjhomkdnhdhffaa
