/- Two graphs side by side, and the greatest graph, in plain Lean. -/
import Derived.Test.YtmddhjoomlhbcaaAsTh
namespace Go.Proofs.Ytmddhjoomlhbcaa
open Go.RowKit

/-- The pairs of a matching's rows. -/
def prsF (f : Nat → Int) (n : Nat) : List (Int × Int) := (List.range n).filterMap fun r => if f r < 0 then none else some ((r : Int), f r)
theorem prsF_list (tt : List Int) (n : Nat) : prsTo tt n = prsF (getI tt) n := rfl
theorem filterMap_same {α β : Type} {f g : α → Option β} {l : List α} (h : ∀ x ∈ l, f x = g x) : l.filterMap f = l.filterMap g := by
  induction l with
  | nil => rfl
  | cons a l ih => rw [List.filterMap_cons, List.filterMap_cons, h a (by simp), ih fun x hx => h x (by simp [hx])]
theorem prsF_congr {f g : Nat → Int} {n : Nat} (h : ∀ r, r < n → Alk (f r) (g r)) : prsF f n = prsF g n := by
  unfold prsF
  refine filterMap_same fun r hr => ?_
  have := h r (List.mem_range.1 hr)
  unfold Alk at this
  by_cases e1 : f r < 0 <;> by_cases e2 : g r < 0
  · rw [if_pos e1, if_pos e2]
  · omega
  · omega
  · rw [if_neg e1, if_neg e2, this (by omega)]
theorem prsF_add (f : Nat → Int) (n : Nat) : ∀ m, prsF f (n + m) = prsF f n ++ (List.range m).filterMap fun r => if f (n + r) < 0 then none else some (((n + r : Nat) : Int), f (n + r))
  | 0 => by simp
  | m + 1 => by
    have h1 : prsF f (n + (m + 1)) = prsF f (n + m) ++ [n + m].filterMap fun r => if f r < 0 then none else some ((r : Int), f r) := by
      unfold prsF
      rw [show n + (m + 1) = (n + m) + 1 by omega, List.range_succ, List.filterMap_append]
    rw [h1, prsF_add f n m, List.append_assoc, List.range_succ, List.filterMap_append]
    rfl

section
variable {W1 W2 Wx : Nat → Nat → Int} {R1 C1 R2 C2 : Nat} {f1 y1 z1 f2 y2 z2 : Nat → Int}
def fX (R1 R2 C1 : Nat) (f1 f2 : Nat → Int) (r : Nat) : Int := if r < R1 then f1 r else if r < R1 + R2 then (if f2 (r - R1) < 0 then -1 else (C1 : Int) + f2 (r - R1)) else -1
def joinN (R1 : Nat) (y1 y2 : Nat → Int) (r : Nat) : Int := if r < R1 then y1 r else y2 (r - R1)
theorem beside_best (h1 : BestW W1 R1 C1 f1 y1 z1) (h2 : BestW W2 R2 C2 f2 y2 z2) (e1 : ∀ r c, r < R1 → c < C1 → Wx r c = W1 r c) (e2 : ∀ r c, Wx (R1 + r) (C1 + c) = W2 r c) (e3 : ∀ r c, r < R1 → C1 ≤ c → Wx r c = 0) (e4 : ∀ r c, R1 ≤ r → c < C1 → Wx r c = 0) :
    BestW Wx (R1 + R2) (C1 + C2) (fX R1 R2 C1 f1 f2) (joinN R1 y1 y2) (joinN C1 z1 z2) := by
  have e2' : ∀ r c, R1 ≤ r → C1 ≤ c → Wx r c = W2 (r - R1) (c - C1) := fun r c hr hc => by
    have := e2 (r - R1) (c - C1)
    rwa [show R1 + (r - R1) = r by omega, show C1 + (c - C1) = c by omega] at this
  have fx1 : ∀ r, r < R1 → fX R1 R2 C1 f1 f2 r = f1 r := fun r hr => if_pos hr
  have fx2 : ∀ r, ¬ r < R1 → r < R1 + R2 → fX R1 R2 C1 f1 f2 r = if f2 (r - R1) < 0 then -1 else (C1 : Int) + f2 (r - R1) := fun r hr hr2 => by unfold fX; rw [if_neg hr, if_pos hr2]
  have fx3 : ∀ r, ¬ r < R1 + R2 → fX R1 R2 C1 f1 f2 r = -1 := fun r hr => by unfold fX; rw [if_neg (by omega), if_neg hr]
  have hy1 : ∀ r, r < R1 → joinN R1 y1 y2 r = y1 r := fun r hr => if_pos hr
  have hy2 : ∀ r, ¬ r < R1 → joinN R1 y1 y2 r = y2 (r - R1) := fun r hr => if_neg hr
  have hz1 : ∀ r, r < C1 → joinN C1 z1 z2 r = z1 r := fun r hr => if_pos hr
  have hz2 : ∀ r, ¬ r < C1 → joinN C1 z1 z2 r = z2 (r - C1) := fun r hr => if_neg hr
  -- where a row's column lies
  have at1 : ∀ r, r < R1 → 0 ≤ fX R1 R2 C1 f1 f2 r → ∃ c : Nat, fX R1 R2 C1 f1 f2 r = c ∧ f1 r = c ∧ c < C1 ∧ 0 < W1 r c := fun r hr h0 => by
    rw [fx1 r hr] at h0 ⊢
    obtain ⟨c, q1, _, q2, q3⟩ := h1.mat.at h0
    exact ⟨c, q1, q1, q2, q3⟩
  have at2 : ∀ r, ¬ r < R1 → 0 ≤ fX R1 R2 C1 f1 f2 r → r < R1 + R2 ∧ ∃ c : Nat, fX R1 R2 C1 f1 f2 r = ((C1 + c : Nat) : Int) ∧ f2 (r - R1) = c ∧ c < C2 ∧ 0 < W2 (r - R1) c := fun r hr h0 => by
    by_cases hr2 : r < R1 + R2
    · rw [fx2 r hr hr2] at h0 ⊢
      by_cases hn : f2 (r - R1) < 0
      · rw [if_pos hn] at h0; omega
      · rw [if_neg hn]
        obtain ⟨c, q1, _, q2, q3⟩ := h2.mat.at (Int.not_lt.1 hn)
        exact ⟨hr2, c, by rw [q1]; omega, q1, q2, q3⟩
    · rw [fx3 r hr2] at h0; omega
  refine ⟨⟨fun r h0 => ?_, fun _ _ => rfl, fun x y hx he => ?_⟩, ⟨fun r hr => ?_, fun c hc => ?_, fun r c hr hc => ?_⟩, ⟨fun r c hr hc hf => ?_, fun r hr hf => ?_, fun c hc hn => ?_⟩, fun y' z' d s c hc => ?_, fun f' hm s r hr hb => ?_⟩
  · by_cases hr : r < R1
    · obtain ⟨c, q1, _, q2, q3⟩ := at1 r hr h0
      exact ⟨c, q1, ⟨by omega, by omega, by rw [e1 r c hr q2]; exact q3⟩, rfl⟩
    · obtain ⟨hr2, c, q1, _, q2, q3⟩ := at2 r hr h0
      exact ⟨C1 + c, q1, ⟨hr2, by omega, by rw [e2' r (C1 + c) (by omega) (by omega), show C1 + c - C1 = c by omega]; exact q3⟩, rfl⟩
  · by_cases hr : x < R1
    · obtain ⟨c, q1, q2, q3, _⟩ := at1 x hr hx
      by_cases hs : y < R1
      · obtain ⟨c', p1, p2, p3, _⟩ := at1 y hs (by omega)
        exact h1.mat.one x y (by omega) (by omega)
      · obtain ⟨_, c', p1, p2, p3, _⟩ := at2 y hs (by omega)
        omega
    · obtain ⟨hr2, c, q1, q2, q3, _⟩ := at2 x hr hx
      by_cases hs : y < R1
      · obtain ⟨c', p1, p2, p3, _⟩ := at1 y hs (by omega)
        omega
      · obtain ⟨_, c', p1, p2, p3, _⟩ := at2 y hs (by omega)
        have := h2.mat.one (x - R1) (y - R1) (by omega) (by omega)
        omega
  · by_cases h : r < R1
    · rw [hy1 r h]; exact h1.dual.y0 r h
    · rw [hy2 r h]; exact h2.dual.y0 _ (by omega)
  · by_cases h : c < C1
    · rw [hz1 c h]; exact h1.dual.z0 c h
    · rw [hz2 c h]; exact h2.dual.z0 _ (by omega)
  · by_cases h : r < R1 <;> by_cases k : c < C1
    · rw [hy1 r h, hz1 c k, e1 r c h k]; exact h1.dual.feas r c h k
    · rw [hy1 r h, hz2 c k, e3 r c h (by omega)]
      have := h1.dual.y0 r h; have := h2.dual.z0 (c - C1) (by omega); omega
    · rw [hy2 r h, hz1 c k, e4 r c (by omega) k]
      have := h2.dual.y0 (r - R1) (by omega); have := h1.dual.z0 c k; omega
    · rw [hy2 r h, hz2 c k, e2' r c (by omega) (by omega)]; exact h2.dual.feas _ _ (by omega) (by omega)
  · by_cases h : r < R1
    · obtain ⟨c', q1, q2, q3, _⟩ := at1 r h (by omega)
      have : c' = c := by omega
      subst this
      rw [hy1 r h, hz1 c' q3, e1 r c' h q3]; exact h1.slack.pair r c' h q3 q2
    · obtain ⟨_, c', q1, q2, q3, _⟩ := at2 r h (by omega)
      have : c = C1 + c' := by omega
      subst this
      rw [hy2 r h, hz2 _ (by omega), e2' r _ (by omega) (by omega), show C1 + c' - C1 = c' by omega]
      exact h2.slack.pair _ c' (by omega) q3 q2
  · by_cases h : r < R1
    · rw [hy1 r h]; rw [fx1 r h] at hf; exact h1.slack.row r h hf
    · rw [hy2 r h]; rw [fx2 r h hr] at hf
      refine h2.slack.row _ (by omega) ?_
      split at hf <;> omega
  · by_cases h : c < C1
    · rw [hz1 c h]
      exact h1.slack.col c h fun r hr he => hn r (by omega) (by rw [fx1 r hr]; exact he)
    · rw [hz2 c h]
      refine h2.slack.col _ (by omega) fun r hr he => hn (R1 + r) (by omega) ?_
      rw [fx2 _ (by omega) (by omega), show R1 + r - R1 = r by omega, he, if_neg (by omega)]; omega
  · by_cases h : c < C1
    · rw [hz1 c h]
      refine h1.ends y' z' ⟨fun r hr => d.y0 r (by omega), fun c hc => d.z0 c (by omega), fun r c hr hc => by rw [← e1 r c hr hc]; exact d.feas r c (by omega) (by omega)⟩ ⟨fun r c hr hc hf => ?_, fun r hr hf => ?_, fun c hc hn => ?_⟩ c h
      · rw [← e1 r c hr hc]; exact s.pair r c (by omega) (by omega) (by rw [fx1 r hr]; exact hf)
      · exact s.row r (by omega) (by rw [fx1 r hr]; exact hf)
      · refine s.col c (by omega) fun r hr he => ?_
        by_cases k : r < R1
        · exact hn r k (by rw [← fx1 r k]; exact he)
        · obtain ⟨_, c', q1, _⟩ := at2 r k (by omega)
          omega
    · rw [hz2 c h]
      have := h2.ends (fun r => y' (R1 + r)) (fun c => z' (C1 + c)) ⟨fun r hr => d.y0 _ (by omega), fun c hc => d.z0 _ (by omega), fun r c hr hc => by rw [← e2 r c]; exact d.feas _ _ (by omega) (by omega)⟩ ⟨fun r c hr hc hf => ?_, fun r hr hf => ?_, fun c hc hn => ?_⟩ (c - C1) (by omega)
      · rwa [show C1 + (c - C1) = c by omega] at this
      · rw [← e2 r c]
        refine s.pair _ _ (by omega) (by omega) ?_
        rw [fx2 _ (by omega) (by omega), show R1 + r - R1 = r by omega, hf, if_neg (by omega)]; omega
      · refine s.row _ (by omega) ?_
        rw [fx2 _ (by omega) (by omega), show R1 + r - R1 = r by omega, if_pos hf]; omega
      · refine s.col _ (by omega) fun r hr he => ?_
        by_cases k : r < R1
        · obtain ⟨c', q1, _, q2, _⟩ := at1 r k (by omega)
          omega
        · obtain ⟨_, c', q1, q2, _⟩ := at2 r k (by omega)
          exact hn (r - R1) (by omega) (by rw [q2]; omega)
  · -- where another matching's rows have their columns
    have m1 : ∀ x, x < R1 → 0 ≤ f' x → ∃ c : Nat, f' x = c ∧ c < C1 ∧ 0 < W1 x c := fun x hx h0 => by
      obtain ⟨c, q1, _, q2, q3⟩ := hm.at h0
      by_cases k : c < C1
      · exact ⟨c, q1, k, by rw [← e1 x c hx k]; exact q3⟩
      · rw [e3 x c hx (by omega)] at q3; omega
    have m2 : ∀ x, ¬ x < R1 → 0 ≤ f' x → x < R1 + R2 ∧ ∃ c : Nat, f' x = ((C1 + c : Nat) : Int) ∧ c < C2 ∧ 0 < W2 (x - R1) c := fun x hx h0 => by
      obtain ⟨c, q1, q0, q2, q3⟩ := hm.at h0
      by_cases k : c < C1
      · rw [e4 x c (by omega) k] at q3; omega
      · refine ⟨q0, c - C1, by rw [q1]; omega, by omega, ?_⟩
        rw [e2' x c (by omega) (by omega)] at q3; exact q3
    by_cases h : r < R1
    · rw [fx1 r h]
      have M : IsM W1 R1 C1 (fun x => if x < R1 then f' x else -1) := by
        refine ⟨fun x hx => ?_, fun _ _ => rfl, fun x y hx he => ?_⟩
        · try simp only at hx
          by_cases k : x < R1
          · rw [if_pos k] at hx
            obtain ⟨c, q1, q2, q3⟩ := m1 x k hx
            exact ⟨c, by rw [if_pos k]; exact q1, ⟨k, q2, q3⟩, rfl⟩
          · rw [if_neg k] at hx; omega
        · try simp only at hx he
          by_cases k : x < R1
          · rw [if_pos k] at hx he
            by_cases k2 : y < R1
            · rw [if_pos k2] at he; exact hm.one x y hx he
            · rw [if_neg k2] at he; omega
          · rw [if_neg k] at hx; omega
      have S : Slack W1 R1 C1 (fun x => if x < R1 then f' x else -1) y1 z1 := by
        refine ⟨fun x c hx hc hf => ?_, fun x hx hf => ?_, fun c hc hn => ?_⟩
        · simp only [if_pos hx] at hf
          have := s.pair x c (by omega) (by omega) hf
          rw [hy1 x hx, hz1 c hc, e1 x c hx hc] at this; exact this
        · simp only [if_pos hx] at hf
          have := s.row x (by omega) hf
          rw [hy1 x hx] at this; exact this
        · have := s.col c (by omega) fun x hx he => by
            by_cases k : x < R1
            · exact hn x k (by simp only [if_pos k]; exact he)
            · obtain ⟨_, c', q1, _⟩ := m2 x k (by omega)
              omega
          rw [hz1 c hc] at this; exact this
      have := h1.lex _ M S r h fun x hx => by
        have := hb x hx
        rw [fx1 x (by omega)] at this
        simp only [if_pos (show x < R1 by omega)]; exact this
      simp only [if_pos h] at this
      exact this
    · have M : IsM W2 R2 C2 (fun x => if x < R2 ∧ 0 ≤ f' (R1 + x) then f' (R1 + x) - C1 else -1) := by
        refine ⟨fun x hx => ?_, fun _ _ => rfl, fun x y hx he => ?_⟩
        · try simp only at hx
          by_cases k : x < R2 ∧ 0 ≤ f' (R1 + x)
          · obtain ⟨_, c, q1, q2, q3⟩ := m2 (R1 + x) (by omega) k.2
            rw [show R1 + x - R1 = x by omega] at q3
            exact ⟨c, by rw [if_pos k, q1]; omega, ⟨k.1, q2, q3⟩, rfl⟩
          · rw [if_neg k] at hx; omega
        · try simp only at hx he
          by_cases k : x < R2 ∧ 0 ≤ f' (R1 + x)
          · rw [if_pos k] at hx he
            by_cases k2 : y < R2 ∧ 0 ≤ f' (R1 + y)
            · rw [if_pos k2] at he
              have := hm.one (R1 + x) (R1 + y) k.2 (by omega); omega
            · rw [if_neg k2] at he; omega
          · rw [if_neg k] at hx; omega
      have S : Slack W2 R2 C2 (fun x => if x < R2 ∧ 0 ≤ f' (R1 + x) then f' (R1 + x) - C1 else -1) y2 z2 := by
        refine ⟨fun x c hx hc hf => ?_, fun x hx hf => ?_, fun c hc hn => ?_⟩
        · try simp only at hf
          by_cases k : x < R2 ∧ 0 ≤ f' (R1 + x)
          · rw [if_pos k] at hf
            have := s.pair (R1 + x) (C1 + c) (by omega) (by omega) (by omega)
            rw [hy2 _ (by omega), hz2 _ (by omega), e2, show R1 + x - R1 = x by omega, show C1 + c - C1 = c by omega] at this; exact this
          · rw [if_neg k] at hf; omega
        · try simp only at hf
          have := s.row (R1 + x) (by omega) (by
            by_cases k : x < R2 ∧ 0 ≤ f' (R1 + x)
            · rw [if_pos k] at hf
              obtain ⟨_, c, q1, _⟩ := m2 (R1 + x) (by omega) k.2
              omega
            · omega)
          rw [hy2 _ (by omega), show R1 + x - R1 = x by omega] at this; exact this
        · have := s.col (C1 + c) (by omega) fun x hx he => by
            by_cases k : x < R1
            · obtain ⟨c', q1, q2, _⟩ := m1 x k (by omega)
              omega
            · refine hn (x - R1) (by omega) ?_
              try simp only
              rw [show R1 + (x - R1) = x by omega, if_pos ⟨by omega, by omega⟩, he]; omega
          rw [hz2 _ (by omega), show C1 + c - C1 = c by omega] at this; exact this
      have := h2.lex _ M S (r - R1) (by omega) fun x hx => by
        have hb' := hb (R1 + x) (by omega)
        rw [fx2 _ (by omega) (by omega), show R1 + x - R1 = x by omega] at hb'
        try simp only
        unfold Alk at hb' ⊢
        by_cases k : x < R2 ∧ 0 ≤ f' (R1 + x)
        · rw [if_pos k]
          obtain ⟨_, c, q1, _⟩ := m2 (R1 + x) (by omega) k.2
          split at hb' <;> omega
        · rw [if_neg k]
          split at hb' <;> omega
      try simp only at this
      rw [show R1 + (r - R1) = r by omega] at this
      rw [fx2 r h hr]
      unfold LexLe at this ⊢
      by_cases k : r - R1 < R2 ∧ 0 ≤ f' r
      · rw [if_pos k] at this
        obtain ⟨_, c, q1, _⟩ := m2 r h k.2
        split <;> omega
      · left; omega
end
end Go.Proofs.Ytmddhjoomlhbcaa
