/- What hangs together: the roots, in plain Lean. -/
import Derived.Test.YtjhomkdnhdhffaaGreatPartsPl
namespace Go.Proofs.YtjhomkdnhdhffaaGreat

theorem root_set {h : List Nat} (H : Down h) {A B : Nat} (hA : root h A = A) (hB : root h B = B) (hBA : B ≤ A) (h64 : A < 64) : ∀ x, root (h.set A B) x = if root h x = A then B else root h x := by
  have H' : Down (h.set A B) := by
    refine ⟨by simp [H.1], fun i x hx => ?_⟩
    rw [List.getElem?_set] at hx
    split at hx
    · split at hx
      · cases hx; omega
      · cases hx
    · exact H.2 i x hx
  have hset : ∀ x, (h.set A B)[x]?.getD x = if x = A then B else h[x]?.getD x := by
    intro x
    rw [List.getElem?_set]
    by_cases e : A = x
    · subst e; rw [if_pos rfl, if_pos (by rw [H.1]; exact h64), if_pos rfl]; rfl
    · rw [if_neg e, if_neg (fun h => e h.symm)]
  intro x
  induction x using Nat.strongRecOn with
  | ind x ih =>
    by_cases hx : x = A
    · subst hx
      rw [hA, if_pos rfl]
      have hs := hset x
      rw [if_pos rfl] at hs
      by_cases e : B = x
      · subst e; exact root_of_fix hs
      · rw [← root_step H' x, hs, ih B (by omega), hB, if_neg e]
    · have hs := hset x
      rw [if_neg hx] at hs
      by_cases e : h[x]?.getD x = x
      · rw [e] at hs
        rw [root_of_fix hs, root_of_fix e, if_neg hx]
      · have hle := H.le x
        rw [← root_step H' x, hs, ih _ (by omega), root_step H x]

/-- What the edges so far have brought together. -/
structure Joined (E : List (Nat × Nat)) (s : List Nat × List Int) : Prop where
  down : Down s.1
  len : s.2.length = 64
  none : ∀ c : Nat, c < 64 → s.2[c]? = some (-1) → ∀ r, (r, c) ∉ E
  some : ∀ (c : Nat) x, s.2[c]? = some x → x = -1 ∨ ∃ q : Nat, x = q ∧ (q, c) ∈ E ∧ q < 64
  same : ∀ r r' c, (r, c) ∈ E → (r', c) ∈ E → root s.1 r = root s.1 r'
  shut : ∀ S : Nat → Prop, (∀ r r' c, (r, c) ∈ E → (r', c) ∈ E → S r → S r') → ∀ x, S x ↔ S (root s.1 x)
theorem joined_start : Joined [] (startH, startF) := by
  have hr : ∀ x, root startH x = x := fun x => root_of_fix (by
    unfold startH
    by_cases h : x < 64
    · rw [List.getElem?_range h]; rfl
    · rw [List.getElem?_eq_none (by simp; omega)]; rfl)
  refine ⟨startH_down, by simp [startF], fun c _ _ r h => by simp at h, fun c x h => .inl ?_, fun r r' c h => by simp at h, fun S _ x => by rw [hr]⟩
  unfold startF at h
  rw [List.getElem?_replicate] at h
  split at h
  · exact (Option.some.inj h).symm
  · cases h
theorem root_lt {h : List Nat} (H : Down h) {r : Nat} (hr : r < 64) : root h r < 64 := by have := root_le H r; omega
theorem joined_step {E : List (Nat × Nat)} {s : List Nat × List Int} (J : Joined E s) {r c : Nat} (hr : r < 64) (hc : c < 64) : Joined (E ++ [(r, c)]) (joinE s r c) := by
  obtain ⟨hd, ft⟩ := s
  have hx : ft[c]? = some (ft[c]'(by have := J.len; simp only at this; omega)) := List.getElem?_eq_getElem _
  generalize ft[c]'(by have := J.len; simp only at this; omega) = v at hx
  -- one row q of the column, or r itself
  have key : ∃ q : Nat, q < 64 ∧ (q = r ∨ (q, c) ∈ E) ∧ (joinE (hd, ft) r c).1 = hd.set (max (root hd q) (root hd r)) (min (root hd q) (root hd r)) ∧
      ((v = -1 ∧ q = r ∧ (joinE (hd, ft) r c).2 = ft.set c r) ∨ (v = q ∧ (q, c) ∈ E ∧ (joinE (hd, ft) r c).2 = ft)) := by
    rcases J.some c v hx with e | ⟨q, e, h1, h2⟩
    · rw [e] at hx
      refine ⟨r, hr, .inl rfl, ?_, .inl ⟨e, rfl, ?_⟩⟩ <;> rw [joinE_none hx]
    · rw [e] at hx
      refine ⟨q, h2, .inr h1, ?_, .inr ⟨e, h1, ?_⟩⟩ <;> rw [joinE_some hx]
  obtain ⟨q, hq, hqE, h1, h2⟩ := key
  have D := J.down
  have rq := root_root D q
  have rr := root_root D r
  have R : ∀ x, root (joinE (hd, ft) r c).1 x = if root hd x = max (root hd q) (root hd r) then min (root hd q) (root hd r) else root hd x := by
    intro x
    rw [h1]
    have q1 := root_lt D hq
    have q2 := root_lt D hr
    refine root_set D ?_ ?_ (by omega) (by simp only at q1 q2; omega) x
    · rcases Nat.le_total (root hd q) (root hd r) with h | h
      · rw [Nat.max_eq_right h]; exact rr
      · rw [Nat.max_eq_left h]; exact rq
    · rcases Nat.le_total (root hd q) (root hd r) with h | h
      · rw [Nat.min_eq_left h]; exact rq
      · rw [Nat.min_eq_right h]; exact rr
  have Rq : root (joinE (hd, ft) r c).1 q = min (root hd q) (root hd r) := by rw [R]; split <;> omega
  have Rr : root (joinE (hd, ft) r c).1 r = min (root hd q) (root hd r) := by rw [R]; split <;> omega
  have Rsame : ∀ x y, root hd x = root hd y → root (joinE (hd, ft) r c).1 x = root (joinE (hd, ft) r c).1 y := fun x y e => by rw [R, R, e]
  have hcol : ∀ x, (x, c) ∈ E → root (joinE (hd, ft) r c).1 x = min (root hd q) (root hd r) := by
    intro x hxE
    rcases h2 with ⟨e, _, _⟩ | ⟨e, h3, _⟩
    · rw [e] at hx; exact absurd hxE (J.none c hc hx x)
    · rw [Rsame x q (J.same x q c hxE h3), Rq]
  refine ⟨joinE_down D r c, ?_, fun d hd64 hdn x hxE => ?_, fun d x hdx => ?_, fun x y d hxE hyE => ?_, fun S hS x => ?_⟩
  · rcases h2 with ⟨_, _, h3⟩ | ⟨_, _, h3⟩ <;> rw [h3]
    · rw [List.length_set]; exact J.len
    · exact J.len
  · rcases List.mem_append.1 hxE with hxE | hxE
    · rcases h2 with ⟨_, _, h3⟩ | ⟨_, _, h3⟩
      · rw [h3, List.getElem?_set] at hdn
        split at hdn
        · split at hdn
          · have := Option.some.inj hdn; omega
          · cases hdn
        · exact J.none d hd64 hdn x hxE
      · rw [h3] at hdn; exact J.none d hd64 hdn x hxE
    · have e : (x, d) = (r, c) := by simpa using hxE
      cases e
      rcases h2 with ⟨_, _, h3⟩ | ⟨e, _, h3⟩
      · rw [h3, List.getElem?_set, if_pos rfl, if_pos (by have := J.len; simp only at this; omega)] at hdn
        have := Option.some.inj hdn; omega
      · rw [h3, hx] at hdn
        have := Option.some.inj hdn; omega
  · rcases h2 with ⟨_, _, h3⟩ | ⟨_, _, h3⟩
    · rw [h3, List.getElem?_set] at hdx
      split at hdx
      · rename_i e
        subst e
        split at hdx
        · exact .inr ⟨r, (Option.some.inj hdx).symm, by simp, hr⟩
        · cases hdx
      · rcases J.some d x hdx with h4 | ⟨q', h4, h5, h6⟩
        · exact .inl h4
        · exact .inr ⟨q', h4, by simp [h5], h6⟩
    · rw [h3] at hdx
      rcases J.some d x hdx with h4 | ⟨q', h4, h5, h6⟩
      · exact .inl h4
      · exact .inr ⟨q', h4, by simp [h5], h6⟩
  · rcases List.mem_append.1 hxE with hxE | hxE <;> rcases List.mem_append.1 hyE with hyE | hyE
    · exact Rsame x y (J.same x y d hxE hyE)
    · have e : (y, d) = (r, c) := by simpa using hyE
      cases e
      rw [hcol x hxE, Rr]
    · have e : (x, d) = (r, c) := by simpa using hxE
      cases e
      rw [hcol y hyE, Rr]
    · have e : (x, d) = (r, c) := by simpa using hxE
      have e2 : (y, d) = (r, c) := by simpa using hyE
      cases e; cases e2; rfl
  · have hsh := J.shut S fun a b d ha hb => hS a b d (by simp [ha]) (by simp [hb])
    have hqr : S q ↔ S r := by
      rcases hqE with e | e
      · rw [e]
      · exact ⟨hS q r c (by simp [e]) (by simp), hS r q c (by simp) (by simp [e])⟩
    have hroots : S (root hd q) ↔ S (root hd r) := by rw [← hsh q, ← hsh r]; exact hqr
    rw [R]
    split
    · rename_i e
      rw [hsh x]
      show S (root hd x) ↔ _
      rw [e]
      rcases Nat.le_total (root hd q) (root hd r) with h | h
      · rw [Nat.max_eq_right h, Nat.min_eq_left h]; exact hroots.symm
      · rw [Nat.max_eq_left h, Nat.min_eq_right h]; exact hroots
    · exact hsh x
def pairsE (es : List Ed) : List (Nat × Nat) := es.map fun x => (x.r.toNat, x.c.toNat)
theorem joinAll_joined {es : List Ed} (h : ∀ x ∈ es, x.r.toNat < 64 ∧ x.c.toNat < 64) : Joined (pairsE es) (joinAll es) := by
  have key : ∀ (l done : List Ed) s, Joined (pairsE done) s → (∀ x ∈ l, x.r.toNat < 64 ∧ x.c.toNat < 64) → Joined (pairsE (done ++ l)) (l.foldl (fun s x => joinE s x.r.toNat x.c.toNat) s) := by
    intro l
    induction l with
    | nil => intro done s J _; rw [List.append_nil]; exact J
    | cons a l ih =>
      intro done s J hl
      have ha := hl a (by simp)
      have := ih (done ++ [a]) (joinE s a.r.toNat a.c.toNat) (by
        have := joined_step J ha.1 ha.2
        unfold pairsE at *
        rw [List.map_append]
        exact this) fun x hx => hl x (by simp [hx])
      rw [List.append_assoc] at this
      exact this
  have := key es [] (startH, startF) joined_start h
  exact this
end Go.Proofs.YtjhomkdnhdhffaaGreat
