/- What is come to from the rows without a pair. Plain Lean. -/
import Derived.Test.YtjhomkdnhdhffaaAltPl
import Derived.Test.YtjhomkdnhdhffaaVisPl
namespace Go.Proofs.Ytjhomkdnhdhffaa

/-! ### Who is come to -/
structure VTells (E : Nat → Nat → Prop) (col : List Int) (s : Vis) (l : List Nat) (r : Nat) (res : Vis) : Prop where
  m1 : ∀ x, getB s.1 x = true → getB res.1 x = true
  m2 : ∀ c, getB s.2 c = true → getB res.2 c = true
  own : ∀ c ∈ l, getB res.2 c = true
  rows : ∀ x, getB s.1 x = false → getB res.1 x = true → x = r ∨ ∀ c, E x c → getB res.2 c = true
  cols : ∀ c, getB s.2 c = false → getB res.2 c = true → ∀ q : Nat, getI col c = q → getB res.1 q = true
  least : ∀ (R V : Nat → Prop), (∀ x c, R x → E x c → V c) → (∀ c q : Nat, V c → getI col c = q → R q) → (∀ x, getB s.1 x = true → R x) → (∀ c, getB s.2 c = true → V c) → R r → (∀ x, getB res.1 x = true → R x) ∧ (∀ c, getB res.2 c = true → V c)
theorem visL_tells {E : Nat → Nat → Prop} {n : Nat} {f : Vis → Nat → Vis} (hk : VKeeps f) {row col : List Int} (hp : PairOk row col)
    (hf : ∀ s q, q < 64 → VisOk s → getB s.1 q = false → unmet s.1 < n → ∃ l, (∀ c, E q c → c ∈ l) ∧ VTells E col s l q (f s q) ∧ getB (f s q).1 q = true) {r : Nat} :
    ∀ (l : List Nat), (∀ c ∈ l, c < 64 ∧ E r c) → ∀ s, VisOk s → unmet s.1 < n → VTells E col s l r (visL f col l s)
  | [], _, s, _, _ => by
    unfold visL
    exact ⟨fun _ h => h, fun _ h => h, fun c hc => by simp at hc, fun x h1 h2 => absurd h2 (by simp [h1]), fun c h1 h2 => absurd h2 (by simp [h1]), fun R V _ _ h3 h4 _ => ⟨h3, h4⟩⟩
  | c :: l, hl, s, hs, hu => by
    obtain ⟨hc, he⟩ := hl c (by simp)
    have ih := visL_tells hk hp hf l (fun c hc => hl c (by simp [hc]))
    have hs1 : VisOk (s.1, s.2.set c true) := ⟨hs.rows, by simp [hs.cols]⟩
    have hset : ∀ x, getB (s.2.set c true) x = if x = c then true else getB s.2 x := fun x => by
      rw [getB_set, hs.cols]
      by_cases e : x = c
      · subst e; simp [hc]
      · rw [if_neg e, if_neg]; rintro ⟨rfl, _⟩; exact e rfl
    -- the column alone is marked; whoever has it was come to, or nobody has it
    have alone : (∀ q : Nat, getI col c = q → getB s.1 q = true) → VTells E col s (c :: l) r (visL f col l (s.1, s.2.set c true)) := by
      intro hq
      have t := ih _ hs1 hu
      refine ⟨t.m1, fun d hd => t.m2 d ?_, fun d hd => ?_, t.rows, fun d h1 h2 q hdq => ?_, fun R V a1 a2 a3 a4 a5 => t.least R V a1 a2 a3 (fun d hd => ?_) a5⟩
      · show getB (s.2.set c true) d = true
        rw [hset]; split
        · rfl
        · exact hd
      · rcases List.mem_cons.1 hd with rfl | hd
        · exact t.m2 d (by show getB (s.2.set d true) d = true; rw [hset, if_pos rfl])
        · exact t.own d hd
      · by_cases e : d = c
        · subst e; exact t.m1 q (hq q hdq)
        · exact t.cols d (by show getB (s.2.set c true) d = false; rw [hset, if_neg e]; exact h1) h2 q hdq
      · have hd' : getB (s.2.set c true) d = true := hd
        rw [hset] at hd'
        by_cases e : d = c
        · subst e; exact a1 r d a5 he
        · rw [if_neg e] at hd'; exact a4 d hd'
    unfold visL
    by_cases h1 : getB s.2 c = true
    · rw [if_pos h1]
      have t := ih s hs hu
      refine ⟨t.m1, t.m2, fun d hd => ?_, t.rows, t.cols, t.least⟩
      rcases List.mem_cons.1 hd with rfl | hd
      · exact t.m2 d h1
      · exact t.own d hd
    · rw [if_neg h1]
      by_cases h2 : getI col c < 0
      · rw [if_pos h2]; exact alone fun q hq => by omega
      · rw [if_neg h2]
        rcases hp.colAt hc with e | ⟨q, hq, hq64⟩
        · omega
        rw [hq, Int.toNat_natCast]
        by_cases h3 : getB s.1 q = true
        · rw [if_pos h3]
          exact alone fun q' hq' => by
            have : q' = q := by omega
            subst this; exact h3
        · rw [if_neg h3]
          have h3' : getB s.1 q = false := by simpa using h3
          obtain ⟨lq, hlq, t1, hqr⟩ := hf (s.1, s.2.set c true) q hq64 hs1 h3' hu
          obtain ⟨k1, k2⟩ := hk (s.1, s.2.set c true) q hq64 hs1
          generalize f (s.1, s.2.set c true) q = res at *
          have t := ih res k1 (by have : unmet res.1 ≤ unmet s.1 := k2; omega)
          have hcm : getB res.2 c = true := t1.m2 c (by show getB (s.2.set c true) c = true; rw [hset, if_pos rfl])
          refine ⟨fun x hx => t.m1 x (t1.m1 x hx), fun d hd => t.m2 d (t1.m2 d ?_), fun d hd => ?_, fun x a1 a2 => ?_, fun d a1 a2 q' hdq => ?_, fun R V a1 a2 a3 a4 a5 => ?_⟩
          · show getB (s.2.set c true) d = true
            rw [hset]; split
            · rfl
            · exact hd
          · rcases List.mem_cons.1 hd with rfl | hd
            · exact t.m2 d hcm
            · exact t.own d hd
          · cases e : getB res.1 x
            · exact t.rows x e a2
            · right
              intro d hd
              rcases t1.rows x a1 e with rfl | h5
              · exact t.m2 d (t1.own d (hlq d hd))
              · exact t.m2 d (h5 d hd)
          · cases e : getB res.2 d
            · exact t.cols d e a2 q' hdq
            · by_cases e2 : d = c
              · subst e2
                have : q' = q := by omega
                subst this; exact t.m1 q' hqr
              · exact t.m1 q' (t1.cols d (by show getB (s.2.set c true) d = false; rw [hset, if_neg e2]; exact a1) e q' hdq)
          · have hV : V c := a1 r c a5 he
            obtain ⟨b1, b2⟩ := t1.least R V a1 a2 a3 (fun d hd => by
              have hd' : getB (s.2.set c true) d = true := hd
              rw [hset] at hd'
              by_cases e : d = c
              · subst e; exact hV
              · rw [if_neg e] at hd'; exact a4 d hd') (a2 c q hV hq)
            exact t.least R V a1 a2 b1 b2 a5
theorem visF_tells {tl : List (List Nat)} {gone : List Bool} (hok : NetOk tl gone) {row col : List Int} (hp : PairOk row col) : ∀ n s q, q < 64 → VisOk s → getB s.1 q = false → unmet s.1 < n + 1 →
    ∃ l, (∀ c, Eg tl q c → c ∈ l) ∧ VTells (Eg tl) col s l q (visF tl col n s q) ∧ getB (visF tl col n s q).1 q = true
  | 0, s, q, hq, hs, hm, h => by
    have := unmet_set s.1 q hm (by rw [hs.rows]; exact hq)
    omega
  | n + 1, s, q, hq, hs, hm, h => by
    have hu := unmet_set s.1 q hm (by rw [hs.rows]; exact hq)
    have hset : ∀ x, getB (s.1.set q true) x = if x = q then true else getB s.1 x := fun x => by
      rw [getB_set, hs.rows]
      by_cases e : x = q
      · subst e; simp [hq]
      · rw [if_neg e, if_neg]; rintro ⟨rfl, _⟩; exact e rfl
    unfold visF
    have hs1 : VisOk (s.1.set q true, s.2) := ⟨by simp [hs.rows], hs.cols⟩
    have t := visL_tells (E := Eg tl) (n := n + 1) (visF_keeps hok hp n) hp (fun s q h1 h2 h3 h4 => visF_tells hok hp n s q h1 h2 h3 h4) (r := q) (tl[q]?.getD []) (fun c hc => ⟨(Eg.lt hok (r := q) (c := c) hc).2, hc⟩) (s.1.set q true, s.2) hs1 (by show unmet (s.1.set q true) < n + 1; omega)
    have hq1 : getB (s.1.set q true) q = true := by rw [hset, if_pos rfl]
    refine ⟨_, fun c hc => hc, ⟨fun x hx => t.m1 x ?_, t.m2, t.own, fun x a1 a2 => ?_, t.cols, fun R V a1 a2 a3 a4 a5 => t.least R V a1 a2 (fun x hx => ?_) a4 a5⟩, t.m1 q hq1⟩
    · show getB (s.1.set q true) x = true
      rw [hset]; split
      · rfl
      · exact hx
    · by_cases e : x = q
      · exact .inl e
      · exact t.rows x (by show getB (s.1.set q true) x = false; rw [hset, if_neg e]; exact a1) a2
    · have hx' : getB (s.1.set q true) x = true := hx
      rw [hset] at hx'
      by_cases e : x = q
      · subst e; exact a5
      · rw [if_neg e] at hx'; exact a3 x hx'

/-- From all rows without a pair. -/
def visAll (tl : List (List Nat)) (row col : List Int) : Nat → Vis
  | 0 => (noMarks, noMarks)
  | n + 1 => if getI row n < 0 ∧ getB (visAll tl row col n).1 n = false then visF tl col 64 (visAll tl row col n) n else visAll tl row col n
structure Reached (E : Nat → Nat → Prop) (row col : List Int) (n : Nat) (s : Vis) : Prop where
  ok : VisOk s
  free : ∀ x, x < n → getI row x < 0 → getB s.1 x = true
  rows : ∀ x c, getB s.1 x = true → E x c → getB s.2 c = true
  cols : ∀ c q : Nat, getB s.2 c = true → getI col c = q → getB s.1 q = true
  least : ∀ (R V : Nat → Prop), (∀ x c, R x → E x c → V c) → (∀ c q : Nat, V c → getI col c = q → R q) → (∀ x, x < n → getI row x < 0 → R x) → (∀ x, getB s.1 x = true → R x) ∧ (∀ c, getB s.2 c = true → V c)
theorem visAll_reached {tl : List (List Nat)} {gone : List Bool} (hok : NetOk tl gone) {row col : List Int} (hp : PairOk row col) : ∀ n, n ≤ 64 → Reached (Eg tl) row col n (visAll tl row col n)
  | 0, _ => ⟨⟨by simp [visAll, noMarks], by simp [visAll, noMarks]⟩, fun x h => by omega, fun x c h => by simp [visAll, noMarks_at] at h, fun c q h => by simp [visAll, noMarks_at] at h, fun R V _ _ _ => ⟨fun x h => by simp [visAll, noMarks_at] at h, fun x h => by simp [visAll, noMarks_at] at h⟩⟩
  | n + 1, h => by
    have ih := visAll_reached hok hp n (by omega)
    unfold visAll
    generalize visAll tl row col n = s at *
    by_cases e : getI row n < 0 ∧ getB s.1 n = false
    · rw [if_pos e]
      obtain ⟨l, hl, t, hn⟩ := visF_tells hok hp 64 s n (by omega) ih.ok e.2 (by have := unmet_le s.1; rw [ih.ok.rows] at this; omega)
      have hk := (visF_keeps hok hp 64 s n (by omega) ih.ok).1
      refine ⟨hk, fun x hx hr => ?_, fun x c hx hc => ?_, fun c q hc hq => ?_, fun R V a1 a2 a3 => ?_⟩
      · by_cases e2 : x = n
        · subst e2; exact hn
        · exact t.m1 x (ih.free x (by omega) hr)
      · cases e2 : getB s.1 x
        · rcases t.rows x e2 hx with rfl | h5
          · exact t.own c (hl c hc)
          · exact h5 c hc
        · exact t.m2 c (ih.rows x c e2 hc)
      · cases e2 : getB s.2 c
        · exact t.cols c e2 hc q hq
        · exact t.m1 q (ih.cols c q e2 hq)
      · obtain ⟨b1, b2⟩ := ih.least R V a1 a2 fun x hx hr => a3 x (by omega) hr
        exact t.least R V a1 a2 b1 b2 (a3 n (by omega) e.1)
    · rw [if_neg e]
      refine ⟨ih.ok, fun x hx hr => ?_, ih.rows, ih.cols, fun R V a1 a2 a3 => ih.least R V a1 a2 fun x hx hr => a3 x (by omega) hr⟩
      by_cases e2 : x = n
      · subst e2
        cases e3 : getB s.1 x
        · exact absurd ⟨hr, e3⟩ e
        · rfl
      · exact ih.free x (by omega) hr
/-- What was come to from the rows without a pair: the rows that are not, and the columns that are, are a cover with as many as there are pairs. -/
theorem Reached.shut {tl : List (List Nat)} {row col : List Int} {n : Nat} {s : Vis} (h : Reached (Eg tl) row col n s) {out gone : Nat → Bool} {k : Nat} (ho : ∀ x, out x = false) (hg : ∀ x, gone x = false) (hk : Kuhn tl out gone n k row col) :
    Shut (Eg tl) (fun _ => True) col (fun x => getB s.1 x = true) (fun c => getB s.2 c = true) := by
  obtain ⟨R, V, ⟨hs, _⟩, hun⟩ := hk.shut
  obtain ⟨h1, h2⟩ := h.least R V (fun x c hx hc => hs.row x c hx hc (hg c)) (fun c q hc hq => by
    obtain ⟨q', h3, h4⟩ := hs.col c hc
    have : q' = q := by omega
    subst this; exact h4) (fun x hx hr => hun x hx (ho x) hr)
  refine ⟨fun c hc => ?_, fun x c hx hc _ => h.rows x c hx hc⟩
  obtain ⟨q, h3, h4⟩ := hs.col c (h2 c hc)
  exact ⟨q, h3, h.cols c q hc h3⟩
end Go.Proofs.Ytjhomkdnhdhffaa
