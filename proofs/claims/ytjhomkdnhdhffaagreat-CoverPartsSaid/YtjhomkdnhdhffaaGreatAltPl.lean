/- Ways that alternate: what a search leaves; as many pairs as there can be; matchings and covers. Plain Lean. -/
import Derived.Test.YtjhomkdnhdhffaaGreatNetPl
namespace Go.Proofs.YtjhomkdnhdhffaaGreat

def none64 : List Int := List.replicate 64 (-1)
/-- As many pairs as there can be, of the first n rows. -/
def pairAll (tl : List (List Nat)) : Nat → List Int × List Int
  | 0 => (none64, none64)
  | n + 1 => ((placeF tl noMarks (pairAll tl n).1 (pairAll tl n).2 n (-1)).2.row, (placeF tl noMarks (pairAll tl n).1 (pairAll tl n).2 n (-1)).2.col)

theorem getI_set (l : List Int) (k i : Nat) (n : Int) : getI (l.set k n) i = if k = i ∧ i < l.length then n else getI l i := by
  unfold getI
  rw [List.getElem?_set]
  by_cases h : k = i
  · subst h
    by_cases h2 : k < l.length
    · simp [h2]
    · have : l[k]? = none := List.getElem?_eq_none (by omega)
      simp [h2]
  · simp [h]
theorem getB_set (l : List Bool) (k i : Nat) (b : Bool) : getB (l.set k b) i = if k = i ∧ i < l.length then b else getB l i := by
  unfold getB
  rw [List.getElem?_set]
  by_cases h : k = i
  · subst h
    by_cases h2 : k < l.length
    · simp [h2]
    · have : l[k]? = none := List.getElem?_eq_none (by omega)
      simp [h2]
  · simp [h]
theorem getI_out {l : List Int} {i : Nat} (h : l.length ≤ i) : getI l i = -1 := by unfold getI; rw [List.getElem?_eq_none h]; rfl
theorem getB_out {l : List Bool} {i : Nat} (h : l.length ≤ i) : getB l i = false := by unfold getB; rw [List.getElem?_eq_none h]; rfl
theorem noMarks_at (c : Nat) : getB noMarks c = false := by
  unfold getB noMarks
  rw [List.getElem?_replicate]
  split <;> rfl

/-- An edge of the net. -/
def Eg (tl : List (List Nat)) (r c : Nat) : Prop := c ∈ tl[r]?.getD []
theorem Eg.lt {tl : List (List Nat)} {gone : List Bool} (hok : NetOk tl gone) {r c : Nat} (h : Eg tl r c) : r < 64 ∧ c < 64 := by
  unfold Eg at h
  by_cases hr : r < 64
  · obtain ⟨l, hl⟩ : ∃ l, tl[r]? = some l := ⟨tl[r]'(by rw [hok.len]; exact hr), by simp [hok.len, hr]⟩
    rw [hl] at h
    exact ⟨hr, (hok.cols r l hl).1 c h⟩
  · rw [List.getElem?_eq_none (by rw [hok.len]; omega)] at h
    simp at h

/-- A way that alternates, of at most n steps, through columns that may be taken: what it makes of the pairs. -/
def Aug (E : Nat → Nat → Prop) : Nat → (Nat → Prop) → List Int → List Int → Nat → List Int → List Int → Prop
  | 0, _, _, _, _, _, _ => False
  | n + 1, ok, row, col, r, row', col' => ∃ c : Nat, E r c ∧ ok c ∧ c < 64 ∧ r < 64 ∧
      ((getI col c < 0 ∧ row' = row.set r c ∧ col' = col.set c r) ∨
       ∃ (q : Nat) (row1 col1 : List Int), getI col c = q ∧ Aug E n (fun x => ok x ∧ x ≠ c) row col q row1 col1 ∧ row' = row1.set r c ∧ col' = col1.set c r)
theorem Aug.mono {E : Nat → Nat → Prop} : ∀ {n : Nat} {ok ok2 : Nat → Prop} {row col : List Int} {r : Nat} {row' col' : List Int}, Aug E n ok row col r row' col' → (∀ c, ok c → ok2 c) → Aug E n ok2 row col r row' col'
  | 0, _, _, _, _, _, _, _, h, _ => h.elim
  | n + 1, ok, ok2, row, col, r, row', col', h, hs => by
    obtain ⟨c, h1, h2, h3, h4, h5⟩ := h
    refine ⟨c, h1, hs c h2, h3, h4, ?_⟩
    rcases h5 with h5 | ⟨q, row1, col1, h5, h6, h7⟩
    · exact .inl h5
    · exact .inr ⟨q, row1, col1, h5, Aug.mono h6 (fun x hx => ⟨hs x hx.1, hx.2⟩), h7⟩

/-- What a search tells. -/
structure Tells (E : Nat → Nat → Prop) (gone : List Bool) (n : Nat) (s : St) (l : List Nat) (r : Nat) (res : Bool × St) : Prop where
  yes : res.1 = true → Aug E n (fun c => getB s.met c = false ∧ getB gone c = false) s.row s.col r res.2.row res.2.col
  row : res.1 = false → res.2.row = s.row
  col : res.1 = false → res.2.col = s.col
  more : res.1 = false → ∀ c, getB s.met c = true → getB res.2.met c = true
  own : res.1 = false → ∀ c ∈ l, getB gone c = false → getB res.2.met c = true
  shut : res.1 = false → ∀ c, getB s.met c = false → getB res.2.met c = true → getB gone c = false ∧ ∃ q : Nat, getI s.col c = q ∧ ∀ c', E q c' → getB gone c' = false → getB res.2.met c' = true

theorem mark_at {s : St} (h : StOk s) {c : Nat} (hc : c < 64) (x : Nat) : getB (s.mark c).met x = if x = c then true else getB s.met x := by
  show getB (s.met.set c true) x = _
  rw [getB_set, h.met]
  by_cases e : x = c
  · subst e; simp [hc]
  · rw [if_neg e, if_neg]; rintro ⟨rfl, _⟩; exact e rfl

theorem tryL_tells {tl : List (List Nat)} {gone : List Bool} {n : Nat} {f : St → Nat → Bool × St} (hk : Keeps f)
    (hf : ∀ s q, q < 64 → StOk s → unmet s.met < n → Tells (Eg tl) gone n s (tl[q]?.getD []) q (f s q)) {r : Nat} (hr : r < 64) :
    ∀ (l : List Nat), (∀ c ∈ l, c < 64 ∧ Eg tl r c) → ∀ s, StOk s → unmet s.met < n + 1 → Tells (Eg tl) gone (n + 1) s l r (tryL f gone r l s)
  | [], _, s, _, _ => by
    unfold tryL
    exact ⟨fun h => by simp at h, fun _ => rfl, fun _ => rfl, fun _ _ h => h, fun _ c hc => by simp at hc, fun _ c h1 h2 => by simp at h2; rw [h1] at h2; cases h2⟩
  | c :: l, hl, s, hs, hu => by
    obtain ⟨hc, he⟩ := hl c (by simp)
    have ih := tryL_tells hk hf hr l (fun c hc => hl c (by simp [hc]))
    unfold tryL
    by_cases h1 : (getB s.met c || getB gone c) = true
    · rw [if_pos h1]
      have t := ih s hs hu
      refine ⟨t.yes, t.row, t.col, t.more, fun hn x hx hg => ?_, t.shut⟩
      rcases List.mem_cons.1 hx with rfl | hx
      · rw [hg, Bool.or_false] at h1
        exact t.more hn x h1
      · exact t.own hn x hx hg
    · rw [if_neg h1]
      have hm : getB s.met c = false ∧ getB gone c = false := by
        cases e : getB s.met c <;> cases e2 : getB gone c <;> simp_all
      have hmk := mark_at hs hc
      by_cases h2 : getI s.col c < 0
      · rw [if_pos h2]
        refine ⟨fun _ => ⟨c, he, hm, hc, hr, .inl ⟨h2, rfl, rfl⟩⟩, fun h => by simp at h, fun h => by simp at h, fun h => by simp at h, fun h => by simp at h, fun h => by simp at h⟩
      · rw [if_neg h2]
        obtain ⟨q, hq, hq64⟩ := hs.colAt hc h2
        have hu1 := mark_unmet hs hc hm.1
        rw [hq, Int.toNat_natCast]
        have t1 := hf (s.mark c) q hq64 (hs.mark c) (by omega)
        obtain ⟨k1, k2⟩ := hk (s.mark c) q hq64 (hs.mark c)
        generalize f (s.mark c) q = res at *
        by_cases h3 : res.1 = true
        · rw [if_pos h3]
          refine ⟨fun _ => ⟨c, he, hm, hc, hr, .inr ⟨q, res.2.row, res.2.col, hq, ?_, rfl, rfl⟩⟩, fun h => by simp at h, fun h => by simp at h, fun h => by simp at h, fun h => by simp at h, fun h => by simp at h⟩
          refine (t1.yes h3).mono fun x hx => ?_
          rw [hmk] at hx
          by_cases e : x = c
          · rw [if_pos e] at hx; exact absurd hx.1 (by simp)
          · rw [if_neg e] at hx; exact ⟨hx, e⟩
        · rw [if_neg h3]
          have h3' : res.1 = false := by simpa using h3
          have er := t1.row h3'
          have ec := t1.col h3'
          have hmore := t1.more h3'
          have hle : ∀ x, getB res.2.met x = false → getB s.met x = false ∧ x ≠ c := by
            intro x hx
            by_cases e : getB (s.mark c).met x = true
            · rw [hmore x e] at hx; cases hx
            · rw [hmk] at e
              by_cases e2 : x = c
              · rw [if_pos e2] at e; simp at e
              · rw [if_neg e2] at e; exact ⟨by simpa using e, e2⟩
          have t := ih res.2 k1 (by omega)
          have hrow : res.2.row = s.row := er
          have hcol : res.2.col = s.col := ec
          have hcm : getB res.2.met c = true := hmore c (by rw [hmk, if_pos rfl])
          refine ⟨fun hy => ?_, fun hn => (t.row hn).trans hrow, fun hn => (t.col hn).trans hcol, fun hn x hx => t.more hn x ?_, fun hn x hx hg => ?_, fun hn x h5 h6 => ?_⟩
          · have := t.yes hy
            rw [hrow, hcol] at this
            exact this.mono fun x hx => ⟨(hle x hx.1).1, hx.2⟩
          · cases e : getB res.2.met x
            · rw [(hle x e).1] at hx; cases hx
            · rfl
          · rcases List.mem_cons.1 hx with rfl | hx
            · exact t.more hn _ hcm
            · exact t.own hn x hx hg
          · cases e : getB res.2.met x
            · have := t.shut hn x e h6
              rw [hcol] at this; exact this
            · by_cases e2 : x = c
              · subst e2
                exact ⟨hm.2, q, hq, fun c' h7 h8 => t.more hn _ (t1.own h3' c' h7 h8)⟩
              · obtain ⟨h11, q', h7, h8⟩ := t1.shut h3' x (by rw [hmk, if_neg e2]; exact h5) e
                exact ⟨h11, q', h7, fun c' h9 h10 => t.more hn _ (h8 c' h9 h10)⟩
theorem tryF_tells {tl : List (List Nat)} {gone : List Bool} (hok : NetOk tl gone) : ∀ n s q, q < 64 → StOk s → unmet s.met < n → Tells (Eg tl) gone n s (tl[q]?.getD []) q (tryF tl gone n s q)
  | 0, s, q, _, _, h => by omega
  | n + 1, s, q, hq, hs, h => by
    unfold tryF
    refine tryL_tells (tryF_keeps hok n) (fun s q h1 h2 h3 => tryF_tells hok n s q h1 h2 h3) hq _ (fun c hc => ⟨?_, hc⟩) s hs h
    exact (Eg.lt hok (r := q) (c := c) hc).2

/-! ### What a way that alternates leaves -/
structure Hand (ok : Nat → Prop) (row col : List Int) (r : Nat) : Prop where
  both : ∀ c x : Nat, ok c → (getI col c = x ↔ getI row x = c)
  free : ∀ c : Nat, ok c → getI row r ≠ c
structure Left (E : Nat → Nat → Prop) (ok : Nat → Prop) (row col : List Int) (r : Nat) (row' col' : List Int) : Prop where
  k1 : ∀ c, ¬ ok c → getI col' c = getI col c
  k2 : ∀ c x : Nat, ok c → (getI col' c = x ↔ getI row' x = c)
  k3 : ∃ c : Nat, ok c ∧ getI row' r = c ∧ E r c
  k4 : ∀ x, x ≠ r → (∀ c : Nat, ok c → getI row x ≠ c) → getI row' x = getI row x
  k5 : ∀ x, x ≠ r → ∀ c : Nat, ok c → getI row x = c → ∃ c' : Nat, ok c' ∧ getI row' x = c' ∧ (E x c' ∨ getI row x = c')
  rl : row'.length = 64
  cl : col'.length = 64
theorem Aug.left {E : Nat → Nat → Prop} : ∀ {n : Nat} {ok : Nat → Prop} {row col : List Int} {r : Nat} {row' col' : List Int}, Aug E n ok row col r row' col' → row.length = 64 → col.length = 64 → Hand ok row col r → Left E ok row col r row' col'
  | 0, _, _, _, _, _, _, h, _, _, _ => h.elim
  | n + 1, ok, row, col, r, row', col', h, hrl, hcl, hh => by
    obtain ⟨c, he, hc, hc64, hr64, ⟨hneg, rfl, rfl⟩ | ⟨q, row1, col1, hq, ha, rfl, rfl⟩⟩ := h
    · have gr : ∀ x, getI (row.set r c) x = if x = r then (c : Int) else getI row x := fun x => by
        rw [getI_set, hrl]
        by_cases e : x = r
        · subst e; simp [hr64]
        · rw [if_neg e, if_neg]; rintro ⟨rfl, _⟩; exact e rfl
      have gc : ∀ x, getI (col.set c r) x = if x = c then (r : Int) else getI col x := fun x => by
        rw [getI_set, hcl]
        by_cases e : x = c
        · subst e; simp [hc64]
        · rw [if_neg e, if_neg]; rintro ⟨rfl, _⟩; exact e rfl
      refine ⟨fun d hd => ?_, fun d x hd => ?_, ⟨c, hc, by rw [gr, if_pos rfl], he⟩, fun x hx _ => by rw [gr, if_neg hx], fun x hx d hd hxd => ⟨d, hd, by rw [gr, if_neg hx]; exact hxd, .inr hxd⟩, by simp [hrl], by simp [hcl]⟩
      · rw [gc, if_neg]; rintro rfl; exact hd hc
      · rw [gc, gr]
        by_cases e : d = c
        · subst e
          rw [if_pos rfl]
          by_cases e2 : x = r
          · subst e2; simp
          · rw [if_neg e2]
            constructor
            · intro h; omega
            · intro h
              have := (hh.both d x hd).2 h
              omega
        · rw [if_neg e]
          by_cases e2 : x = r
          · subst e2
            rw [if_pos rfl]
            constructor
            · intro h
              exact absurd ((hh.both d x hd).1 h) (hh.free d hd)
            · intro h; omega
          · rw [if_neg e2]; exact hh.both d x hd
    · have hqc : getI row q = c := (hh.both c q hc).1 hq
      have hqr : q ≠ r := by rintro rfl; exact hh.free c hc hqc
      have hand : Hand (fun x => ok x ∧ x ≠ c) row col q := ⟨fun d x hd => hh.both d x hd.1, fun d hd h => hd.2 (by omega)⟩
      have L := ha.left hrl hcl hand
      have gr : ∀ x, getI (row1.set r c) x = if x = r then (c : Int) else getI row1 x := fun x => by
        rw [getI_set, L.rl]
        by_cases e : x = r
        · subst e; simp [hr64]
        · rw [if_neg e, if_neg]; rintro ⟨rfl, _⟩; exact e rfl
      have gc : ∀ x, getI (col1.set c r) x = if x = c then (r : Int) else getI col1 x := fun x => by
        rw [getI_set, L.cl]
        by_cases e : x = c
        · subst e; simp [hc64]
        · rw [if_neg e, if_neg]; rintro ⟨rfl, _⟩; exact e rfl
      -- nobody else has the column c behind the inner way
      have hno : ∀ x : Nat, getI row1 x ≠ c := by
        intro x hx
        by_cases e : x = q
        · subst e
          obtain ⟨d, hd, h1, _⟩ := L.k3
          exact hd.2 (by omega)
        · by_cases h : ∃ d : Nat, (ok d ∧ d ≠ c) ∧ getI row x = d
          · obtain ⟨d, hd, h1⟩ := h
            obtain ⟨d', hd', h2, _⟩ := L.k5 x e d hd h1
            exact hd'.2 (by omega)
          · have h1 := L.k4 x e (fun d hd h2 => h ⟨d, hd, h2⟩)
            rw [h1] at hx
            have := (hh.both c x hc).2 hx
            omega
      have hrow1 : getI row1 r = getI row r := L.k4 r (Ne.symm hqr) fun d hd => hh.free d hd.1
      refine ⟨fun d hd => ?_, fun d x hd => ?_, ⟨c, hc, by rw [gr, if_pos rfl], he⟩, fun x hx hno2 => ?_, fun x hx d hd hxd => ?_, by simp [L.rl], by simp [L.cl]⟩
      · rw [gc, if_neg (by rintro rfl; exact hd hc)]
        exact L.k1 d fun h => hd h.1
      · rw [gc, gr]
        by_cases e : d = c
        · subst e
          rw [if_pos rfl]
          by_cases e2 : x = r
          · subst e2; simp
          · rw [if_neg e2]
            constructor
            · intro h; omega
            · intro h; exact absurd h (hno x)
        · rw [if_neg e]
          by_cases e2 : x = r
          · subst e2
            rw [if_pos rfl]
            constructor
            · intro h
              have := (L.k2 d x ⟨hd, e⟩).1 h
              rw [hrow1] at this
              exact absurd this (hh.free d hd)
            · intro h; omega
          · rw [if_neg e2]; exact L.k2 d x ⟨hd, e⟩
      · rw [gr, if_neg hx]
        have hxq : x ≠ q := by rintro rfl; exact hno2 c hc hqc
        exact L.k4 x hxq fun d hd => hno2 d hd.1
      · rw [gr, if_neg hx]
        by_cases e : x = q
        · subst e
          obtain ⟨d', hd', h1, h2⟩ := L.k3
          exact ⟨d', hd'.1, h1, .inl h2⟩
        · have hdc : d ≠ c := by
            rintro rfl
            have := (hh.both d x hd).2 hxd
            omega
          obtain ⟨d', hd', h1, h2⟩ := L.k5 x e d ⟨hd, hdc⟩ hxd
          exact ⟨d', hd'.1, h1, h2⟩
/-- Rows and columns behind which no way leads on. -/
structure Shut (E : Nat → Nat → Prop) (ok : Nat → Prop) (col : List Int) (R V : Nat → Prop) : Prop where
  col : ∀ c, V c → ∃ q : Nat, getI col c = q ∧ R q
  row : ∀ x c, R x → E x c → ok c → V c
theorem Shut.stuck {E : Nat → Nat → Prop} {ok : Nat → Prop} {R V : Nat → Prop} : ∀ {n : Nat} {ok2 : Nat → Prop} {row col : List Int} {r : Nat} {row' col' : List Int}, Shut E ok col R V → (∀ c, ok2 c → ok c) → R r → ¬ Aug E n ok2 row col r row' col'
  | 0, _, _, _, _, _, _, _, _, _, h => h
  | n + 1, ok2, row, col, r, row', col', H, hs, hR, h => by
    obtain ⟨c, he, hc, hc64, hr64, ⟨hneg, _⟩ | ⟨q, row1, col1, hq, ha, _⟩⟩ := h
    · obtain ⟨q, h1, _⟩ := H.col c (H.row r c hR he (hs c hc))
      omega
    · obtain ⟨q', h1, h2⟩ := H.col c (H.row r c hR he (hs c hc))
      have : q' = q := by omega
      subst this
      exact H.stuck (fun x hx => hs x hx.1) h2 ha
theorem Shut.keeps {E : Nat → Nat → Prop} {ok : Nat → Prop} {R V : Nat → Prop} : ∀ {n : Nat} {ok2 : Nat → Prop} {row col : List Int} {r : Nat} {row' col' : List Int}, Shut E ok col R V → (∀ c, ok2 c → ok c) → Aug E n ok2 row col r row' col' → ∀ c, V c → getI col' c = getI col c
  | 0, _, _, _, _, _, _, _, _, h => h.elim
  | n + 1, ok2, row, col, r, row', col', H, hs, h => by
    intro d hd
    obtain ⟨q0, h1, h2⟩ := H.col d hd
    obtain ⟨c, he, hc, hc64, hr64, ⟨hneg, rfl, rfl⟩ | ⟨q, row1, col1, hq, ha, rfl, rfl⟩⟩ := h
    · have : c ≠ d := by rintro rfl; omega
      rw [getI_set, if_neg (fun h => this h.1)]
    · have hcd : c ≠ d := by
        rintro rfl
        have : q0 = q := by omega
        subst this
        exact H.stuck (fun x hx => hs x hx.1) h2 ha
      rw [getI_set, if_neg (fun h => hcd h.1)]
      exact H.keeps (fun x hx => hs x hx.1) ha d hd
/-! ### Counting -/
def cnt (p : Nat → Bool) (n : Nat) : Nat := ((List.range n).filter p).length
theorem cnt_zero (p : Nat → Bool) : cnt p 0 = 0 := rfl
theorem cnt_succ (p : Nat → Bool) (n : Nat) : cnt p (n + 1) = cnt p n + if p n = true then 1 else 0 := by
  unfold cnt
  rw [List.range_succ, List.filter_append, List.length_append]
  by_cases h : p n = true
  · simp [h]
  · simp [h]
theorem cnt_congr {p q : Nat → Bool} : ∀ {n : Nat}, (∀ i, i < n → p i = q i) → cnt p n = cnt q n
  | 0, _ => rfl
  | n + 1, h => by
    rw [cnt_succ, cnt_succ, cnt_congr (fun i hi => h i (by omega)), h n (by omega)]
theorem cnt_mono {p q : Nat → Bool} : ∀ {n : Nat}, (∀ i, i < n → p i = true → q i = true) → cnt p n ≤ cnt q n
  | 0, _ => Nat.le_refl _
  | n + 1, h => by
    have ih := cnt_mono (p := p) (q := q) (n := n) fun i hi => h i (by omega)
    rw [cnt_succ, cnt_succ]
    by_cases e : p n = true
    · rw [if_pos e, if_pos (h n (by omega) e)]; omega
    · rw [if_neg e]; omega
theorem cnt_split (p q : Nat → Bool) : ∀ (n : Nat), cnt p n = cnt (fun i => p i && q i) n + cnt (fun i => p i && !q i) n
  | 0 => rfl
  | n + 1 => by
    rw [cnt_succ, cnt_succ, cnt_succ, cnt_split p q n]
    cases p n <;> cases q n <;> simp <;> omega
theorem cnt_le (p : Nat → Bool) (n : Nat) : cnt p n ≤ n := by
  unfold cnt
  exact Nat.le_trans (List.length_filter_le _ _) (by simp)
/-- One less, where one is struck. -/
theorem cnt_strike (p : Nat → Bool) (k : Nat) : ∀ (n : Nat), k < n → p k = true → cnt p n = cnt (fun i => p i && decide (i ≠ k)) n + 1
  | 0, h, _ => by omega
  | n + 1, h, hp => by
    rw [cnt_succ, cnt_succ]
    by_cases e : n = k
    · subst e
      rw [hp, cnt_congr (p := p) (q := fun i => p i && decide (i ≠ n)) (n := n) fun i hi => by simp; intro _; omega]
      simp
    · rw [cnt_strike p k n (by omega) hp]
      simp [e]; omega
theorem cnt_inj : ∀ (n : Nat) (p q : Nat → Bool) (m : Nat) (f : Nat → Nat), (∀ i, i < n → p i = true → f i < m ∧ q (f i) = true) → (∀ i j, i < n → j < n → p i = true → p j = true → f i = f j → i = j) → cnt p n ≤ cnt q m
  | 0, _, _, _, _, _, _ => Nat.zero_le _
  | n + 1, p, q, m, f, h1, h2 => by
    rw [cnt_succ]
    by_cases e : p n = true
    · rw [if_pos e]
      obtain ⟨h3, h4⟩ := h1 n (by omega) e
      rw [cnt_strike q (f n) m h3 h4]
      have := cnt_inj n p (fun i => q i && decide (i ≠ f n)) m f (fun i hi hp => by
        obtain ⟨h5, h6⟩ := h1 i (by omega) hp
        refine ⟨h5, ?_⟩
        have : f i ≠ f n := fun e2 => by
          have := h2 i n (by omega) (by omega) hp e e2
          omega
        simp [h6, this]) (fun i j hi hj => h2 i j (by omega) (by omega))
      omega
    · rw [if_neg e]
      exact cnt_inj n p q m f (fun i hi => h1 i (by omega)) (fun i j hi hj => h2 i j (by omega) (by omega))
theorem cnt_pos {p : Nat → Bool} {n k : Nat} (hk : k < n) (hp : p k = true) : 1 ≤ cnt p n := by
  rw [cnt_strike p k n hk hp]; omega

/-! ### A matching has no more pairs than a cover has rows and columns -/
/-- Row by row a column; below 0: none. Rows of A alone, columns of B alone. -/
structure IsMat (E : Nat → Nat → Prop) (A B : Nat → Bool) (f : Nat → Int) : Prop where
  edge : ∀ x : Nat, 0 ≤ f x → ∃ c : Nat, f x = c ∧ E x c ∧ B c = true
  row : ∀ x : Nat, 0 ≤ f x → A x = true
  one : ∀ x y : Nat, 0 ≤ f x → f x = f y → x = y
structure IsCov (E : Nat → Nat → Prop) (A B : Nat → Bool) (P Q : Nat → Bool) : Prop where
  edge : ∀ x c : Nat, A x = true → B c = true → E x c → P x = true ∨ Q c = true
def hasP (f : Nat → Int) (x : Nat) : Bool := decide (0 ≤ f x)
/-- Edges have rows and columns below 64. -/
def Small (E : Nat → Nat → Prop) : Prop := ∀ x c, E x c → x < 64 ∧ c < 64

theorem weak_parts {E : Nat → Nat → Prop} (hE : Small E) {A B P Q : Nat → Bool} {f : Nat → Int} (m : IsMat E A B f) (c : IsCov E A B P Q) :
    cnt (fun x => hasP f x && !P x) 64 ≤ cnt Q 64 ∧ cnt (fun x => hasP f x && P x) 64 ≤ cnt P 64 := by
  refine ⟨cnt_inj 64 _ _ 64 (fun x => (f x).toNat) (fun i hi h => ?_) (fun i j hi hj h1 h2 e => ?_), cnt_mono fun i hi h => by simp at h; exact h.2⟩
  · simp [hasP] at h
    obtain ⟨d, h1, h2, h3⟩ := m.edge i h.1
    have := hE _ _ h2
    show (f i).toNat < 64 ∧ Q (f i).toNat = true
    rw [h1, Int.toNat_natCast]
    refine ⟨this.2, ?_⟩
    rcases c.edge i d (m.row i h.1) h3 h2 with h4 | h4
    · rw [h4] at h; simp at h
    · exact h4
  · simp [hasP] at h1 h2
    exact m.one i j h1.1 (by have := h1.1; have := h2.1; have e2 : (f i).toNat = (f j).toNat := e; omega)
theorem weak {E : Nat → Nat → Prop} (hE : Small E) {A B P Q : Nat → Bool} {f : Nat → Int} (m : IsMat E A B f) (c : IsCov E A B P Q) : cnt (hasP f) 64 ≤ cnt P 64 + cnt Q 64 := by
  obtain ⟨h1, h2⟩ := weak_parts hE m c
  rw [cnt_split (hasP f) P]
  omega
/-- Where the numbers are the same. -/
theorem slack {E : Nat → Nat → Prop} (hE : Small E) {A B P Q : Nat → Bool} {f : Nat → Int} (m : IsMat E A B f) (c : IsCov E A B P Q) (he : cnt P 64 + cnt Q 64 ≤ cnt (hasP f) 64) :
    (∀ x, x < 64 → P x = true → 0 ≤ f x) ∧ (∀ d : Nat, d < 64 → Q d = true → ∃ x, f x = d ∧ P x = false) := by
  obtain ⟨h1, h2⟩ := weak_parts hE m c
  rw [cnt_split (hasP f) P] at he
  refine ⟨fun x hx hp => ?_, fun d hd hq => ?_⟩
  · by_cases e : 0 ≤ f x
    · exact e
    · exfalso
      have h3 : cnt (fun x => hasP f x && P x) 64 ≤ cnt (fun i => P i && decide (i ≠ x)) 64 := cnt_mono fun i hi h => by
        simp [hasP] at h ⊢
        exact ⟨h.2, by rintro rfl; exact e h.1⟩
      have := cnt_strike P x 64 hx hp
      omega
  · refine Classical.byContradiction fun hno => ?_
    have h3 : cnt (fun x => hasP f x && !P x) 64 ≤ cnt (fun i => Q i && decide (i ≠ d)) 64 := by
      refine cnt_inj 64 _ _ 64 (fun x => (f x).toNat) (fun i hi h => ?_) (fun i j hi hj h1 h2 e => ?_)
      · simp [hasP] at h
        obtain ⟨d2, h1, h2, h3⟩ := m.edge i h.1
        have := hE _ _ h2
        simp only [h1, Int.toNat_natCast]
        refine ⟨this.2, ?_⟩
        have hne : d2 ≠ d := by rintro rfl; exact hno ⟨i, h1, h.2⟩
        rcases c.edge i d2 (m.row i h.1) h3 h2 with h4 | h4
        · rw [h4] at h; simp at h
        · simp [h4, hne]
      · simp [hasP] at h1 h2
        exact m.one i j h1.1 (by have := h1.1; have := h2.1; have e2 : (f i).toNat = (f j).toNat := e; omega)
    have := cnt_strike Q d 64 hd hq
    omega
/-- Each pair has just one of its two in the cover; what is in the cover has a pair. -/
theorem slack_pair {E : Nat → Nat → Prop} (hE : Small E) {A B P Q : Nat → Bool} {f : Nat → Int} (m : IsMat E A B f) (c : IsCov E A B P Q) (he : cnt P 64 + cnt Q 64 ≤ cnt (hasP f) 64) {x d : Nat} (h : f x = d) : P x = !Q d := by
  obtain ⟨h1, h2⟩ := slack hE m c he
  obtain ⟨d2, h3, h4, h5⟩ := m.edge x (by omega)
  have : d2 = d := by omega
  subst this
  have hl := hE _ _ h4
  cases hq : Q d2
  · rcases c.edge x d2 (m.row x (by omega)) h5 h4 with h6 | h6
    · rw [h6]; rfl
    · rw [hq] at h6; cases h6
  · obtain ⟨y, h6, h7⟩ := h2 d2 hl.2 hq
    have : y = x := m.one y x (by omega) (by omega)
    subst this
    rw [h7]; rfl
/-- As many pairs as there can be: k. -/
def Best (E : Nat → Nat → Prop) (A B : Nat → Bool) (k : Nat) : Prop :=
  (∃ f, IsMat E A B f ∧ cnt (hasP f) 64 = k) ∧ ∃ P Q, IsCov E A B P Q ∧ cnt P 64 + cnt Q 64 ≤ k
theorem Best.max {E : Nat → Nat → Prop} (hE : Small E) {A B : Nat → Bool} {k : Nat} (h : Best E A B k) {f : Nat → Int} (m : IsMat E A B f) : cnt (hasP f) 64 ≤ k := by
  obtain ⟨_, P, Q, hc, hk⟩ := h
  exact Nat.le_trans (weak hE m hc) hk
theorem Best.unique {E : Nat → Nat → Prop} (hE : Small E) {A B : Nat → Bool} {k k' : Nat} (h : Best E A B k) (h' : Best E A B k') : k = k' := by
  obtain ⟨f, hf, e⟩ := h.1
  obtain ⟨f', hf', e'⟩ := h'.1
  have := h.max hE hf'
  have := h'.max hE hf
  omega
/-! ### Pairs in two tables -/
structure Mat (E : Nat → Nat → Prop) (row col : List Int) : Prop where
  ok : PairOk row col
  both : ∀ c x : Nat, getI col c = x ↔ getI row x = c
  edge : ∀ x c : Nat, getI row x = c → E x c
theorem PairOk.val {row col : List Int} (h : PairOk row col) (x : Nat) : getI row x = -1 ∨ ∃ c : Nat, getI row x = c ∧ c < 64 := by
  by_cases hx : x < 64
  · exact h.rowAt hx
  · exact .inl (getI_out (by rw [h.rowL]; omega))
theorem PairOk.cval {row col : List Int} (h : PairOk row col) (x : Nat) : getI col x = -1 ∨ ∃ c : Nat, getI col x = c ∧ c < 64 := by
  by_cases hx : x < 64
  · exact h.colAt hx
  · exact .inl (getI_out (by rw [h.colL]; omega))
theorem Mat.isMat {E : Nat → Nat → Prop} {row col : List Int} (h : Mat E row col) {A B : Nat → Bool} (hA : ∀ x, 0 ≤ getI row x → A x = true) (hB : ∀ x c : Nat, getI row x = c → B c = true) : IsMat E A B (getI row) := by
  refine ⟨fun x hx => ?_, hA, fun x y hx e => ?_⟩
  · rcases h.ok.val x with e | ⟨c, e, _⟩
    · omega
    · exact ⟨c, e, h.edge x c e, hB x c e⟩
  · rcases h.ok.val x with e1 | ⟨c, e1, _⟩
    · omega
    · have h1 := (h.both c x).2 e1
      have h2 := (h.both c y).2 (by omega)
      omega
/-- A row more. -/
structure More (E : Nat → Nat → Prop) (ok : Nat → Prop) (row col : List Int) (r : Nat) (row' col' : List Int) : Prop where
  mat : Mat E row' col'
  has : ∀ x, x ≠ r → (0 ≤ getI row' x ↔ 0 ≤ getI row x)
  own : ∃ c : Nat, ok c ∧ getI row' r = c
  num : cnt (hasP (getI row')) 64 = cnt (hasP (getI row)) 64 + 1
  col : ∀ c, ¬ ok c → getI col' c = getI col c
  fix : ∀ x c : Nat, ¬ ok c → getI row x = c → getI row' x = c
  back : ∀ x c : Nat, ¬ ok c → getI row' x = c → getI row x = c
theorem Mat.aug {E : Nat → Nat → Prop} {row col : List Int} (h : Mat E row col) {n r : Nat} {ok : Nat → Prop} {row' col' : List Int} (hr : r < 64) (hun : getI row r < 0) (ha : Aug E n ok row col r row' col') (hok : PairOk row' col') : More E ok row col r row' col' := by
  have hand : Hand ok row col r := ⟨fun c x _ => h.both c x, fun c _ => by omega⟩
  have L := ha.left h.ok.rowL h.ok.colL hand
  have hhas : ∀ x, x ≠ r → (0 ≤ getI row' x ↔ 0 ≤ getI row x) := by
    intro x hx
    by_cases e : ∃ c : Nat, ok c ∧ getI row x = c
    · obtain ⟨c, h1, h2⟩ := e
      obtain ⟨c', _, h3, _⟩ := L.k5 x hx c h1 h2
      omega
    · rw [L.k4 x hx fun c h1 h2 => e ⟨c, h1, h2⟩]
  have hback : ∀ x c : Nat, ¬ ok c → getI row' x = c → getI row x = c := by
    intro x c hc hx
    have hxr : x ≠ r := by
      rintro rfl
      obtain ⟨d, h1, h2, _⟩ := L.k3
      have : d = c := by omega
      subst this; exact hc h1
    by_cases e : ∃ d : Nat, ok d ∧ getI row x = d
    · obtain ⟨d, h1, h2⟩ := e
      obtain ⟨d', h3, h4, _⟩ := L.k5 x hxr d h1 h2
      have : d' = c := by omega
      subst this; exact absurd h3 hc
    · rw [L.k4 x hxr fun d h1 h2 => e ⟨d, h1, h2⟩] at hx; exact hx
  have hfix : ∀ x c : Nat, ¬ ok c → getI row x = c → getI row' x = c := by
    intro x c hc hx
    have hxr : x ≠ r := by rintro rfl; omega
    rw [L.k4 x hxr fun d h1 h2 => ?_]
    · exact hx
    · have : d = c := by omega
      subst this; exact hc h1
  refine ⟨⟨hok, fun c x => ?_, fun x c hx => ?_⟩, hhas, ?_, ?_, L.k1, hfix, hback⟩
  · by_cases hc : ok c
    · exact L.k2 c x hc
    · rw [L.k1 c hc]
      constructor
      · intro e; exact hfix x c hc ((h.both c x).1 e)
      · intro e; exact (h.both c x).2 (hback x c hc e)
  · by_cases hxr : x = r
    · subst hxr
      obtain ⟨d, h1, h2, h3⟩ := L.k3
      have : d = c := by omega
      subst this; exact h3
    · by_cases e : ∃ d : Nat, ok d ∧ getI row x = d
      · obtain ⟨d, h1, h2⟩ := e
        obtain ⟨d', h3, h4, h5⟩ := L.k5 x hxr d h1 h2
        have : d' = c := by omega
        subst this
        rcases h5 with h5 | h5
        · exact h5
        · exact h.edge x d' h5
      · rw [L.k4 x hxr fun d h1 h2 => e ⟨d, h1, h2⟩] at hx
        exact h.edge x c hx
  · obtain ⟨d, h1, h2, _⟩ := L.k3
    exact ⟨d, h1, h2⟩
  · obtain ⟨d, h1, h2, _⟩ := L.k3
    rw [cnt_strike (hasP (getI row')) r 64 hr (by simp [hasP]; omega)]
    congr 1
    refine cnt_congr fun i hi => ?_
    by_cases e : i = r
    · subst e; simp [hasP]; omega
    · have := hhas i e
      simp [hasP, e, this]
/-- Where a search failed. -/
theorem Shut.fail {E : Nat → Nat → Prop} {gone : List Bool} {n r : Nat} {s : St} {l : List Nat} {res : Bool × St} (t : Tells E gone n s l r res) (hn : res.1 = false) (hl : ∀ c, E r c → c ∈ l) {ok : Nat → Prop} (hok : ∀ c, ok c ↔ (getB s.met c = false ∧ getB gone c = false)) {R V : Nat → Prop} (h : Shut E ok s.col R V) (hv : ∀ c, V c → ok c) :
    ∃ R' V', Shut E ok s.col R' V' ∧ (∀ x, R x → R' x) ∧ R' r ∧ (∀ c, V' c → ok c) := by
  refine ⟨fun x => R x ∨ x = r ∨ ∃ c, (getB s.met c = false ∧ getB res.2.met c = true) ∧ getI s.col c = x, fun c => V c ∨ (getB s.met c = false ∧ getB res.2.met c = true), ⟨?_, ?_⟩, fun x hx => .inl hx, .inr (.inl rfl), ?_⟩
  · rintro c (hc | hc)
    · obtain ⟨q, h1, h2⟩ := h.col c hc
      exact ⟨q, h1, .inl h2⟩
    · obtain ⟨_, q, h1, h2⟩ := t.shut hn c hc.1 hc.2
      exact ⟨q, h1, .inr (.inr ⟨c, hc, h1⟩)⟩
  · rintro x c (hx | rfl | ⟨d, hd, hx⟩) he hc
    · exact .inl (h.row x c hx he hc)
    · exact .inr ⟨((hok c).1 hc).1, t.own hn c (hl c he) ((hok c).1 hc).2⟩
    · obtain ⟨_, q, h1, h2⟩ := t.shut hn d hd.1 hd.2
      have : q = x := by omega
      subst this
      exact .inr ⟨((hok c).1 hc).1, h2 c he ((hok c).1 hc).2⟩
  · rintro c (hc | hc)
    · exact hv c hc
    · exact (hok c).2 ⟨hc.1, (t.shut hn c hc.1 hc.2).1⟩
theorem Shut.subset {E : Nat → Nat → Prop} {ok : Nat → Prop} {col col' : List Int} {R V : Nat → Prop} (h : Shut E ok col R V) (hk : ∀ c, V c → getI col' c = getI col c) : Shut E ok col' R V :=
  ⟨fun c hc => by obtain ⟨q, h1, h2⟩ := h.col c hc; exact ⟨q, by rw [hk c hc]; exact h1, h2⟩, h.row⟩
theorem shut_empty (E : Nat → Nat → Prop) (ok : Nat → Prop) (col : List Int) : Shut E ok col (fun _ => False) (fun _ => False) := ⟨fun _ h => h.elim, fun _ _ h => h.elim⟩

/-- A cover with no more rows and columns than there are pairs of the rows that count. -/
theorem cov_of_shut {E : Nat → Nat → Prop} {row col : List Int} (h : Mat E row col) {A B : Nat → Bool} {R V : Nat → Bool} (hs : Shut E (fun c => B c = true) col (fun x => R x = true) (fun c => V c = true)) (hun : ∀ x, A x = true → getI row x < 0 → R x = true) (hA : ∀ x c : Nat, V c = true → getI row x = c → A x = true) :
    IsCov E A B (fun x => A x && !R x) V ∧ cnt (fun x => A x && !R x) 64 + cnt V 64 ≤ cnt (fun x => hasP (getI row) x && A x) 64 := by
  refine ⟨⟨fun x c hx hc he => ?_⟩, ?_⟩
  · cases e : R x
    · left; simp [hx]
    · right; exact hs.row x c e he hc
  · rw [cnt_split (fun x => hasP (getI row) x && A x) (fun x => A x && !R x)]
    have h1 : cnt (fun x => A x && !R x) 64 ≤ cnt (fun x => (hasP (getI row) x && A x) && (A x && !R x)) 64 := cnt_mono fun x _ hx => by
      simp only [Bool.and_eq_true, Bool.not_eq_true'] at hx
      have : 0 ≤ getI row x := by
        refine Classical.byContradiction fun hn => ?_
        rw [hun x hx.1 (by omega)] at hx; simp at hx
      simp [hasP, this, hx]
    have h2 : cnt V 64 ≤ cnt (fun x => (hasP (getI row) x && A x) && !(A x && !R x)) 64 := by
      refine cnt_inj 64 _ _ 64 (fun c => (getI col c).toNat) (fun c hc hv => ?_) (fun c d hc hd h1 h2 e => ?_)
      · obtain ⟨q, h3, h4⟩ := hs.col c hv
        simp only [h3, Int.toNat_natCast]
        have h5 := (h.both c q).1 h3
        refine ⟨?_, ?_⟩
        · rcases h.ok.cval c with h6 | ⟨q2, h6, h7⟩ <;> omega
        · have : 0 ≤ getI row q := by omega
          simp [hasP, h4, this, hA q c hv h5]
      · obtain ⟨q, h3, _⟩ := hs.col c h1
        obtain ⟨q2, h4, _⟩ := hs.col d h2
        have e2 : (getI col c).toNat = (getI col d).toNat := e
        have : q = q2 := by omega
        subst this
        have := (h.both c q).1 h3
        have := (h.both d q).1 h4
        omega
    omega

/-! ### As many pairs as there can be -/
structure Kuhn (tl : List (List Nat)) (out gone : Nat → Bool) (n k : Nat) (row col : List Int) : Prop where
  mat : Mat (Eg tl) row col
  rows : ∀ x, 0 ≤ getI row x → x < n ∧ out x = false
  cols : ∀ x c : Nat, getI row x = c → gone c = false
  num : cnt (hasP (getI row)) 64 = k
  shut : ∃ R V, (Shut (Eg tl) (fun c => gone c = false) col R V ∧ ∀ c, V c → gone c = false) ∧ ∀ x, x < n → out x = false → getI row x < 0 → R x
theorem none64_get (x : Nat) : getI none64 x = -1 := by
  unfold getI none64
  rw [List.getElem?_replicate]
  split <;> rfl
theorem none64_pairs : PairOk none64 none64 := by
  refine ⟨by simp [none64], by simp [none64], fun i x h => ?_, fun i x h => ?_⟩ <;>
  · left
    unfold none64 at h
    rw [List.getElem?_replicate] at h
    split at h
    · exact (Option.some.inj h).symm
    · cases h
theorem Kuhn.start (tl : List (List Nat)) (out gone : Nat → Bool) : Kuhn tl out gone 0 0 none64 none64 := by
  refine ⟨⟨none64_pairs, fun c x => ?_, fun x c h => ?_⟩, fun x h => ?_, fun x c h => ?_, ?_, ⟨_, _, ⟨shut_empty _ _ _, fun _ h => h.elim⟩, fun x h => by omega⟩⟩
  · rw [none64_get, none64_get]; omega
  · rw [none64_get] at h; omega
  · rw [none64_get] at h; omega
  · rw [none64_get] at h; omega
  · have : cnt (hasP (getI none64)) 64 = cnt (fun _ => false) 64 := cnt_congr fun i _ => by simp [hasP, none64_get]
    rw [this]; rfl
theorem cnt_and_le (p q : Nat → Bool) (n : Nat) : cnt (fun x => p x && q x) n ≤ cnt p n := cnt_mono fun x _ h => by simp at h; exact h.1
theorem Kuhn.skip {tl : List (List Nat)} {out gone : Nat → Bool} {n k : Nat} {row col : List Int} (h : Kuhn tl out gone n k row col) (ho : out n = true) : Kuhn tl out gone (n + 1) k row col := by
  obtain ⟨R, V, h1, h2⟩ := h.shut
  refine ⟨h.mat, fun x hx => ⟨by have := (h.rows x hx).1; omega, (h.rows x hx).2⟩, h.cols, h.num, R, V, h1, fun x hx hox => h2 x ?_ hox⟩
  by_cases e : x = n
  · subst e; rw [ho] at hox; cases hox
  · omega
theorem Kuhn.step {tl : List (List Nat)} {goneL : List Bool} (hok : NetOk tl goneL) {out gone : Nat → Bool} {n k : Nat} {row col : List Int} (h : Kuhn tl out gone n k row col) (hn : n < 64) (ho : out n = false) {met : List Bool} (hml : met.length = 64) (hm : ∀ c, (getB met c || getB goneL c) = gone c) :
    Kuhn tl out gone (n + 1) (if (tryF tl goneL 65 ⟨met, row, col⟩ n).1 = true then k + 1 else k) (tryF tl goneL 65 ⟨met, row, col⟩ n).2.row (tryF tl goneL 65 ⟨met, row, col⟩ n).2.col := by
  have hst : StOk ⟨met, row, col⟩ := ⟨hml, h.mat.ok.rowL, h.mat.ok.colL, h.mat.ok.rows, h.mat.ok.cols⟩
  have t := tryF_tells hok 65 ⟨met, row, col⟩ n hn hst (by have := unmet_le met; show unmet met < 65; omega)
  have hpo := (tryF_keeps hok 65 ⟨met, row, col⟩ n hn hst).1.pairOk
  obtain ⟨R, V, ⟨hs, hv⟩, hun⟩ := h.shut
  have hfree : ∀ c, gone c = false ↔ (getB met c = false ∧ getB goneL c = false) := fun c => by
    rw [← hm c]; simp
  have hrn : getI row n < 0 := by
    refine Classical.byContradiction fun e => ?_
    have := (h.rows n (by omega)).1
    omega
  by_cases hy : (tryF tl goneL 65 ⟨met, row, col⟩ n).1 = true
  · rw [if_pos hy]
    have ha : Aug (Eg tl) 65 (fun c => gone c = false) row col n _ _ := (t.yes hy).mono fun c hc => by
      rw [← hm c]; simp [hc.1, hc.2]
    have M := h.mat.aug hn hrn ha hpo
    have hns : ¬ R n := fun hR => hs.stuck (fun _ h => h) hR ha
    refine ⟨M.mat, fun x hx => ?_, fun x c hx => ?_, by rw [M.num, h.num], R, V, ⟨hs.subset (hs.keeps (fun _ h => h) ha), hv⟩, fun x hx hox hxr => ?_⟩
    · by_cases e : x = n
      · subst e; exact ⟨by omega, ho⟩
      · have := h.rows x ((M.has x e).1 hx)
        exact ⟨by omega, this.2⟩
    · by_cases hc : gone c = false
      · exact hc
      · exact h.cols x c (M.back x c hc hx)
    · have hxn : x ≠ n := by
        rintro rfl
        obtain ⟨c, _, h2⟩ := M.own
        omega
      refine hun x (by omega) hox ?_
      have := M.has x hxn
      omega
  · rw [if_neg hy]
    have hy' : (tryF tl goneL 65 ⟨met, row, col⟩ n).1 = false := by simpa using hy
    rw [t.row hy', t.col hy']
    obtain ⟨R', V', h1, h2, h3, h4⟩ := hs.fail t hy' (fun c hc => hc) hfree hv
    refine ⟨h.mat, fun x hx => ⟨by have := (h.rows x hx).1; omega, (h.rows x hx).2⟩, h.cols, h.num, R', V', ⟨h1, h4⟩, fun x hx hox hxr => ?_⟩
    by_cases e : x = n
    · subst e; exact h3
    · exact h2 x (hun x (by omega) hox hxr)
open Classical in
theorem Kuhn.best {tl : List (List Nat)} {out gone : Nat → Bool} {n k : Nat} {row col : List Int} (h : Kuhn tl out gone n k row col) : Best (Eg tl) (fun x => decide (x < n) && !out x) (fun c => !gone c) k := by
  obtain ⟨R, V, ⟨hs, _⟩, hun⟩ := h.shut
  refine ⟨⟨getI row, h.mat.isMat (fun x hx => ?_) (fun x c hx => by simp [h.cols x c hx]), h.num⟩, ?_⟩
  · have := h.rows x hx
    simp [this.1, this.2]
  · have := cov_of_shut h.mat (A := fun x => decide (x < n) && !out x) (B := fun c => !gone c) (R := fun x => decide (R x)) (V := fun c => decide (V c))
      ⟨fun c hc => by
        obtain ⟨q, h1, h2⟩ := hs.col c (by simpa using hc)
        exact ⟨q, h1, by simpa using h2⟩, fun x c h1 h2 h3 => by
        have := hs.row x c (by simpa using h1) h2 (by simpa using h3)
        simpa using this⟩
      (fun x hx hn => by
        simp at hx
        have := hun x hx.1 hx.2 hn
        simpa using this)
      (fun x c _ hx => by
        have := h.rows x (by omega)
        simp [this.1, this.2])
    exact ⟨_, _, this.1, by rw [← h.num]; exact Nat.le_trans this.2 (cnt_and_le _ _ _)⟩
/-- The number of pairs of the rows that are not out, with the columns that are not gone; and the pairs. -/
def cntAll (tl : List (List Nat)) (out gone : List Bool) : Nat → Nat × List Int × List Int
  | 0 => (0, none64, none64)
  | n + 1 =>
    if getB out n = true then cntAll tl out gone n
    else (if (tryF tl noMarks 65 ⟨gone, (cntAll tl out gone n).2.1, (cntAll tl out gone n).2.2⟩ n).1 = true then (cntAll tl out gone n).1 + 1 else (cntAll tl out gone n).1,
      (tryF tl noMarks 65 ⟨gone, (cntAll tl out gone n).2.1, (cntAll tl out gone n).2.2⟩ n).2.row, (tryF tl noMarks 65 ⟨gone, (cntAll tl out gone n).2.1, (cntAll tl out gone n).2.2⟩ n).2.col)
theorem cntAll_kuhn {tl : List (List Nat)} (hok : NetOk tl noMarks) (out gone : List Bool) (hg : gone.length = 64) : ∀ n, n ≤ 64 → Kuhn tl (getB out) (getB gone) n (cntAll tl out gone n).1 (cntAll tl out gone n).2.1 (cntAll tl out gone n).2.2
  | 0, _ => Kuhn.start _ _ _
  | n + 1, h => by
    have ih := cntAll_kuhn hok out gone hg n (by omega)
    unfold cntAll
    by_cases e : getB out n = true
    · rw [if_pos e]; exact ih.skip e
    · rw [if_neg e]
      exact ih.step hok (by omega) (by simpa using e) hg fun c => by rw [noMarks_at, Bool.or_false]
/-- The pairs that the program's net begins with. -/
theorem pairAll_kuhn {tl : List (List Nat)} (hok : NetOk tl noMarks) : ∀ n, n ≤ 64 → ∃ k, Kuhn tl (fun _ => false) (fun _ => false) n k (pairAll tl n).1 (pairAll tl n).2
  | 0, _ => ⟨0, Kuhn.start _ _ _⟩
  | n + 1, h => by
    obtain ⟨k, ih⟩ := pairAll_kuhn hok n (by omega)
    exact ⟨_, ih.step hok (by omega) rfl (met := noMarks) (by simp [noMarks]) fun c => by rw [noMarks_at]; rfl⟩
end Go.Proofs.YtjhomkdnhdhffaaGreat
