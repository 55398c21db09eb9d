/- A row takes a column; row by row the least; what is come to from the rows without a pair. Plain Lean. -/
import Derived.Test.YtjhomkdnhdhffaaGreatAltPl
import Derived.Test.YtjhomkdnhdhffaaGreatVisPl
namespace Go.Proofs.YtjhomkdnhdhffaaGreat

/-! ### A placement, with a column left alone -/
def okC (gone : List Bool) (but : Int) (d : Nat) : Prop := getB gone d = false ∧ (d : Int) ≠ but
theorem met0_at {but : Int} (hb : but = -1 ∨ ∃ b : Nat, but = b ∧ b < 64) (d : Nat) : getB (met0 but) d = decide ((d : Int) = but) := by
  unfold met0
  rcases hb with rfl | ⟨b, rfl, hb⟩
  · rw [if_neg (by omega), noMarks_at]
    simp
  · rw [if_pos (by omega), Int.toNat_natCast, getB_set]
    by_cases e : b = d
    · subst e; simp [noMarks, hb]
    · rw [if_neg (fun h => e h.1), noMarks_at]
      simp; omega
theorem okC_iff {gone : List Bool} {but : Int} (hb : but = -1 ∨ ∃ b : Nat, but = b ∧ b < 64) (d : Nat) : okC gone but d ↔ (getB (met0 but) d = false ∧ getB gone d = false) := by
  unfold okC
  rw [met0_at hb]
  simp [and_comm]
theorem placeF_yes {tl : List (List Nat)} {gone : List Bool} (hok : NetOk tl gone) {row col : List Int} (hm : Mat (Eg tl) row col) {r : Nat} (hr : r < 64) (hun : getI row r < 0) {but : Int} (hb : but = -1 ∨ ∃ b : Nat, but = b ∧ b < 64) (hy : (placeF tl gone row col r but).1 = true) :
    More (Eg tl) (okC gone but) row col r (placeF tl gone row col r but).2.row (placeF tl gone row col r but).2.col := by
  have t := tryF_tells hok 65 ⟨met0 but, row, col⟩ r hr (hm.ok.st but) (by have := unmet_le (met0 but); rw [met0_len] at this; show unmet (met0 but) < 65; omega)
  exact hm.aug hr hun ((t.yes hy).mono fun c hc => (okC_iff hb c).2 hc) (placeF_ok hok hm.ok hr but)
theorem placeF_no {tl : List (List Nat)} {gone : List Bool} (hok : NetOk tl gone) {row col : List Int} (hm : Mat (Eg tl) row col) {r : Nat} (hr : r < 64) {but : Int} (hb : but = -1 ∨ ∃ b : Nat, but = b ∧ b < 64) (hn : (placeF tl gone row col r but).1 = false) :
    (placeF tl gone row col r but).2.row = row ∧ (placeF tl gone row col r but).2.col = col ∧ ∀ R V, Shut (Eg tl) (okC gone but) col R V → (∀ c, V c → okC gone but c) →
      ∃ R' V', Shut (Eg tl) (okC gone but) col R' V' ∧ (∀ x, R x → R' x) ∧ R' r ∧ (∀ c, V' c → okC gone but c) := by
  have t := tryF_tells hok 65 ⟨met0 but, row, col⟩ r hr (hm.ok.st but) (by have := unmet_le (met0 but); rw [met0_len] at this; show unmet (met0 but) < 65; omega)
  exact ⟨t.row hn, t.col hn, fun R V hs hv => hs.fail t hn (fun c hc => hc) (okC_iff hb) hv⟩
theorem tries_tells {tl : List (List Nat)} {gone : List Bool} (hok : NetOk tl gone) {row col : List Int} (hm : Mat (Eg tl) row col) {c : Nat} (hc : c < 64) : ∀ n k, k + n ≤ 64 →
    ((tries tl gone c n k row col).1 = true → ∃ x, k ≤ x ∧ x < 64 ∧ getI row x < 0 ∧ More (Eg tl) (okC gone c) row col x (tries tl gone c n k row col).2.1 (tries tl gone c n k row col).2.2) ∧
    ((tries tl gone c n k row col).1 = false → (tries tl gone c n k row col).2.1 = row ∧ (tries tl gone c n k row col).2.2 = col ∧ ∀ R V, Shut (Eg tl) (okC gone c) col R V → (∀ d, V d → okC gone c d) →
      ∃ R' V', Shut (Eg tl) (okC gone c) col R' V' ∧ (∀ x, R x → R' x) ∧ (∀ x, k ≤ x → x < k + n → getI row x < 0 → R' x) ∧ (∀ d, V' d → okC gone c d))
  | 0, k, _ => ⟨fun h => by simp [tries] at h, fun _ => ⟨rfl, rfl, fun R V hs hv => ⟨R, V, hs, fun _ h => h, fun x h1 h2 => by omega, hv⟩⟩⟩
  | n + 1, k, hk => by
    have ih := tries_tells hok hm hc n (k + 1) (by omega)
    unfold tries
    have hb : (c : Int) = -1 ∨ ∃ b : Nat, (c : Int) = b ∧ b < 64 := .inr ⟨c, rfl, hc⟩
    by_cases h1 : getI row k < 0
    · rw [if_pos h1]
      by_cases h2 : (placeF tl gone row col k c).1 = true
      · rw [if_pos h2]
        exact ⟨fun _ => ⟨k, Nat.le_refl _, by omega, h1, placeF_yes hok hm (by omega) h1 hb h2⟩, fun h => by simp at h⟩
      · rw [if_neg h2]
        obtain ⟨e1, e2, e3⟩ := placeF_no hok hm (by omega) hb (show (placeF tl gone row col k c).1 = false by simpa using h2)
        rw [e1, e2]
        refine ⟨fun h => ?_, fun h => ?_⟩
        · obtain ⟨x, a1, a2, a3, a4⟩ := ih.1 h
          exact ⟨x, by omega, a2, a3, a4⟩
        · obtain ⟨a1, a2, a3⟩ := ih.2 h
          refine ⟨a1, a2, fun R V hs hv => ?_⟩
          obtain ⟨R1, V1, b1, b2, b3, b4⟩ := e3 R V hs hv
          obtain ⟨R2, V2, c1, c2, c3, c4⟩ := a3 R1 V1 b1 b4
          refine ⟨R2, V2, c1, fun x hx => c2 x (b2 x hx), fun x hx1 hx2 hx3 => ?_, c4⟩
          by_cases e : x = k
          · subst e; exact c2 x b3
          · exact c3 x (by omega) (by omega) hx3
    · rw [if_neg h1]
      refine ⟨fun h => ?_, fun h => ?_⟩
      · obtain ⟨x, a1, a2, a3, a4⟩ := ih.1 h
        exact ⟨x, by omega, a2, a3, a4⟩
      · obtain ⟨a1, a2, a3⟩ := ih.2 h
        refine ⟨a1, a2, fun R V hs hv => ?_⟩
        obtain ⟨R2, V2, c1, c2, c3, c4⟩ := a3 R V hs hv
        refine ⟨R2, V2, c1, c2, fun x hx1 hx2 hx3 => ?_, c4⟩
        by_cases e : x = k
        · subst e; exact absurd hx3 h1
        · exact c3 x (by omega) (by omega) hx3
theorem takeT_tells {tl : List (List Nat)} {gone : List Bool} (hok : NetOk tl gone) {row col : List Int} (hm : Mat (Eg tl) row col) {r c q : Nat} (hr : r < 64) (hc : c < 64) (hq : q < 64) (hrq : r < q) (hqn : getI row q < 0) :
    ((takeT tl gone row col r c q).1 = true → ∃ x, r < x ∧ x < 64 ∧ getI row x < 0 ∧ More (Eg tl) (okC gone c) row col x (takeT tl gone row col r c q).2.1 (takeT tl gone row col r c q).2.2) ∧
    ((takeT tl gone row col r c q).1 = false → (takeT tl gone row col r c q).2.1 = row ∧ (takeT tl gone row col r c q).2.2 = col ∧
      ∃ R' V', Shut (Eg tl) (okC gone c) col R' V' ∧ (∀ x, r < x → getI row x < 0 → x < 64 → R' x) ∧ (∀ d, V' d → okC gone c d)) := by
  have hb : (c : Int) = -1 ∨ ∃ b : Nat, (c : Int) = b ∧ b < 64 := .inr ⟨c, rfl, hc⟩
  unfold takeT
  by_cases h2 : (placeF tl gone row col q c).1 = true
  · rw [if_pos h2]
    exact ⟨fun _ => ⟨q, hrq, hq, hqn, placeF_yes hok hm hq hqn hb h2⟩, fun h => by simp at h⟩
  · rw [if_neg h2]
    obtain ⟨e1, e2, e3⟩ := placeF_no hok hm hq hb (show (placeF tl gone row col q c).1 = false by simpa using h2)
    rw [e1, e2]
    have t := tries_tells hok hm hc (63 - r) (r + 1) (by omega)
    refine ⟨fun h => ?_, fun h => ?_⟩
    · obtain ⟨x, a1, a2, a3, a4⟩ := t.1 h
      exact ⟨x, by omega, a2, a3, a4⟩
    · obtain ⟨a1, a2, a3⟩ := t.2 h
      refine ⟨a1, a2, ?_⟩
      obtain ⟨R1, V1, b1, b2, b3, b4⟩ := e3 _ _ (shut_empty _ _ _) (fun _ h => h.elim)
      obtain ⟨R2, V2, c1, c2, c3, c4⟩ := a3 R1 V1 b1 b4
      exact ⟨R2, V2, c1, fun x h1 h2 h3 => c3 x (by omega) (by omega) h2, c4⟩

/-! ### A pair by force -/
theorem getI_set64 {l : List Int} (hl : l.length = 64) {k : Nat} (hk : k < 64) (n : Int) (i : Nat) : getI (l.set k n) i = if i = k then n else getI l i := by
  rw [getI_set, hl]
  by_cases e : i = k
  · subst e; simp [hk]
  · rw [if_neg e, if_neg]; rintro ⟨rfl, _⟩; exact e rfl
theorem eq_of_getI {l m : List Int} (h1 : l.length = m.length) (h : ∀ i, i < l.length → getI l i = getI m i) : l = m := by
  apply List.ext_getElem h1
  intro i hi hi2
  have := h i hi
  unfold getI at this
  rw [List.getElem?_eq_getElem hi, List.getElem?_eq_getElem hi2] at this
  exact this
theorem Mat.force {E : Nat → Nat → Prop} {row col row1 col1 : List Int} (h : Mat E row col) {r c : Nat} (he : E r c) (hok : PairOk row1 col1)
    (h1 : ∀ x, getI row1 x = if x = r then (c : Int) else if getI row x = c then -1 else getI row x) (h2 : ∀ d, getI col1 d = if d = c then (r : Int) else if getI col d = r then -1 else getI col d) : Mat E row1 col1 := by
  refine ⟨hok, fun d x => ?_, fun x d hx => ?_⟩
  · rw [h1, h2]
    by_cases e1 : d = c
    · subst e1
      rw [if_pos rfl]
      by_cases e2 : x = r
      · subst e2; simp
      · rw [if_neg e2]
        split
        · constructor <;> intro h3 <;> omega
        · constructor
          · intro h3; omega
          · intro h3; exact absurd h3 ‹_›
    · rw [if_neg e1]
      have hb := h.both d x
      by_cases e2 : x = r
      · subst e2
        rw [if_pos rfl]
        split
        · constructor <;> intro h3 <;> omega
        · constructor
          · intro h3; exact absurd h3 ‹_›
          · intro h3; omega
      · rw [if_neg e2]
        by_cases e3 : getI col d = r
        · rw [if_pos e3]
          split
          · constructor <;> intro h3 <;> omega
          · constructor
            · intro h3; omega
            · intro h3
              have := hb.2 h3
              omega
        · rw [if_neg e3]
          by_cases e4 : getI row x = c
          · rw [if_pos e4]
            constructor
            · intro h3
              have := hb.1 h3
              omega
            · intro h3; omega
          · rw [if_neg e4]; exact hb
  · rw [h1] at hx
    by_cases e2 : x = r
    · subst e2
      rw [if_pos rfl] at hx
      have : d = c := by omega
      subst this; exact he
    · rw [if_neg e2] at hx
      split at hx
      · omega
      · exact h.edge x d hx

def Alike (a b : Int) : Prop := (0 ≤ a ∨ 0 ≤ b) → a = b
/-- No matching that begins so and gives the row this column has so many pairs. -/
def NoExt (E : Nat → Nat → Prop) (K : Nat) (g : Nat → Int) (r d : Nat) : Prop := ∀ f, IsMat E (fun _ => true) (fun _ => true) f → (∀ x, x < r → Alike (f x) (g x)) → f r = d → cnt (hasP f) 64 < K
/-- The columns of the rows that are done. -/
structure Done (row : List Int) (gone : List Bool) (r : Nat) : Prop where
  len : gone.length = 64
  yes : ∀ d, getB gone d = true → ∃ x, x < r ∧ getI row x = d
  no : ∀ x d : Nat, x < r → getI row x = d → getB gone d = true
structure Took (E : Nat → Nat → Prop) (row : List Int) (r c : Nat) (row' col' : List Int) : Prop where
  mat : Mat E row' col'
  own : getI row' r = c
  old : ∀ x, x < r → getI row' x = getI row x
  num : cnt (hasP (getI row)) 64 ≤ cnt (hasP (getI row')) 64

open Classical in
theorem takeF_tells {tl : List (List Nat)} {gone : List Bool} (hok : NetOk tl gone) {row col : List Int} (hm : Mat (Eg tl) row col) {r c : Nat} (hr : r < 64) (hc : c < 64) (he : Eg tl r c) (hg : getB gone c = false) (hd : Done row gone r) (hrc : getI row r ≠ c) :
    ((takeF tl gone row col r c).1 = true → Took (Eg tl) row r c (takeF tl gone row col r c).2.1 (takeF tl gone row col r c).2.2) ∧
    ((takeF tl gone row col r c).1 = false → (takeF tl gone row col r c).2.1 = row ∧ (takeF tl gone row col r c).2.2 = col ∧ NoExt (Eg tl) (cnt (hasP (getI row)) 64) (getI row) r c) := by
  have hrl := hm.ok.rowL
  have hcl := hm.ok.colL
  -- nobody ahead has the column
  have hold : ∀ x, x < r → getI row x ≠ c := fun x hx e => by
    have := hd.no x c hx e
    rw [hg] at this; cases this
  have gfr : ∀ d, getI (freed row col r) d = if getI col d = r then -1 else getI col d := by
    intro d
    unfold freed
    by_cases e : getI row r < 0
    · rw [if_pos e, if_neg]
      intro h
      have := (hm.both d r).1 h
      omega
    · rw [if_neg e]
      rcases hm.ok.val r with e1 | ⟨o, e1, ho⟩
      · omega
      · rw [e1, Int.toNat_natCast, getI_set64 hcl ho]
        have hb := hm.both d r
        by_cases e2 : d = o
        · subst e2; rw [if_pos rfl, if_pos (hb.2 e1)]
        · rw [if_neg e2, if_neg]
          intro h
          have := hb.1 h
          omega
  have hpo1 : PairOk row (freed row col r) := by
    unfold freed
    split
    · exact hm.ok
    · exact hm.ok.outCol _
  have hfl := hpo1.colL
  have hpf : PairOk (row.set r c) ((freed row col r).set c r) := (hpo1.setRow r hc).setCol c hr
  have gcol : ∀ d, getI ((freed row col r).set c r) d = if d = c then (r : Int) else if getI col d = r then -1 else getI col d := fun d => by
    rw [getI_set64 hfl hc, gfr]
  have grow : ∀ x, getI (row.set r c) x = if x = r then (c : Int) else getI row x := fun x => getI_set64 hrl hr _ _
  unfold takeF
  by_cases h1 : getI col c < 0
  · rw [if_pos h1]
    have hno : ∀ x : Nat, getI row x ≠ c := fun x e => by
      have := (hm.both c x).2 e
      omega
    refine ⟨fun _ => ⟨hm.force he hpf (fun x => ?_) gcol, ?_, fun x hx => ?_, cnt_mono fun x _ hx => ?_⟩, fun h => by simp at h⟩
    · show getI (row.set r c) x = _
      rw [grow, if_neg (hno x)]
    · show getI (row.set r c) r = _
      rw [grow, if_pos rfl]
    · show getI (row.set r c) x = _
      rw [grow, if_neg (by omega)]
    · show hasP (getI (row.set r c)) x = true
      simp only [hasP, decide_eq_true_eq] at hx ⊢
      rw [grow]
      split <;> omega
  · rw [if_neg h1]
    rcases hm.ok.cval c with e1 | ⟨q, e1, hq⟩
    · omega
    have hqc := (hm.both c q).1 e1
    have hqr : r < q := by
      by_cases e : q < r
      · exact absurd hqc (hold q e)
      · have : q ≠ r := by rintro rfl; exact hrc hqc
        omega
    have hone : ∀ x, getI row x = c ↔ x = q := fun x => by
      constructor
      · intro h
        have := (hm.both c x).2 h
        omega
      · rintro rfl; exact hqc
    have hpf2 : PairOk ((row.set r c).set q (-1)) ((freed row col r).set c r) := hpf.outRow q
    have grow2 : ∀ x, getI ((row.set r c).set q (-1)) x = if x = r then (c : Int) else if getI row x = c then -1 else getI row x := fun x => by
      rw [getI_set64 (by simp [hrl]) hq, grow]
      by_cases e2 : x = q
      · subst e2; rw [if_pos rfl, if_neg (by omega), if_pos hqc]
      · rw [if_neg e2]
        split
        · rfl
        · rw [if_neg]; intro h; exact e2 ((hone x).1 h)
    have hmat := hm.force he hpf2 grow2 gcol
    rw [e1, Int.toNat_natCast]
    by_cases h2 : getI row r < 0
    · rw [if_pos h2]
      refine ⟨fun _ => ⟨hmat, ?_, fun x hx => ?_, ?_⟩, fun h => by simp at h⟩
      · show getI ((row.set r c).set q (-1)) r = _
        rw [grow2, if_pos rfl]
      · show getI ((row.set r c).set q (-1)) x = _
        rw [grow2, if_neg (by omega), if_neg (hold x hx)]
      · show _ ≤ cnt (hasP (getI ((row.set r c).set q (-1)))) 64
        rw [cnt_strike (hasP (getI row)) q 64 hq (by simp [hasP]; omega), cnt_strike (hasP (getI ((row.set r c).set q (-1)))) r 64 hr (by simp only [hasP, decide_eq_true_eq]; rw [grow2, if_pos rfl]; omega)]
        refine Nat.succ_le_succ (cnt_mono fun x _ hx => ?_)
        simp only [hasP, Bool.and_eq_true, decide_eq_true_eq] at hx ⊢
        have hxr : x ≠ r := by rintro rfl; omega
        rw [grow2, if_neg hxr, if_neg (fun h => hx.2 ((hone x).1 h))]
        exact ⟨hx.1, hxr⟩
    · rw [if_neg h2]
      rcases hm.ok.val r with e2 | ⟨o, e2, ho⟩
      · omega
      have hnum : cnt (hasP (getI row)) 64 = cnt (hasP (getI ((row.set r c).set q (-1)))) 64 + 1 := by
        rw [cnt_strike (hasP (getI row)) q 64 hq (by simp [hasP]; omega)]
        congr 1
        refine cnt_congr fun x _ => ?_
        simp only [hasP]
        rw [grow2]
        by_cases e3 : x = r
        · subst e3
          have : x ≠ q := by omega
          rw [if_pos rfl, e2]; simp [this]
        · rw [if_neg e3]
          by_cases e4 : x = q
          · subst e4; rw [if_pos hqc]; simp
          · rw [if_neg (fun h => e4 ((hone x).1 h))]; simp [e4]
      have hq1 : getI ((row.set r c).set q (-1)) q < 0 := by rw [grow2, if_neg (by omega), if_pos hqc]; omega
      have hr1 : getI ((row.set r c).set q (-1)) r = c := by rw [grow2, if_pos rfl]
      have hold1 : ∀ x, x < r → getI ((row.set r c).set q (-1)) x = getI row x := fun x hx => by rw [grow2, if_neg (by omega), if_neg (hold x hx)]
      have hok2 : NetOk tl (gone.set c true) := hok.setGone c true
      have ggone : ∀ d, getB (gone.set c true) d = if d = c then true else getB gone d := fun d => by
        rw [getB_set, hd.len]
        by_cases e : d = c
        · subst e; simp [hc]
        · rw [if_neg e, if_neg]; rintro ⟨rfl, _⟩; exact e rfl
      have T := takeT_tells hok2 hmat hr hc hq hqr hq1
      dsimp only [forced]
      generalize takeT tl (gone.set c true) ((row.set r c).set q (-1)) ((freed row col r).set c r) r c q = t at *
      generalize hrow1 : (row.set r c).set q (-1) = row1 at *
      generalize hcol1 : (freed row col r).set c r = col1 at *
      have hnok : ¬ okC (gone.set c true) (c : Int) c := fun h => h.2 rfl
      by_cases h3 : t.1 = true
      · simp only [h3, if_true]
        refine ⟨fun _ => ?_, fun h => by simp at h⟩
        obtain ⟨x, a1, a2, a3, M⟩ := T.1 h3
        refine ⟨M.mat, M.fix r c hnok hr1, fun y hy => ?_, by rw [M.num, hnum]; exact Nat.le_refl _⟩
        rcases hm.ok.val y with e3 | ⟨d, e3, _⟩
        · have h4 := M.has y (by omega)
          rw [hold1 y hy] at h4
          rcases M.mat.ok.val y with e4 | ⟨d, e4, _⟩ <;> omega
        · rw [e3]
          refine M.fix y d (fun h => ?_) (by rw [hold1 y hy, e3])
          have h5 := h.1
          rw [ggone] at h5
          split at h5
          · cases h5
          · rw [hd.no y d hy e3] at h5; cases h5
      · have h3' : t.1 = false := by simpa using h3
        simp only [h3', Bool.false_eq_true, if_false]
        refine ⟨fun h => by simp at h, fun _ => ?_⟩
        obtain ⟨b1, b2, R, V, hs, hun, hv⟩ := T.2 h3'
        rw [b1, b2]
        refine ⟨?_, ?_, fun f hf hpre hfr => ?_⟩
        · rw [e2]
          have hl1 : row1.length = 64 := hmat.ok.rowL
          apply eq_of_getI
          · simp [hl1, hrl]
          · intro x _
            rw [getI_set64 (by simp [hl1]) hq, getI_set64 hl1 hr, grow2]
            by_cases e3 : x = q
            · subst e3; rw [if_pos rfl]; exact hqc.symm
            · rw [if_neg e3]
              by_cases e4 : x = r
              · subst e4; rw [if_pos rfl]; exact e2.symm
              · rw [if_neg e4, if_neg e4, if_neg]; intro h; exact e3 ((hone x).1 h)
        · rw [e2, Int.toNat_natCast]
          have hl1 : col1.length = 64 := hmat.ok.colL
          apply eq_of_getI
          · simp [hl1, hcl]
          · intro d _
            rw [getI_set64 (by simp [hl1]) hc, getI_set64 hl1 ho, gcol]
            by_cases e3 : d = c
            · subst e3; rw [if_pos rfl]; exact e1.symm
            · rw [if_neg e3]
              by_cases e4 : d = o
              · subst e4; rw [if_pos rfl]; exact ((hm.both d r).2 e2).symm
              · rw [if_neg e4, if_neg e3, if_neg]
                intro h
                have := (hm.both d r).1 h
                omega
        · -- the rows behind, the columns that are left
          have hokB : ∀ d, okC (gone.set c true) (c : Int) d ↔ (getB gone d = false ∧ d ≠ c) := fun d => by
            unfold okC
            rw [ggone]
            by_cases e : d = c
            · subst e; simp
            · rw [if_neg e]
              constructor
              · intro h; exact ⟨h.1, e⟩
              · intro h; exact ⟨h.1, by omega⟩
          have cov := cov_of_shut hmat (A := fun x => decide (r < x)) (B := fun d => decide (okC (gone.set c true) (c : Int) d)) (R := fun x => decide (R x ∨ 64 ≤ x)) (V := fun d => decide (V d))
            ⟨fun d hd2 => by
              obtain ⟨q2, h5, h6⟩ := hs.col d (by simpa using hd2)
              exact ⟨q2, h5, by simp [h6]⟩, fun x d h5 h6 h7 => by
              have h8 : R x := by
                rcases (show R x ∨ 64 ≤ x by simpa using h5) with h9 | h9
                · exact h9
                · have := (Eg.lt hok h6).1; omega
              have := hs.row x d h8 h6 (by simpa using h7)
              simpa using this⟩
            (fun x h5 h6 => by
              have h5' : r < x := by simpa using h5
              by_cases h7 : x < 64
              · have := hun x h5' h6 h7
                simp [this]
              · simp; right; omega)
            (fun x d h5 h6 => by
              have h7 := (hokB d).1 (hv d (by simpa using h5))
              have : r < x := by
                refine Classical.byContradiction fun h8 => ?_
                by_cases e3 : x = r
                · subst e3
                  rw [hr1] at h6
                  exact h7.2 (by omega)
                · rw [hold1 x (by omega)] at h6
                  rw [hd.no x d (by omega) h6] at h7
                  simp at h7
              simp [this])
          have hf' : IsMat (Eg tl) (fun x => decide (r < x)) (fun d => decide (okC (gone.set c true) (c : Int) d)) (fun x => if r < x then f x else -1) := by
            refine ⟨fun x hx => ?_, fun x hx => ?_, fun x y hx e => ?_⟩
            · by_cases h5 : r < x
              · rw [if_pos h5] at hx
                obtain ⟨d, h6, h7, _⟩ := hf.edge x hx
                refine ⟨d, by rw [if_pos h5]; exact h6, h7, ?_⟩
                have : okC (gone.set c true) (c : Int) d := (hokB d).2 ⟨?_, ?_⟩
                · simpa using this
                · cases h8 : getB gone d
                  · rfl
                  · obtain ⟨y, h9, h10⟩ := hd.yes d h8
                    have := hpre y h9 (.inr (by omega))
                    have := hf.one x y hx (by omega)
                    omega
                · rintro rfl
                  have := hf.one x r hx (by omega)
                  omega
              · rw [if_neg h5] at hx; omega
            · by_cases h5 : r < x
              · simpa using h5
              · rw [if_neg h5] at hx; omega
            · have hx : 0 ≤ (if r < x then f x else -1) := hx
              have e : (if r < x then f x else -1) = (if r < y then f y else -1) := e
              by_cases h5 : r < x
              · rw [if_pos h5] at hx e
                by_cases h6 : r < y
                · rw [if_pos h6] at e; exact hf.one x y hx e
                · rw [if_neg h6] at e; omega
              · rw [if_neg h5] at hx; omega
          have hw := weak (fun x c h => Eg.lt hok h) hf' cov.1
          have e3 : cnt (hasP fun x => if r < x then f x else -1) 64 = cnt (fun x => hasP f x && decide (r < x)) 64 := cnt_congr fun x _ => by
            simp only [hasP]
            by_cases h5 : r < x
            · simp [h5]
            · simp [h5]
          have e4 : cnt (fun x => hasP f x && !decide (r < x)) 64 ≤ cnt (fun x => hasP (getI row1) x && !decide (r < x)) 64 := cnt_mono fun x _ hx => by
            simp only [hasP, Bool.and_eq_true, decide_eq_true_eq, Bool.not_eq_true', decide_eq_false_iff_not] at hx ⊢
            refine ⟨?_, hx.2⟩
            by_cases h5 : x = r
            · subst h5; rw [hr1]; omega
            · rw [hold1 x (by omega), ← hpre x (by omega) (.inl hx.1)]; exact hx.1
          have e5 := cnt_split (hasP f) (fun x => decide (r < x)) 64
          have e6 := cnt_split (hasP (getI row1)) (fun x => decide (r < x)) 64
          have e7 := cov.2
          omega

/-! ### Row by row the least column -/
def mostL (tl : List (List Nat)) (r : Nat) : List Nat → List Int → List Int → List Bool → Option Nat × List Int × List Int × List Bool
  | [], row, col, gone => (none, row, col, gone)
  | c :: l, row, col, gone =>
    if getB gone c = true then mostL tl r l row col gone
    else if getI row r = c then (some c, row, col, gone.set c true)
    else if (takeF tl gone row col r c).1 = true then (some c, (takeF tl gone row col r c).2.1, (takeF tl gone row col r c).2.2, gone.set c true)
    else mostL tl r l (takeF tl gone row col r c).2.1 (takeF tl gone row col r c).2.2 gone
/-- The pairs so far; the net. -/
structure MSt where
  l : List (Nat × Nat)
  row : List Int
  col : List Int
  gone : List Bool
def mostF (tl : List (List Nat)) (p : List Int × List Int) : Nat → MSt
  | 0 => ⟨[], p.1, p.2, noMarks⟩
  | n + 1 =>
    let s := mostF tl p n
    let t := mostL tl n (tl[n]?.getD []) s.row s.col s.gone
    ⟨s.l ++ (match t.1 with | none => [] | some c => [(n, c)]), t.2.1, t.2.2.1, t.2.2.2⟩

/-- The row's column is the least that it can be. -/
def LexAt (E : Nat → Nat → Prop) (K : Nat) (g : Nat → Int) (r : Nat) : Prop :=
  ∀ f, IsMat E (fun _ => true) (fun _ => true) f → K ≤ cnt (hasP f) 64 → (∀ x, x < r → Alike (f x) (g x)) → 0 ≤ f r → 0 ≤ g r ∧ g r ≤ f r
theorem Alike.refl (a : Int) : Alike a a := fun _ => rfl
theorem LexAt.congr {E : Nat → Nat → Prop} {K : Nat} {g g' : Nat → Int} {r : Nat} (h : LexAt E K g r) (hg : ∀ x, x ≤ r → g' x = g x) : LexAt E K g' r := fun f hf hk hp hr => by
  rw [hg r (Nat.le_refl _)]
  exact h f hf hk (fun x hx => by rw [← hg x (by omega)]; exact hp x hx) hr
/-- Two that are both the least are the same. -/
theorem lex_unique {E : Nat → Nat → Prop} {K : Nat} {g g' : Nat → Int} (hg : IsMat E (fun _ => true) (fun _ => true) g) (hg' : IsMat E (fun _ => true) (fun _ => true) g') (hk : K ≤ cnt (hasP g) 64) (hk' : K ≤ cnt (hasP g') 64)
    (h : ∀ r, LexAt E K g r) (h' : ∀ r, LexAt E K g' r) : ∀ r, Alike (g r) (g' r) := by
  intro r
  induction r using Nat.strongRecOn with
  | ind r ih =>
    intro hr
    by_cases e : 0 ≤ g r
    · have a := h' r g hg hk (fun x hx => ih x hx) e
      have b := h r g' hg' hk' (fun x hx hx2 => (ih x hx (by omega)).symm) a.1
      omega
    · have e2 : 0 ≤ g' r := by omega
      have b := h r g' hg' hk' (fun x hx hx2 => (ih x hx (by omega)).symm) e2
      omega

structure MInv (tl : List (List Nat)) (K n : Nat) (row col : List Int) (gone : List Bool) : Prop where
  mat : Mat (Eg tl) row col
  num : cnt (hasP (getI row)) 64 = K
  done : Done row gone n
  lex : ∀ x, x < n → LexAt (Eg tl) K (getI row) x
theorem mostL_tells {tl : List (List Nat)} (hok : ∀ gone : List Bool, gone.length = 64 → NetOk tl gone) {K n : Nat} (hn : n < 64) (hmax : ∀ f, IsMat (Eg tl) (fun _ => true) (fun _ => true) f → cnt (hasP f) 64 ≤ K) {row col : List Int} {gone : List Bool} (h : MInv tl K n row col gone) :
    ∀ l : List Nat, (∀ c ∈ l, c < 64 ∧ Eg tl n c) → l.Pairwise (· < ·) → (∀ d, Eg tl n d → d ∉ l → (getB gone d = true ∨ NoExt (Eg tl) K (getI row) n d) ∧ getI row n ≠ d ∧ ∀ c ∈ l, d < c) →
      MInv tl K (n + 1) (mostL tl n l row col gone).2.1 (mostL tl n l row col gone).2.2.1 (mostL tl n l row col gone).2.2.2 ∧
      (∀ x, x < n → getI (mostL tl n l row col gone).2.1 x = getI row x) ∧
      (match (mostL tl n l row col gone).1 with | none => getI (mostL tl n l row col gone).2.1 n < 0 | some c => getI (mostL tl n l row col gone).2.1 n = c)
  | [], _, _, hd => by
    have hno : getI row n < 0 := by
      refine Classical.byContradiction fun e => ?_
      rcases h.mat.ok.val n with e1 | ⟨c, e1, _⟩
      · omega
      · exact (hd c (h.mat.edge n c e1) (by simp)).2.1 e1
    unfold mostL
    refine ⟨⟨h.mat, h.num, ⟨h.done.len, fun d hg => ?_, fun x d hx e => ?_⟩, fun x hx => ?_⟩, fun x _ => rfl, hno⟩
    · obtain ⟨x, h1, h2⟩ := h.done.yes d hg
      exact ⟨x, by omega, h2⟩
    · have e : getI row x = d := e
      by_cases e2 : x = n
      · subst e2; omega
      · exact h.done.no x d (by omega) e
    · by_cases e2 : x = n
      · subst e2
        intro f hf hk hp hr
        have hp : ∀ y, y < x → Alike (f y) (getI row y) := hp
        exfalso
        obtain ⟨d, h1, h2, _⟩ := hf.edge x hr
        rcases (hd d h2 (by simp)).1 with h3 | h3
        · obtain ⟨y, h4, h5⟩ := h.done.yes d h3
          have := hp y h4 (.inr (by omega))
          have := hf.one x y hr (by omega)
          omega
        · have := h3 f hf hp h1
          omega
      · exact h.lex x (by omega)
  | c :: l, hl, hs, hd => by
    obtain ⟨hc, he⟩ := hl c (by simp)
    have hs' := List.pairwise_cons.1 hs
    -- where the row gets this column
    have got : ∀ row' col', Mat (Eg tl) row' col' → getI row' n = c → (∀ x, x < n → getI row' x = getI row x) → K ≤ cnt (hasP (getI row')) 64 → getB gone c = false → MInv tl K (n + 1) row' col' (gone.set c true) := by
      intro row' col' hm hrc hold hnum hg
      refine ⟨hm, Nat.le_antisymm (hmax _ (hm.isMat (fun _ _ => rfl) fun _ _ _ => rfl)) hnum, ⟨by simp [h.done.len], fun d hgd => ?_, fun x d hx e => ?_⟩, fun x hx => ?_⟩
      · rw [getB_set] at hgd
        split at hgd
        · exact ⟨n, by omega, by rw [hrc]; omega⟩
        · obtain ⟨x, h1, h2⟩ := h.done.yes d hgd
          exact ⟨x, by omega, by rw [hold x h1]; exact h2⟩
      · rw [getB_set, h.done.len]
        by_cases e2 : x = n
        · subst e2
          have : c = d := by omega
          subst this; simp [hc]
        · have := h.done.no x d (by omega) (by rw [← hold x (by omega)]; exact e)
          split
          · rfl
          · exact this
      · by_cases e2 : x = n
        · subst e2
          intro f hf hk hp hr
          refine ⟨by omega, ?_⟩
          obtain ⟨d, h1, h2, _⟩ := hf.edge x hr
          refine Classical.byContradiction fun hlt => ?_
          have hdc : d < c := by omega
          have hnot : d ∉ c :: l := by
            intro hm2
            rcases List.mem_cons.1 hm2 with h3 | h3
            · omega
            · have := hs'.1 d h3; omega
          have hp' : ∀ y, y < x → Alike (f y) (getI row y) := fun y hy => by rw [← hold y hy]; exact hp y hy
          rcases (hd d h2 hnot).1 with h3 | h3
          · obtain ⟨y, h4, h5⟩ := h.done.yes d h3
            have := hp' y h4 (.inr (by omega))
            have := hf.one x y hr (by omega)
            omega
          · have := h3 f hf hp' h1
            omega
        · exact (h.lex x (by omega)).congr fun y hy => hold y (by omega)
    have next : (getB gone c = true ∨ NoExt (Eg tl) K (getI row) n c) → getI row n ≠ c → ∀ d, Eg tl n d → d ∉ l → (getB gone d = true ∨ NoExt (Eg tl) K (getI row) n d) ∧ getI row n ≠ d ∧ ∀ x ∈ l, d < x := by
      intro h1 h2 d h3 h4
      by_cases e : d = c
      · subst e; exact ⟨h1, h2, hs'.1⟩
      · obtain ⟨a, b, c'⟩ := hd d h3 (by simp [e, h4])
        exact ⟨a, b, fun x hx => c' x (by simp [hx])⟩
    have ih := mostL_tells hok hn hmax h l (fun c hc => hl c (by simp [hc])) hs'.2
    unfold mostL
    by_cases h1 : getB gone c = true
    · rw [if_pos h1]
      refine ih (next (.inl h1) fun e => ?_)
      obtain ⟨x, h2, h3⟩ := h.done.yes c h1
      have := (h.mat.both c n).2 e
      have := (h.mat.both c x).2 h3
      omega
    · rw [if_neg h1]
      have hg : getB gone c = false := by simpa using h1
      by_cases h2 : getI row n = c
      · rw [if_pos h2]
        exact ⟨got row col h.mat h2 (fun _ _ => rfl) (by rw [h.num]; exact Nat.le_refl _) hg, fun _ _ => rfl, h2⟩
      · rw [if_neg h2]
        have t := takeF_tells (hok gone h.done.len) h.mat hn hc he hg h.done h2
        by_cases h3 : (takeF tl gone row col n c).1 = true
        · rw [if_pos h3]
          have T := t.1 h3
          exact ⟨got _ _ T.mat T.own T.old (by rw [← h.num]; exact T.num) hg, T.old, T.own⟩
        · rw [if_neg h3]
          obtain ⟨e1, e2, e3⟩ := t.2 (by simpa using h3)
          rw [e1, e2]
          rw [h.num] at e3
          exact ih (next (.inr e3) h2)
/-- The pairs of the first n rows. -/
def pairsTo (row : List Int) (n : Nat) : List (Nat × Nat) := (List.range n).filterMap fun x => if getI row x < 0 then none else some (x, (getI row x).toNat)
theorem pairsTo_succ (row : List Int) (n : Nat) : pairsTo row (n + 1) = pairsTo row n ++ (if getI row n < 0 then [] else [(n, (getI row n).toNat)]) := by
  unfold pairsTo
  rw [List.range_succ, List.filterMap_append]
  congr 1
  by_cases h : getI row n < 0 <;> simp [h]
theorem pairsTo_congr {row row' : List Int} {n : Nat} (h : ∀ x, x < n → getI row' x = getI row x) : pairsTo row' n = pairsTo row n := by
  unfold pairsTo
  have : ∀ l : List Nat, (∀ x ∈ l, x < n) → l.filterMap (fun x => if getI row' x < 0 then none else some (x, (getI row' x).toNat)) = l.filterMap (fun x => if getI row x < 0 then none else some (x, (getI row x).toNat)) := by
    intro l
    induction l with
    | nil => intro _; rfl
    | cons a l ih =>
      intro hl
      rw [List.filterMap_cons, List.filterMap_cons, h a (hl a (by simp)), ih fun x hx => hl x (by simp [hx])]
  exact this _ fun x hx => by simpa using hx
theorem mostF_tells {tl : List (List Nat)} (hok : ∀ gone : List Bool, gone.length = 64 → NetOk tl gone) (hrise : ∀ r : Nat, (tl[r]?.getD []).Pairwise (· < ·)) {K : Nat} (hmax : ∀ f, IsMat (Eg tl) (fun _ => true) (fun _ => true) f → cnt (hasP f) 64 ≤ K) {p : List Int × List Int} (hm : Mat (Eg tl) p.1 p.2) (hk : cnt (hasP (getI p.1)) 64 = K) :
    ∀ n, n ≤ 64 → MInv tl K n (mostF tl p n).row (mostF tl p n).col (mostF tl p n).gone ∧ (mostF tl p n).l = pairsTo (mostF tl p n).row n
  | 0, _ => ⟨⟨hm, hk, ⟨by simp [mostF, noMarks], fun d h => by simp [mostF, noMarks_at] at h, fun x d h => by omega⟩, fun x h => by omega⟩, rfl⟩
  | n + 1, h => by
    obtain ⟨ih, il⟩ := mostF_tells hok hrise hmax hm hk n (by omega)
    have t := mostL_tells hok (show n < 64 by omega) hmax ih (tl[n]?.getD []) (fun c hc => ⟨(Eg.lt (hok noMarks (by simp [noMarks])) (r := n) (c := c) hc).2, hc⟩) (hrise n) (fun d hd hn => absurd hd hn)
    unfold mostF
    dsimp only
    generalize mostF tl p n = s at *
    generalize mostL tl n (tl[n]?.getD []) s.row s.col s.gone = t' at *
    obtain ⟨o, row', col', gone'⟩ := t'
    refine ⟨t.1, ?_⟩
    rw [pairsTo_succ, il, pairsTo_congr (row := s.row) (row' := row') t.2.1]
    congr 1
    have h3 := t.2.2
    cases o with
    | none =>
      have h4 : getI row' n < 0 := h3
      simp [h4]
    | some c =>
      have h4 : getI row' n = c := h3
      simp only [h4]
      rw [if_neg (by omega), Int.toNat_natCast]

/-! ### Who is come to -/
structure VTells (E : Nat → Nat → Prop) (col : List Int) (s : Vis) (l : List Nat) (r : Nat) (res : Vis) : Prop where
  m1 : ∀ x, getB s.1 x = true → getB res.1 x = true
  m2 : ∀ c, getB s.2 c = true → getB res.2 c = true
  own : ∀ c ∈ l, getB res.2 c = true
  rows : ∀ x, getB s.1 x = false → getB res.1 x = true → x = r ∨ ∀ c, E x c → getB res.2 c = true
  cols : ∀ c, getB s.2 c = false → getB res.2 c = true → ∀ q : Nat, getI col c = q → getB res.1 q = true
  least : ∀ (R V : Nat → Prop), (∀ x c, R x → E x c → V c) → (∀ c q : Nat, V c → getI col c = q → R q) → (∀ x, getB s.1 x = true → R x) → (∀ c, getB s.2 c = true → V c) → R r → (∀ x, getB res.1 x = true → R x) ∧ (∀ c, getB res.2 c = true → V c)
theorem visL_tells {E : Nat → Nat → Prop} {n : Nat} {f : Vis → Nat → Vis} (hk : VKeeps f) {row col : List Int} (hp : PairOk row col)
    (hf : ∀ s q, q < 64 → VisOk s → getB s.1 q = false → unmet s.1 < n → ∃ l, (∀ c, E q c → c ∈ l) ∧ VTells E col s l q (f s q) ∧ getB (f s q).1 q = true) {r : Nat} :
    ∀ (l : List Nat), (∀ c ∈ l, c < 64 ∧ E r c) → ∀ s, VisOk s → unmet s.1 < n → VTells E col s l r (visL f col l s)
  | [], _, s, _, _ => by
    unfold visL
    exact ⟨fun _ h => h, fun _ h => h, fun c hc => by simp at hc, fun x h1 h2 => absurd h2 (by simp [h1]), fun c h1 h2 => absurd h2 (by simp [h1]), fun R V _ _ h3 h4 _ => ⟨h3, h4⟩⟩
  | c :: l, hl, s, hs, hu => by
    obtain ⟨hc, he⟩ := hl c (by simp)
    have ih := visL_tells hk hp hf l (fun c hc => hl c (by simp [hc]))
    have hs1 : VisOk (s.1, s.2.set c true) := ⟨hs.rows, by simp [hs.cols]⟩
    have hset : ∀ x, getB (s.2.set c true) x = if x = c then true else getB s.2 x := fun x => by
      rw [getB_set, hs.cols]
      by_cases e : x = c
      · subst e; simp [hc]
      · rw [if_neg e, if_neg]; rintro ⟨rfl, _⟩; exact e rfl
    -- the column alone is marked; whoever has it was come to, or nobody has it
    have alone : (∀ q : Nat, getI col c = q → getB s.1 q = true) → VTells E col s (c :: l) r (visL f col l (s.1, s.2.set c true)) := by
      intro hq
      have t := ih _ hs1 hu
      refine ⟨t.m1, fun d hd => t.m2 d ?_, fun d hd => ?_, t.rows, fun d h1 h2 q hdq => ?_, fun R V a1 a2 a3 a4 a5 => t.least R V a1 a2 a3 (fun d hd => ?_) a5⟩
      · show getB (s.2.set c true) d = true
        rw [hset]; split
        · rfl
        · exact hd
      · rcases List.mem_cons.1 hd with rfl | hd
        · exact t.m2 d (by show getB (s.2.set d true) d = true; rw [hset, if_pos rfl])
        · exact t.own d hd
      · by_cases e : d = c
        · subst e; exact t.m1 q (hq q hdq)
        · exact t.cols d (by show getB (s.2.set c true) d = false; rw [hset, if_neg e]; exact h1) h2 q hdq
      · have hd' : getB (s.2.set c true) d = true := hd
        rw [hset] at hd'
        by_cases e : d = c
        · subst e; exact a1 r d a5 he
        · rw [if_neg e] at hd'; exact a4 d hd'
    unfold visL
    by_cases h1 : getB s.2 c = true
    · rw [if_pos h1]
      have t := ih s hs hu
      refine ⟨t.m1, t.m2, fun d hd => ?_, t.rows, t.cols, t.least⟩
      rcases List.mem_cons.1 hd with rfl | hd
      · exact t.m2 d h1
      · exact t.own d hd
    · rw [if_neg h1]
      by_cases h2 : getI col c < 0
      · rw [if_pos h2]; exact alone fun q hq => by omega
      · rw [if_neg h2]
        rcases hp.colAt hc with e | ⟨q, hq, hq64⟩
        · omega
        rw [hq, Int.toNat_natCast]
        by_cases h3 : getB s.1 q = true
        · rw [if_pos h3]
          exact alone fun q' hq' => by
            have : q' = q := by omega
            subst this; exact h3
        · rw [if_neg h3]
          have h3' : getB s.1 q = false := by simpa using h3
          obtain ⟨lq, hlq, t1, hqr⟩ := hf (s.1, s.2.set c true) q hq64 hs1 h3' hu
          obtain ⟨k1, k2⟩ := hk (s.1, s.2.set c true) q hq64 hs1
          generalize f (s.1, s.2.set c true) q = res at *
          have t := ih res k1 (by have : unmet res.1 ≤ unmet s.1 := k2; omega)
          have hcm : getB res.2 c = true := t1.m2 c (by show getB (s.2.set c true) c = true; rw [hset, if_pos rfl])
          refine ⟨fun x hx => t.m1 x (t1.m1 x hx), fun d hd => t.m2 d (t1.m2 d ?_), fun d hd => ?_, fun x a1 a2 => ?_, fun d a1 a2 q' hdq => ?_, fun R V a1 a2 a3 a4 a5 => ?_⟩
          · show getB (s.2.set c true) d = true
            rw [hset]; split
            · rfl
            · exact hd
          · rcases List.mem_cons.1 hd with rfl | hd
            · exact t.m2 d hcm
            · exact t.own d hd
          · cases e : getB res.1 x
            · exact t.rows x e a2
            · right
              intro d hd
              rcases t1.rows x a1 e with rfl | h5
              · exact t.m2 d (t1.own d (hlq d hd))
              · exact t.m2 d (h5 d hd)
          · cases e : getB res.2 d
            · exact t.cols d e a2 q' hdq
            · by_cases e2 : d = c
              · subst e2
                have : q' = q := by omega
                subst this; exact t.m1 q' hqr
              · exact t.m1 q' (t1.cols d (by show getB (s.2.set c true) d = false; rw [hset, if_neg e2]; exact a1) e q' hdq)
          · have hV : V c := a1 r c a5 he
            obtain ⟨b1, b2⟩ := t1.least R V a1 a2 a3 (fun d hd => by
              have hd' : getB (s.2.set c true) d = true := hd
              rw [hset] at hd'
              by_cases e : d = c
              · subst e; exact hV
              · rw [if_neg e] at hd'; exact a4 d hd') (a2 c q hV hq)
            exact t.least R V a1 a2 b1 b2 a5
theorem visF_tells {tl : List (List Nat)} {gone : List Bool} (hok : NetOk tl gone) {row col : List Int} (hp : PairOk row col) : ∀ n s q, q < 64 → VisOk s → getB s.1 q = false → unmet s.1 < n + 1 →
    ∃ l, (∀ c, Eg tl q c → c ∈ l) ∧ VTells (Eg tl) col s l q (visF tl col n s q) ∧ getB (visF tl col n s q).1 q = true
  | 0, s, q, hq, hs, hm, h => by
    have := unmet_set s.1 q hm (by rw [hs.rows]; exact hq)
    omega
  | n + 1, s, q, hq, hs, hm, h => by
    have hu := unmet_set s.1 q hm (by rw [hs.rows]; exact hq)
    have hset : ∀ x, getB (s.1.set q true) x = if x = q then true else getB s.1 x := fun x => by
      rw [getB_set, hs.rows]
      by_cases e : x = q
      · subst e; simp [hq]
      · rw [if_neg e, if_neg]; rintro ⟨rfl, _⟩; exact e rfl
    unfold visF
    have hs1 : VisOk (s.1.set q true, s.2) := ⟨by simp [hs.rows], hs.cols⟩
    have t := visL_tells (E := Eg tl) (n := n + 1) (visF_keeps hok hp n) hp (fun s q h1 h2 h3 h4 => visF_tells hok hp n s q h1 h2 h3 h4) (r := q) (tl[q]?.getD []) (fun c hc => ⟨(Eg.lt hok (r := q) (c := c) hc).2, hc⟩) (s.1.set q true, s.2) hs1 (by show unmet (s.1.set q true) < n + 1; omega)
    have hq1 : getB (s.1.set q true) q = true := by rw [hset, if_pos rfl]
    refine ⟨_, fun c hc => hc, ⟨fun x hx => t.m1 x ?_, t.m2, t.own, fun x a1 a2 => ?_, t.cols, fun R V a1 a2 a3 a4 a5 => t.least R V a1 a2 (fun x hx => ?_) a4 a5⟩, t.m1 q hq1⟩
    · show getB (s.1.set q true) x = true
      rw [hset]; split
      · rfl
      · exact hx
    · by_cases e : x = q
      · exact .inl e
      · exact t.rows x (by show getB (s.1.set q true) x = false; rw [hset, if_neg e]; exact a1) a2
    · have hx' : getB (s.1.set q true) x = true := hx
      rw [hset] at hx'
      by_cases e : x = q
      · subst e; exact a5
      · rw [if_neg e] at hx'; exact a3 x hx'

/-- From all rows without a pair. -/
def visAll (tl : List (List Nat)) (row col : List Int) : Nat → Vis
  | 0 => (noMarks, noMarks)
  | n + 1 => if getI row n < 0 ∧ getB (visAll tl row col n).1 n = false then visF tl col 64 (visAll tl row col n) n else visAll tl row col n
structure Reached (E : Nat → Nat → Prop) (row col : List Int) (n : Nat) (s : Vis) : Prop where
  ok : VisOk s
  free : ∀ x, x < n → getI row x < 0 → getB s.1 x = true
  rows : ∀ x c, getB s.1 x = true → E x c → getB s.2 c = true
  cols : ∀ c q : Nat, getB s.2 c = true → getI col c = q → getB s.1 q = true
  least : ∀ (R V : Nat → Prop), (∀ x c, R x → E x c → V c) → (∀ c q : Nat, V c → getI col c = q → R q) → (∀ x, x < n → getI row x < 0 → R x) → (∀ x, getB s.1 x = true → R x) ∧ (∀ c, getB s.2 c = true → V c)
theorem visAll_reached {tl : List (List Nat)} {gone : List Bool} (hok : NetOk tl gone) {row col : List Int} (hp : PairOk row col) : ∀ n, n ≤ 64 → Reached (Eg tl) row col n (visAll tl row col n)
  | 0, _ => ⟨⟨by simp [visAll, noMarks], by simp [visAll, noMarks]⟩, fun x h => by omega, fun x c h => by simp [visAll, noMarks_at] at h, fun c q h => by simp [visAll, noMarks_at] at h, fun R V _ _ _ => ⟨fun x h => by simp [visAll, noMarks_at] at h, fun x h => by simp [visAll, noMarks_at] at h⟩⟩
  | n + 1, h => by
    have ih := visAll_reached hok hp n (by omega)
    unfold visAll
    generalize visAll tl row col n = s at *
    by_cases e : getI row n < 0 ∧ getB s.1 n = false
    · rw [if_pos e]
      obtain ⟨l, hl, t, hn⟩ := visF_tells hok hp 64 s n (by omega) ih.ok e.2 (by have := unmet_le s.1; rw [ih.ok.rows] at this; omega)
      have hk := (visF_keeps hok hp 64 s n (by omega) ih.ok).1
      refine ⟨hk, fun x hx hr => ?_, fun x c hx hc => ?_, fun c q hc hq => ?_, fun R V a1 a2 a3 => ?_⟩
      · by_cases e2 : x = n
        · subst e2; exact hn
        · exact t.m1 x (ih.free x (by omega) hr)
      · cases e2 : getB s.1 x
        · rcases t.rows x e2 hx with rfl | h5
          · exact t.own c (hl c hc)
          · exact h5 c hc
        · exact t.m2 c (ih.rows x c e2 hc)
      · cases e2 : getB s.2 c
        · exact t.cols c e2 hc q hq
        · exact t.m1 q (ih.cols c q e2 hq)
      · obtain ⟨b1, b2⟩ := ih.least R V a1 a2 fun x hx hr => a3 x (by omega) hr
        exact t.least R V a1 a2 b1 b2 (a3 n (by omega) e.1)
    · rw [if_neg e]
      refine ⟨ih.ok, fun x hx hr => ?_, ih.rows, ih.cols, fun R V a1 a2 a3 => ih.least R V a1 a2 fun x hx hr => a3 x (by omega) hr⟩
      by_cases e2 : x = n
      · subst e2
        cases e3 : getB s.1 x
        · exact absurd ⟨hr, e3⟩ e
        · rfl
      · exact ih.free x (by omega) hr
/-- What was come to from the rows without a pair: the rows that are not, and the columns that are, are a cover with as many as there are pairs. -/
theorem Reached.shut {tl : List (List Nat)} {row col : List Int} {n : Nat} {s : Vis} (h : Reached (Eg tl) row col n s) {out gone : Nat → Bool} {k : Nat} (ho : ∀ x, out x = false) (hg : ∀ x, gone x = false) (hk : Kuhn tl out gone n k row col) :
    Shut (Eg tl) (fun _ => True) col (fun x => getB s.1 x = true) (fun c => getB s.2 c = true) := by
  obtain ⟨R, V, ⟨hs, _⟩, hun⟩ := hk.shut
  obtain ⟨h1, h2⟩ := h.least R V (fun x c hx hc => hs.row x c hx hc (hg c)) (fun c q hc hq => by
    obtain ⟨q', h3, h4⟩ := hs.col c hc
    have : q' = q := by omega
    subst this; exact h4) (fun x hx hr => hun x hx (ho x) hr)
  refine ⟨fun c hc => ?_, fun x c hx hc _ => h.rows x c hx hc⟩
  obtain ⟨q, h3, h4⟩ := hs.col c (h2 c hc)
  exact ⟨q, h3, h.cols c q hc h3⟩
end Go.Proofs.YtjhomkdnhdhffaaGreat
