/- A row takes a column: what that leaves. Plain Lean. -/
import Derived.Test.YtjhomkdnhdhffaaAltPl
namespace Go.Proofs.Ytjhomkdnhdhffaa

/-! ### A placement, with a column left alone -/
def okC (gone : List Bool) (but : Int) (d : Nat) : Prop := getB gone d = false ∧ (d : Int) ≠ but
theorem met0_at {but : Int} (hb : but = -1 ∨ ∃ b : Nat, but = b ∧ b < 64) (d : Nat) : getB (met0 but) d = decide ((d : Int) = but) := by
  unfold met0
  rcases hb with rfl | ⟨b, rfl, hb⟩
  · rw [if_neg (by omega), noMarks_at]
    simp
  · rw [if_pos (by omega), Int.toNat_natCast, getB_set]
    by_cases e : b = d
    · subst e; simp [noMarks, hb]
    · rw [if_neg (fun h => e h.1), noMarks_at]
      simp; omega
theorem okC_iff {gone : List Bool} {but : Int} (hb : but = -1 ∨ ∃ b : Nat, but = b ∧ b < 64) (d : Nat) : okC gone but d ↔ (getB (met0 but) d = false ∧ getB gone d = false) := by
  unfold okC
  rw [met0_at hb]
  simp [and_comm]
theorem placeF_yes {tl : List (List Nat)} {gone : List Bool} (hok : NetOk tl gone) {row col : List Int} (hm : Mat (Eg tl) row col) {r : Nat} (hr : r < 64) (hun : getI row r < 0) {but : Int} (hb : but = -1 ∨ ∃ b : Nat, but = b ∧ b < 64) (hy : (placeF tl gone row col r but).1 = true) :
    More (Eg tl) (okC gone but) row col r (placeF tl gone row col r but).2.row (placeF tl gone row col r but).2.col := by
  have t := tryF_tells hok 65 ⟨met0 but, row, col⟩ r hr (hm.ok.st but) (by have := unmet_le (met0 but); rw [met0_len] at this; show unmet (met0 but) < 65; omega)
  exact hm.aug hr hun ((t.yes hy).mono fun c hc => (okC_iff hb c).2 hc) (placeF_ok hok hm.ok hr but)
theorem placeF_no {tl : List (List Nat)} {gone : List Bool} (hok : NetOk tl gone) {row col : List Int} (hm : Mat (Eg tl) row col) {r : Nat} (hr : r < 64) {but : Int} (hb : but = -1 ∨ ∃ b : Nat, but = b ∧ b < 64) (hn : (placeF tl gone row col r but).1 = false) :
    (placeF tl gone row col r but).2.row = row ∧ (placeF tl gone row col r but).2.col = col ∧ ∀ R V, Shut (Eg tl) (okC gone but) col R V → (∀ c, V c → okC gone but c) →
      ∃ R' V', Shut (Eg tl) (okC gone but) col R' V' ∧ (∀ x, R x → R' x) ∧ R' r ∧ (∀ c, V' c → okC gone but c) := by
  have t := tryF_tells hok 65 ⟨met0 but, row, col⟩ r hr (hm.ok.st but) (by have := unmet_le (met0 but); rw [met0_len] at this; show unmet (met0 but) < 65; omega)
  exact ⟨t.row hn, t.col hn, fun R V hs hv => hs.fail t hn (fun c hc => hc) (okC_iff hb) hv⟩
theorem tries_tells {tl : List (List Nat)} {gone : List Bool} (hok : NetOk tl gone) {row col : List Int} (hm : Mat (Eg tl) row col) {c : Nat} (hc : c < 64) : ∀ n k, k + n ≤ 64 →
    ((tries tl gone c n k row col).1 = true → ∃ x, k ≤ x ∧ x < 64 ∧ getI row x < 0 ∧ More (Eg tl) (okC gone c) row col x (tries tl gone c n k row col).2.1 (tries tl gone c n k row col).2.2) ∧
    ((tries tl gone c n k row col).1 = false → (tries tl gone c n k row col).2.1 = row ∧ (tries tl gone c n k row col).2.2 = col ∧ ∀ R V, Shut (Eg tl) (okC gone c) col R V → (∀ d, V d → okC gone c d) →
      ∃ R' V', Shut (Eg tl) (okC gone c) col R' V' ∧ (∀ x, R x → R' x) ∧ (∀ x, k ≤ x → x < k + n → getI row x < 0 → R' x) ∧ (∀ d, V' d → okC gone c d))
  | 0, k, _ => ⟨fun h => by simp [tries] at h, fun _ => ⟨rfl, rfl, fun R V hs hv => ⟨R, V, hs, fun _ h => h, fun x h1 h2 => by omega, hv⟩⟩⟩
  | n + 1, k, hk => by
    have ih := tries_tells hok hm hc n (k + 1) (by omega)
    unfold tries
    have hb : (c : Int) = -1 ∨ ∃ b : Nat, (c : Int) = b ∧ b < 64 := .inr ⟨c, rfl, hc⟩
    by_cases h1 : getI row k < 0
    · rw [if_pos h1]
      by_cases h2 : (placeF tl gone row col k c).1 = true
      · rw [if_pos h2]
        exact ⟨fun _ => ⟨k, Nat.le_refl _, by omega, h1, placeF_yes hok hm (by omega) h1 hb h2⟩, fun h => by simp at h⟩
      · rw [if_neg h2]
        obtain ⟨e1, e2, e3⟩ := placeF_no hok hm (by omega) hb (show (placeF tl gone row col k c).1 = false by simpa using h2)
        rw [e1, e2]
        refine ⟨fun h => ?_, fun h => ?_⟩
        · obtain ⟨x, a1, a2, a3, a4⟩ := ih.1 h
          exact ⟨x, by omega, a2, a3, a4⟩
        · obtain ⟨a1, a2, a3⟩ := ih.2 h
          refine ⟨a1, a2, fun R V hs hv => ?_⟩
          obtain ⟨R1, V1, b1, b2, b3, b4⟩ := e3 R V hs hv
          obtain ⟨R2, V2, c1, c2, c3, c4⟩ := a3 R1 V1 b1 b4
          refine ⟨R2, V2, c1, fun x hx => c2 x (b2 x hx), fun x hx1 hx2 hx3 => ?_, c4⟩
          by_cases e : x = k
          · subst e; exact c2 x b3
          · exact c3 x (by omega) (by omega) hx3
    · rw [if_neg h1]
      refine ⟨fun h => ?_, fun h => ?_⟩
      · obtain ⟨x, a1, a2, a3, a4⟩ := ih.1 h
        exact ⟨x, by omega, a2, a3, a4⟩
      · obtain ⟨a1, a2, a3⟩ := ih.2 h
        refine ⟨a1, a2, fun R V hs hv => ?_⟩
        obtain ⟨R2, V2, c1, c2, c3, c4⟩ := a3 R V hs hv
        refine ⟨R2, V2, c1, c2, fun x hx1 hx2 hx3 => ?_, c4⟩
        by_cases e : x = k
        · subst e; exact absurd hx3 h1
        · exact c3 x (by omega) (by omega) hx3
theorem takeT_tells {tl : List (List Nat)} {gone : List Bool} (hok : NetOk tl gone) {row col : List Int} (hm : Mat (Eg tl) row col) {r c q : Nat} (hr : r < 64) (hc : c < 64) (hq : q < 64) (hrq : r < q) (hqn : getI row q < 0) :
    ((takeT tl gone row col r c q).1 = true → ∃ x, r < x ∧ x < 64 ∧ getI row x < 0 ∧ More (Eg tl) (okC gone c) row col x (takeT tl gone row col r c q).2.1 (takeT tl gone row col r c q).2.2) ∧
    ((takeT tl gone row col r c q).1 = false → (takeT tl gone row col r c q).2.1 = row ∧ (takeT tl gone row col r c q).2.2 = col ∧
      ∃ R' V', Shut (Eg tl) (okC gone c) col R' V' ∧ (∀ x, r < x → getI row x < 0 → x < 64 → R' x) ∧ (∀ d, V' d → okC gone c d)) := by
  have hb : (c : Int) = -1 ∨ ∃ b : Nat, (c : Int) = b ∧ b < 64 := .inr ⟨c, rfl, hc⟩
  unfold takeT
  by_cases h2 : (placeF tl gone row col q c).1 = true
  · rw [if_pos h2]
    exact ⟨fun _ => ⟨q, hrq, hq, hqn, placeF_yes hok hm hq hqn hb h2⟩, fun h => by simp at h⟩
  · rw [if_neg h2]
    obtain ⟨e1, e2, e3⟩ := placeF_no hok hm hq hb (show (placeF tl gone row col q c).1 = false by simpa using h2)
    rw [e1, e2]
    have t := tries_tells hok hm hc (63 - r) (r + 1) (by omega)
    refine ⟨fun h => ?_, fun h => ?_⟩
    · obtain ⟨x, a1, a2, a3, a4⟩ := t.1 h
      exact ⟨x, by omega, a2, a3, a4⟩
    · obtain ⟨a1, a2, a3⟩ := t.2 h
      refine ⟨a1, a2, ?_⟩
      obtain ⟨R1, V1, b1, b2, b3, b4⟩ := e3 _ _ (shut_empty _ _ _) (fun _ h => h.elim)
      obtain ⟨R2, V2, c1, c2, c3, c4⟩ := a3 R1 V1 b1 b4
      exact ⟨R2, V2, c1, fun x h1 h2 h3 => c3 x (by omega) (by omega) h2, c4⟩

/-! ### A pair by force -/
theorem getI_set64 {l : List Int} (hl : l.length = 64) {k : Nat} (hk : k < 64) (n : Int) (i : Nat) : getI (l.set k n) i = if i = k then n else getI l i := by
  rw [getI_set, hl]
  by_cases e : i = k
  · subst e; simp [hk]
  · rw [if_neg e, if_neg]; rintro ⟨rfl, _⟩; exact e rfl
theorem eq_of_getI {l m : List Int} (h1 : l.length = m.length) (h : ∀ i, i < l.length → getI l i = getI m i) : l = m := by
  apply List.ext_getElem h1
  intro i hi hi2
  have := h i hi
  unfold getI at this
  rw [List.getElem?_eq_getElem hi, List.getElem?_eq_getElem hi2] at this
  exact this
theorem Mat.force {E : Nat → Nat → Prop} {row col row1 col1 : List Int} (h : Mat E row col) {r c : Nat} (he : E r c) (hok : PairOk row1 col1)
    (h1 : ∀ x, getI row1 x = if x = r then (c : Int) else if getI row x = c then -1 else getI row x) (h2 : ∀ d, getI col1 d = if d = c then (r : Int) else if getI col d = r then -1 else getI col d) : Mat E row1 col1 := by
  refine ⟨hok, fun d x => ?_, fun x d hx => ?_⟩
  · rw [h1, h2]
    by_cases e1 : d = c
    · subst e1
      rw [if_pos rfl]
      by_cases e2 : x = r
      · subst e2; simp
      · rw [if_neg e2]
        split
        · constructor <;> intro h3 <;> omega
        · constructor
          · intro h3; omega
          · intro h3; exact absurd h3 ‹_›
    · rw [if_neg e1]
      have hb := h.both d x
      by_cases e2 : x = r
      · subst e2
        rw [if_pos rfl]
        split
        · constructor <;> intro h3 <;> omega
        · constructor
          · intro h3; exact absurd h3 ‹_›
          · intro h3; omega
      · rw [if_neg e2]
        by_cases e3 : getI col d = r
        · rw [if_pos e3]
          split
          · constructor <;> intro h3 <;> omega
          · constructor
            · intro h3; omega
            · intro h3
              have := hb.2 h3
              omega
        · rw [if_neg e3]
          by_cases e4 : getI row x = c
          · rw [if_pos e4]
            constructor
            · intro h3
              have := hb.1 h3
              omega
            · intro h3; omega
          · rw [if_neg e4]; exact hb
  · rw [h1] at hx
    by_cases e2 : x = r
    · subst e2
      rw [if_pos rfl] at hx
      have : d = c := by omega
      subst this; exact he
    · rw [if_neg e2] at hx
      split at hx
      · omega
      · exact h.edge x d hx

def Alike (a b : Int) : Prop := (0 ≤ a ∨ 0 ≤ b) → a = b
/-- No matching that begins so and gives the row this column has so many pairs. -/
def NoExt (E : Nat → Nat → Prop) (K : Nat) (g : Nat → Int) (r d : Nat) : Prop := ∀ f, IsMat E (fun _ => true) (fun _ => true) f → (∀ x, x < r → Alike (f x) (g x)) → f r = d → cnt (hasP f) 64 < K
/-- The columns of the rows that are done. -/
structure Done (row : List Int) (gone : List Bool) (r : Nat) : Prop where
  len : gone.length = 64
  yes : ∀ d, getB gone d = true → ∃ x, x < r ∧ getI row x = d
  no : ∀ x d : Nat, x < r → getI row x = d → getB gone d = true
structure Took (E : Nat → Nat → Prop) (row : List Int) (r c : Nat) (row' col' : List Int) : Prop where
  mat : Mat E row' col'
  own : getI row' r = c
  old : ∀ x, x < r → getI row' x = getI row x
  num : cnt (hasP (getI row)) 64 ≤ cnt (hasP (getI row')) 64

open Classical in
theorem takeF_tells {tl : List (List Nat)} {gone : List Bool} (hok : NetOk tl gone) {row col : List Int} (hm : Mat (Eg tl) row col) {r c : Nat} (hr : r < 64) (hc : c < 64) (he : Eg tl r c) (hg : getB gone c = false) (hd : Done row gone r) (hrc : getI row r ≠ c) :
    ((takeF tl gone row col r c).1 = true → Took (Eg tl) row r c (takeF tl gone row col r c).2.1 (takeF tl gone row col r c).2.2) ∧
    ((takeF tl gone row col r c).1 = false → (takeF tl gone row col r c).2.1 = row ∧ (takeF tl gone row col r c).2.2 = col ∧ NoExt (Eg tl) (cnt (hasP (getI row)) 64) (getI row) r c) := by
  have hrl := hm.ok.rowL
  have hcl := hm.ok.colL
  -- nobody ahead has the column
  have hold : ∀ x, x < r → getI row x ≠ c := fun x hx e => by
    have := hd.no x c hx e
    rw [hg] at this; cases this
  have gfr : ∀ d, getI (freed row col r) d = if getI col d = r then -1 else getI col d := by
    intro d
    unfold freed
    by_cases e : getI row r < 0
    · rw [if_pos e, if_neg]
      intro h
      have := (hm.both d r).1 h
      omega
    · rw [if_neg e]
      rcases hm.ok.val r with e1 | ⟨o, e1, ho⟩
      · omega
      · rw [e1, Int.toNat_natCast, getI_set64 hcl ho]
        have hb := hm.both d r
        by_cases e2 : d = o
        · subst e2; rw [if_pos rfl, if_pos (hb.2 e1)]
        · rw [if_neg e2, if_neg]
          intro h
          have := hb.1 h
          omega
  have hpo1 : PairOk row (freed row col r) := by
    unfold freed
    split
    · exact hm.ok
    · exact hm.ok.outCol _
  have hfl := hpo1.colL
  have hpf : PairOk (row.set r c) ((freed row col r).set c r) := (hpo1.setRow r hc).setCol c hr
  have gcol : ∀ d, getI ((freed row col r).set c r) d = if d = c then (r : Int) else if getI col d = r then -1 else getI col d := fun d => by
    rw [getI_set64 hfl hc, gfr]
  have grow : ∀ x, getI (row.set r c) x = if x = r then (c : Int) else getI row x := fun x => getI_set64 hrl hr _ _
  unfold takeF
  by_cases h1 : getI col c < 0
  · rw [if_pos h1]
    have hno : ∀ x : Nat, getI row x ≠ c := fun x e => by
      have := (hm.both c x).2 e
      omega
    refine ⟨fun _ => ⟨hm.force he hpf (fun x => ?_) gcol, ?_, fun x hx => ?_, cnt_mono fun x _ hx => ?_⟩, fun h => by simp at h⟩
    · show getI (row.set r c) x = _
      rw [grow, if_neg (hno x)]
    · show getI (row.set r c) r = _
      rw [grow, if_pos rfl]
    · show getI (row.set r c) x = _
      rw [grow, if_neg (by omega)]
    · show hasP (getI (row.set r c)) x = true
      simp only [hasP, decide_eq_true_eq] at hx ⊢
      rw [grow]
      split <;> omega
  · rw [if_neg h1]
    rcases hm.ok.cval c with e1 | ⟨q, e1, hq⟩
    · omega
    have hqc := (hm.both c q).1 e1
    have hqr : r < q := by
      by_cases e : q < r
      · exact absurd hqc (hold q e)
      · have : q ≠ r := by rintro rfl; exact hrc hqc
        omega
    have hone : ∀ x, getI row x = c ↔ x = q := fun x => by
      constructor
      · intro h
        have := (hm.both c x).2 h
        omega
      · rintro rfl; exact hqc
    have hpf2 : PairOk ((row.set r c).set q (-1)) ((freed row col r).set c r) := hpf.outRow q
    have grow2 : ∀ x, getI ((row.set r c).set q (-1)) x = if x = r then (c : Int) else if getI row x = c then -1 else getI row x := fun x => by
      rw [getI_set64 (by simp [hrl]) hq, grow]
      by_cases e2 : x = q
      · subst e2; rw [if_pos rfl, if_neg (by omega), if_pos hqc]
      · rw [if_neg e2]
        split
        · rfl
        · rw [if_neg]; intro h; exact e2 ((hone x).1 h)
    have hmat := hm.force he hpf2 grow2 gcol
    rw [e1, Int.toNat_natCast]
    by_cases h2 : getI row r < 0
    · rw [if_pos h2]
      refine ⟨fun _ => ⟨hmat, ?_, fun x hx => ?_, ?_⟩, fun h => by simp at h⟩
      · show getI ((row.set r c).set q (-1)) r = _
        rw [grow2, if_pos rfl]
      · show getI ((row.set r c).set q (-1)) x = _
        rw [grow2, if_neg (by omega), if_neg (hold x hx)]
      · show _ ≤ cnt (hasP (getI ((row.set r c).set q (-1)))) 64
        rw [cnt_strike (hasP (getI row)) q 64 hq (by simp [hasP]; omega), cnt_strike (hasP (getI ((row.set r c).set q (-1)))) r 64 hr (by simp only [hasP, decide_eq_true_eq]; rw [grow2, if_pos rfl]; omega)]
        refine Nat.succ_le_succ (cnt_mono fun x _ hx => ?_)
        simp only [hasP, Bool.and_eq_true, decide_eq_true_eq] at hx ⊢
        have hxr : x ≠ r := by rintro rfl; omega
        rw [grow2, if_neg hxr, if_neg (fun h => hx.2 ((hone x).1 h))]
        exact ⟨hx.1, hxr⟩
    · rw [if_neg h2]
      rcases hm.ok.val r with e2 | ⟨o, e2, ho⟩
      · omega
      have hnum : cnt (hasP (getI row)) 64 = cnt (hasP (getI ((row.set r c).set q (-1)))) 64 + 1 := by
        rw [cnt_strike (hasP (getI row)) q 64 hq (by simp [hasP]; omega)]
        congr 1
        refine cnt_congr fun x _ => ?_
        simp only [hasP]
        rw [grow2]
        by_cases e3 : x = r
        · subst e3
          have : x ≠ q := by omega
          rw [if_pos rfl, e2]; simp [this]
        · rw [if_neg e3]
          by_cases e4 : x = q
          · subst e4; rw [if_pos hqc]; simp
          · rw [if_neg (fun h => e4 ((hone x).1 h))]; simp [e4]
      have hq1 : getI ((row.set r c).set q (-1)) q < 0 := by rw [grow2, if_neg (by omega), if_pos hqc]; omega
      have hr1 : getI ((row.set r c).set q (-1)) r = c := by rw [grow2, if_pos rfl]
      have hold1 : ∀ x, x < r → getI ((row.set r c).set q (-1)) x = getI row x := fun x hx => by rw [grow2, if_neg (by omega), if_neg (hold x hx)]
      have hok2 : NetOk tl (gone.set c true) := hok.setGone c true
      have ggone : ∀ d, getB (gone.set c true) d = if d = c then true else getB gone d := fun d => by
        rw [getB_set, hd.len]
        by_cases e : d = c
        · subst e; simp [hc]
        · rw [if_neg e, if_neg]; rintro ⟨rfl, _⟩; exact e rfl
      have T := takeT_tells hok2 hmat hr hc hq hqr hq1
      dsimp only [forced]
      generalize takeT tl (gone.set c true) ((row.set r c).set q (-1)) ((freed row col r).set c r) r c q = t at *
      generalize hrow1 : (row.set r c).set q (-1) = row1 at *
      generalize hcol1 : (freed row col r).set c r = col1 at *
      have hnok : ¬ okC (gone.set c true) (c : Int) c := fun h => h.2 rfl
      by_cases h3 : t.1 = true
      · simp only [h3, if_true]
        refine ⟨fun _ => ?_, fun h => by simp at h⟩
        obtain ⟨x, a1, a2, a3, M⟩ := T.1 h3
        refine ⟨M.mat, M.fix r c hnok hr1, fun y hy => ?_, by rw [M.num, hnum]; exact Nat.le_refl _⟩
        rcases hm.ok.val y with e3 | ⟨d, e3, _⟩
        · have h4 := M.has y (by omega)
          rw [hold1 y hy] at h4
          rcases M.mat.ok.val y with e4 | ⟨d, e4, _⟩ <;> omega
        · rw [e3]
          refine M.fix y d (fun h => ?_) (by rw [hold1 y hy, e3])
          have h5 := h.1
          rw [ggone] at h5
          split at h5
          · cases h5
          · rw [hd.no y d hy e3] at h5; cases h5
      · have h3' : t.1 = false := by simpa using h3
        simp only [h3', Bool.false_eq_true, if_false]
        refine ⟨fun h => by simp at h, fun _ => ?_⟩
        obtain ⟨b1, b2, R, V, hs, hun, hv⟩ := T.2 h3'
        rw [b1, b2]
        refine ⟨?_, ?_, fun f hf hpre hfr => ?_⟩
        · rw [e2]
          have hl1 : row1.length = 64 := hmat.ok.rowL
          apply eq_of_getI
          · simp [hl1, hrl]
          · intro x _
            rw [getI_set64 (by simp [hl1]) hq, getI_set64 hl1 hr, grow2]
            by_cases e3 : x = q
            · subst e3; rw [if_pos rfl]; exact hqc.symm
            · rw [if_neg e3]
              by_cases e4 : x = r
              · subst e4; rw [if_pos rfl]; exact e2.symm
              · rw [if_neg e4, if_neg e4, if_neg]; intro h; exact e3 ((hone x).1 h)
        · rw [e2, Int.toNat_natCast]
          have hl1 : col1.length = 64 := hmat.ok.colL
          apply eq_of_getI
          · simp [hl1, hcl]
          · intro d _
            rw [getI_set64 (by simp [hl1]) hc, getI_set64 hl1 ho, gcol]
            by_cases e3 : d = c
            · subst e3; rw [if_pos rfl]; exact e1.symm
            · rw [if_neg e3]
              by_cases e4 : d = o
              · subst e4; rw [if_pos rfl]; exact ((hm.both d r).2 e2).symm
              · rw [if_neg e4, if_neg e3, if_neg]
                intro h
                have := (hm.both d r).1 h
                omega
        · -- the rows behind, the columns that are left
          have hokB : ∀ d, okC (gone.set c true) (c : Int) d ↔ (getB gone d = false ∧ d ≠ c) := fun d => by
            unfold okC
            rw [ggone]
            by_cases e : d = c
            · subst e; simp
            · rw [if_neg e]
              constructor
              · intro h; exact ⟨h.1, e⟩
              · intro h; exact ⟨h.1, by omega⟩
          have cov := cov_of_shut hmat (A := fun x => decide (r < x)) (B := fun d => decide (okC (gone.set c true) (c : Int) d)) (R := fun x => decide (R x ∨ 64 ≤ x)) (V := fun d => decide (V d))
            ⟨fun d hd2 => by
              obtain ⟨q2, h5, h6⟩ := hs.col d (by simpa using hd2)
              exact ⟨q2, h5, by simp [h6]⟩, fun x d h5 h6 h7 => by
              have h8 : R x := by
                rcases (show R x ∨ 64 ≤ x by simpa using h5) with h9 | h9
                · exact h9
                · have := (Eg.lt hok h6).1; omega
              have := hs.row x d h8 h6 (by simpa using h7)
              simpa using this⟩
            (fun x h5 h6 => by
              have h5' : r < x := by simpa using h5
              by_cases h7 : x < 64
              · have := hun x h5' h6 h7
                simp [this]
              · simp; right; omega)
            (fun x d h5 h6 => by
              have h7 := (hokB d).1 (hv d (by simpa using h5))
              have : r < x := by
                refine Classical.byContradiction fun h8 => ?_
                by_cases e3 : x = r
                · subst e3
                  rw [hr1] at h6
                  exact h7.2 (by omega)
                · rw [hold1 x (by omega)] at h6
                  rw [hd.no x d (by omega) h6] at h7
                  simp at h7
              simp [this])
          have hf' : IsMat (Eg tl) (fun x => decide (r < x)) (fun d => decide (okC (gone.set c true) (c : Int) d)) (fun x => if r < x then f x else -1) := by
            refine ⟨fun x hx => ?_, fun x hx => ?_, fun x y hx e => ?_⟩
            · by_cases h5 : r < x
              · rw [if_pos h5] at hx
                obtain ⟨d, h6, h7, _⟩ := hf.edge x hx
                refine ⟨d, by rw [if_pos h5]; exact h6, h7, ?_⟩
                have : okC (gone.set c true) (c : Int) d := (hokB d).2 ⟨?_, ?_⟩
                · simpa using this
                · cases h8 : getB gone d
                  · rfl
                  · obtain ⟨y, h9, h10⟩ := hd.yes d h8
                    have := hpre y h9 (.inr (by omega))
                    have := hf.one x y hx (by omega)
                    omega
                · rintro rfl
                  have := hf.one x r hx (by omega)
                  omega
              · rw [if_neg h5] at hx; omega
            · by_cases h5 : r < x
              · simpa using h5
              · rw [if_neg h5] at hx; omega
            · have hx : 0 ≤ (if r < x then f x else -1) := hx
              have e : (if r < x then f x else -1) = (if r < y then f y else -1) := e
              by_cases h5 : r < x
              · rw [if_pos h5] at hx e
                by_cases h6 : r < y
                · rw [if_pos h6] at e; exact hf.one x y hx e
                · rw [if_neg h6] at e; omega
              · rw [if_neg h5] at hx; omega
          have hw := weak (fun x c h => Eg.lt hok h) hf' cov.1
          have e3 : cnt (hasP fun x => if r < x then f x else -1) 64 = cnt (fun x => hasP f x && decide (r < x)) 64 := cnt_congr fun x _ => by
            simp only [hasP]
            by_cases h5 : r < x
            · simp [h5]
            · simp [h5]
          have e4 : cnt (fun x => hasP f x && !decide (r < x)) 64 ≤ cnt (fun x => hasP (getI row1) x && !decide (r < x)) 64 := cnt_mono fun x _ hx => by
            simp only [hasP, Bool.and_eq_true, decide_eq_true_eq, Bool.not_eq_true', decide_eq_false_iff_not] at hx ⊢
            refine ⟨?_, hx.2⟩
            by_cases h5 : x = r
            · subst h5; rw [hr1]; omega
            · rw [hold1 x (by omega), ← hpre x (by omega) (.inl hx.1)]; exact hx.1
          have e5 := cnt_split (hasP f) (fun x => decide (r < x)) 64
          have e6 := cnt_split (hasP (getI row1)) (fun x => decide (r < x)) 64
          have e7 := cov.2
          omega
end Go.Proofs.Ytjhomkdnhdhffaa
