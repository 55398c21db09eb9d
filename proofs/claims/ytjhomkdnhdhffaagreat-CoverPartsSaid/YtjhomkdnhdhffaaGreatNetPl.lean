/- What cover's net does, in plain Lean: ways that alternate, found in depth. -/
import Derived.Test.YtjhomkdnhdhffaaGreatPartsPl
namespace Go.Proofs.YtjhomkdnhdhffaaGreat

/-- What is marked, and who is paired with whom. -/
structure St where
  met : List Bool
  row : List Int
  col : List Int
/-- The row gets the column. -/
def St.pair (s : St) (r c : Nat) : St := { s with row := s.row.set r c, col := s.col.set c r }
def St.mark (s : St) (c : Nat) : St := { s with met := s.met.set c true }
def getB (l : List Bool) (c : Nat) : Bool := l[c]?.getD false
def getI (l : List Int) (c : Nat) : Int := l[c]?.getD (-1)

/-- A row's columns, one behind the other. -/
def tryL (rec : St → Nat → Bool × St) (gone : List Bool) (r : Nat) : List Nat → St → Bool × St
  | [], s => (false, s)
  | c :: l, s =>
    if (getB s.met c || getB gone c) = true then tryL rec gone r l s
    else if getI s.col c < 0 then (true, (s.mark c).pair r c)
    else
      if (rec (s.mark c) (getI s.col c).toNat).1 = true then (true, (rec (s.mark c) (getI s.col c).toNat).2.pair r c)
      else tryL rec gone r l (rec (s.mark c) (getI s.col c).toNat).2
def tryF (tl : List (List Nat)) (gone : List Bool) : Nat → St → Nat → Bool × St
  | 0, s, _ => (false, s)
  | k + 1, s, r => tryL (tryF tl gone k) gone r (tl[r]?.getD []) s

/-- All indices in bounds. -/
structure NetOk (tl : List (List Nat)) (gone : List Bool) : Prop where
  len : tl.length = 64
  cols : ∀ (r : Nat) l, tl[r]? = some l → (∀ c ∈ l, c < 64) ∧ l.length ≤ 64
  gone : gone.length = 64
structure StOk (s : St) : Prop where
  met : s.met.length = 64
  row : s.row.length = 64
  col : s.col.length = 64
  rows : ∀ (i : Nat) x, s.row[i]? = some x → x = -1 ∨ ∃ c : Nat, x = c ∧ c < 64
  cols : ∀ (i : Nat) x, s.col[i]? = some x → x = -1 ∨ ∃ r : Nat, x = r ∧ r < 64
def unmet (l : List Bool) : Nat := (l.filter (!·)).length

theorem entries_set {l : List Int} (h : ∀ (i : Nat) x, l[i]? = some x → x = -1 ∨ ∃ c : Nat, x = c ∧ c < 64) (k : Nat) {n : Nat} (hn : n < 64) : ∀ (i : Nat) x, (l.set k (n : Int))[i]? = some x → x = -1 ∨ ∃ c : Nat, x = c ∧ c < 64 := by
  intro i x hx
  rw [List.getElem?_set] at hx
  split at hx
  · split at hx
    · simp at hx; exact .inr ⟨n, hx.symm, hn⟩
    · cases hx
  · exact h i x hx
theorem entries_out {l : List Int} (h : ∀ (i : Nat) x, l[i]? = some x → x = -1 ∨ ∃ c : Nat, x = c ∧ c < 64) (k : Nat) : ∀ (i : Nat) x, (l.set k (-1))[i]? = some x → x = -1 ∨ ∃ c : Nat, x = c ∧ c < 64 := by
  intro i x hx
  rw [List.getElem?_set] at hx
  split at hx
  · split at hx
    · simp at hx; exact .inl hx.symm
    · cases hx
  · exact h i x hx
theorem StOk.mark {s : St} (h : StOk s) (c : Nat) : StOk (s.mark c) := ⟨by simp [St.mark, h.met], h.row, h.col, h.rows, h.cols⟩
theorem StOk.pair {s : St} (h : StOk s) {r c : Nat} (hr : r < 64) (hc : c < 64) : StOk (s.pair r c) :=
  ⟨h.met, by simp [St.pair, h.row], by simp [St.pair, h.col], entries_set h.rows r hc, entries_set h.cols c hr⟩

theorem unmet_set : ∀ (l : List Bool) (c : Nat), getB l c = false → c < l.length → unmet (l.set c true) + 1 = unmet l
  | [], c, _, h => by simp at h
  | b :: l, 0, h, _ => by
    simp [getB] at h
    subst h
    simp [unmet]
  | b :: l, c + 1, h, hl => by
    have := unmet_set l c (by simpa [getB] using h) (by simpa using hl)
    cases b <;> simp [unmet] at this ⊢ <;> omega

theorem StOk.colAt {s : St} (h : StOk s) {c : Nat} (hc : c < 64) (hn : ¬ getI s.col c < 0) : ∃ q : Nat, getI s.col c = q ∧ q < 64 := by
  have hl := h.col
  have hx : s.col[c]? = some (s.col[c]'(by omega)) := List.getElem?_eq_getElem (by omega)
  have e : getI s.col c = s.col[c]'(by omega) := by unfold getI; rw [hx]; rfl
  rcases h.cols c _ hx with h1 | ⟨q, h1, h2⟩
  · rw [e, h1] at hn; omega
  · exact ⟨q, by rw [e]; exact h1, h2⟩

/-- What a search leaves: all in bounds, no more unmarked than before. -/
def Keeps (f : St → Nat → Bool × St) : Prop := ∀ s r, r < 64 → StOk s → StOk (f s r).2 ∧ unmet (f s r).2.met ≤ unmet s.met
theorem mark_unmet {s : St} (h : StOk s) {c : Nat} (hc : c < 64) (hm : getB s.met c = false) : unmet (s.mark c).met + 1 = unmet s.met := unmet_set _ _ hm (by rw [h.met]; exact hc)
theorem tryL_keeps {f : St → Nat → Bool × St} (hf : Keeps f) {gone : List Bool} {r : Nat} (hr : r < 64) : ∀ (l : List Nat), (∀ c ∈ l, c < 64) → ∀ s, StOk s → StOk (tryL f gone r l s).2 ∧ unmet (tryL f gone r l s).2.met ≤ unmet s.met
  | [], _, s, h => ⟨h, Nat.le_refl _⟩
  | c :: l, hl, s, h => by
    have hc : c < 64 := hl c (by simp)
    have ih := tryL_keeps hf (gone := gone) hr l (fun c hc => hl c (by simp [hc]))
    unfold tryL
    by_cases h1 : (getB s.met c || getB gone c) = true
    · rw [if_pos h1]; exact ih s h
    · rw [if_neg h1]
      have hm : getB s.met c = false := by
        cases e : getB s.met c
        · rfl
        · rw [e] at h1; simp at h1
      have hu := mark_unmet h hc hm
      by_cases h2 : getI s.col c < 0
      · rw [if_pos h2]
        exact ⟨(h.mark c).pair hr hc, by show unmet (s.mark c).met ≤ _; omega⟩
      · rw [if_neg h2]
        obtain ⟨q, hq, hq64⟩ := h.colAt hc h2
        rw [hq, Int.toNat_natCast]
        obtain ⟨k1, k2⟩ := hf (s.mark c) q hq64 (h.mark c)
        split
        · exact ⟨k1.pair hr hc, by show unmet (f (s.mark c) q).2.met ≤ _; omega⟩
        · obtain ⟨i1, i2⟩ := ih _ k1
          exact ⟨i1, by omega⟩
theorem tryF_keeps {tl : List (List Nat)} {gone : List Bool} (hok : NetOk tl gone) : ∀ k, Keeps (tryF tl gone k)
  | 0 => fun s r _ h => ⟨h, Nat.le_refl _⟩
  | k + 1 => fun s r hr h => by
    unfold tryF
    obtain ⟨l, hl⟩ : ∃ l, tl[r]? = some l := ⟨tl[r]'(by rw [hok.len]; exact hr), by simp [hok.len, hr]⟩
    rw [hl]
    exact tryL_keeps (tryF_keeps hok k) hr l (hok.cols r l hl).1 s h

/-! ### place -/
def noMarks : List Bool := List.replicate 64 false
/-- The marks at the beginning: one column is left alone, or none. -/
def met0 (but : Int) : List Bool := if 0 ≤ but then noMarks.set but.toNat true else noMarks
def placeF (tl : List (List Nat)) (gone : List Bool) (row col : List Int) (r : Nat) (but : Int) : Bool × St := tryF tl gone 65 ⟨met0 but, row, col⟩ r
/-- Who is paired with whom, in bounds. -/
structure PairOk (row col : List Int) : Prop where
  rowL : row.length = 64
  colL : col.length = 64
  rows : ∀ (i : Nat) x, row[i]? = some x → x = -1 ∨ ∃ c : Nat, x = c ∧ c < 64
  cols : ∀ (i : Nat) x, col[i]? = some x → x = -1 ∨ ∃ r : Nat, x = r ∧ r < 64
theorem met0_len (but : Int) : (met0 but).length = 64 := by unfold met0 noMarks; split <;> simp
theorem PairOk.st {row col : List Int} (h : PairOk row col) (but : Int) : StOk ⟨met0 but, row, col⟩ := ⟨met0_len but, h.rowL, h.colL, h.rows, h.cols⟩
theorem StOk.pairOk {s : St} (h : StOk s) : PairOk s.row s.col := ⟨h.row, h.col, h.rows, h.cols⟩
theorem unmet_le (l : List Bool) : unmet l ≤ l.length := List.length_filter_le _ _
theorem placeF_ok {tl : List (List Nat)} {gone : List Bool} (hok : NetOk tl gone) {row col : List Int} (h : PairOk row col) {r : Nat} (hr : r < 64) (but : Int) : PairOk (placeF tl gone row col r but).2.row (placeF tl gone row col r but).2.col :=
  (tryF_keeps hok 65 _ r hr (h.st but)).1.pairOk

/-! ### take -/
/-- One of the rows behind gets a column, if one of those without a pair can. -/
def tries (tl : List (List Nat)) (gone : List Bool) (c : Int) : Nat → Nat → List Int → List Int → Bool × List Int × List Int
  | 0, _, row, col => (false, row, col)
  | n + 1, k, row, col =>
    if getI row k < 0 then
      if (placeF tl gone row col k c).1 = true then (true, (placeF tl gone row col k c).2.row, (placeF tl gone row col k c).2.col)
      else tries tl gone c n (k + 1) (placeF tl gone row col k c).2.row (placeF tl gone row col k c).2.col
    else tries tl gone c n (k + 1) row col
/-- The row gives up its column, if it has one. -/
def freed (row col : List Int) (r : Nat) : List Int := if getI row r < 0 then col else col.set (getI row r).toNat (-1)
/-- What is left if the row gets the column by force. -/
def forced (row col : List Int) (r c : Nat) : List Int × List Int := (row.set r c, (freed row col r).set c r)
/-- Who had the column, or one of the rows behind, gets another one. -/
def takeT (tl : List (List Nat)) (gone : List Bool) (row col : List Int) (r c q : Nat) : Bool × List Int × List Int :=
  if (placeF tl gone row col q c).1 = true then (true, (placeF tl gone row col q c).2.row, (placeF tl gone row col q c).2.col)
  else tries tl gone c (63 - r) (r + 1) (placeF tl gone row col q c).2.row (placeF tl gone row col q c).2.col
def takeF (tl : List (List Nat)) (gone : List Bool) (row col : List Int) (r c : Nat) : Bool × List Int × List Int :=
  if getI col c < 0 then (true, forced row col r c)
  else if getI row r < 0 then (true, (forced row col r c).1.set (getI col c).toNat (-1), (forced row col r c).2)
  else
    let t := takeT tl (gone.set c true) ((forced row col r c).1.set (getI col c).toNat (-1)) (forced row col r c).2 r c (getI col c).toNat
    if t.1 = true then t
    else (false, (t.2.1.set r (getI row r)).set (getI col c).toNat c, (t.2.2.set (getI row r).toNat r).set c (getI col c))

theorem PairOk.rowAt {row col : List Int} (h : PairOk row col) {r : Nat} (hr : r < 64) : getI row r = -1 ∨ ∃ o : Nat, getI row r = o ∧ o < 64 := by
  have hl := h.rowL
  have hx : row[r]? = some (row[r]'(by omega)) := List.getElem?_eq_getElem (by omega)
  have e : getI row r = row[r]'(by omega) := by unfold getI; rw [hx]; rfl
  rw [e]; exact h.rows r _ hx
theorem PairOk.colAt {row col : List Int} (h : PairOk row col) {c : Nat} (hc : c < 64) : getI col c = -1 ∨ ∃ o : Nat, getI col c = o ∧ o < 64 := by
  have hl := h.colL
  have hx : col[c]? = some (col[c]'(by omega)) := List.getElem?_eq_getElem (by omega)
  have e : getI col c = col[c]'(by omega) := by unfold getI; rw [hx]; rfl
  rw [e]; exact h.cols c _ hx
theorem PairOk.setRow {row col : List Int} (h : PairOk row col) (k : Nat) {n : Nat} (hn : n < 64) : PairOk (row.set k n) col := ⟨by simp [h.rowL], h.colL, entries_set h.rows k hn, h.cols⟩
theorem PairOk.setCol {row col : List Int} (h : PairOk row col) (k : Nat) {n : Nat} (hn : n < 64) : PairOk row (col.set k n) := ⟨h.rowL, by simp [h.colL], h.rows, entries_set h.cols k hn⟩
theorem PairOk.outRow {row col : List Int} (h : PairOk row col) (k : Nat) : PairOk (row.set k (-1)) col := ⟨by simp [h.rowL], h.colL, entries_out h.rows k, h.cols⟩
theorem PairOk.outCol {row col : List Int} (h : PairOk row col) (k : Nat) : PairOk row (col.set k (-1)) := ⟨h.rowL, by simp [h.colL], h.rows, entries_out h.cols k⟩
theorem NetOk.setGone {tl : List (List Nat)} {gone : List Bool} (h : NetOk tl gone) (c : Nat) (b : Bool) : NetOk tl (gone.set c b) := ⟨h.len, h.cols, by simp [h.gone]⟩
theorem tries_ok {tl : List (List Nat)} {gone : List Bool} (hok : NetOk tl gone) (c : Int) : ∀ (n k : Nat) (row col : List Int), k + n ≤ 64 → PairOk row col → PairOk (tries tl gone c n k row col).2.1 (tries tl gone c n k row col).2.2
  | 0, _, _, _, _, h => h
  | n + 1, k, row, col, hk, h => by
    unfold tries
    split
    · split
      · exact placeF_ok hok h (by omega) c
      · exact tries_ok hok c n (k + 1) _ _ (by omega) (placeF_ok hok h (by omega) c)
    · exact tries_ok hok c n (k + 1) _ _ (by omega) h
end Go.Proofs.YtjhomkdnhdhffaaGreat
