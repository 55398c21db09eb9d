/- The text of an id, plainly: sixteen digits, there and back. -/
import Derived.Test.YtaiepkombpjjgaaIdPl
import Derived.Laws.BytesArg
namespace Go.Proofs.Ytaiepkombpjjgaa

/-- The digit of a number from 0 to 15. -/
def hexC (n : Int) : Int := if n < 10 then 48 + n else 87 + n
/-- The number of a digit. -/
def val (c : Int) : Option Int := if 48 ≤ c ∧ c ≤ 57 then some (c - 48) else if 97 ≤ c ∧ c ≤ 102 then some (c - 87) else none
def showL (l : List Int) : List Int := l.flatMap fun b => [hexC (b / 16), hexC (b % 16)]

theorem showL_snoc (l : List Int) (k : Nat) (h : k < l.length) : showL (l.take (k + 1)) = showL (l.take k) ++ [hexC (l[k] / 16), hexC (l[k] % 16)] := by
  rw [List.take_succ_eq_append_getElem h]
  simp only [showL, List.flatMap_append, List.flatMap_cons, List.flatMap_nil, List.append_nil]
theorem showL_length (l : List Int) : (showL l).length = 2 * l.length := by
  induction l with
  | nil => rfl
  | cons b l ih => simp [showL] at ih ⊢; omega
theorem hexC_bd (n : Int) (h : 0 ≤ n ∧ n ≤ 15) : 48 ≤ hexC n ∧ hexC n ≤ 102 := by unfold hexC; split <;> omega
theorem val_hexC (n : Int) (h : 0 ≤ n ∧ n ≤ 15) : val (hexC n) = some n := by
  unfold hexC val
  by_cases h1 : n < 10
  · rw [if_pos h1, if_pos (by omega)]; congr 1; omega
  · rw [if_neg h1, if_neg (by omega), if_pos (by omega)]; congr 1; omega
theorem hexC_val (c n : Int) (h : val c = some n) : hexC n = c ∧ 0 ≤ n ∧ n ≤ 15 := by
  unfold val at h
  unfold hexC
  split at h
  · simp only [Option.some.injEq] at h; subst h; rw [if_pos (by omega)]; omega
  · split at h
    · simp only [Option.some.injEq] at h; subst h; rw [if_neg (by omega)]; omega
    · cases h
theorem val_none (c : Int) (h : ∀ j : Nat, j < 16 → hexC j ≠ c) : val c = none := by
  cases hv : val c with
  | none => rfl
  | some n =>
    obtain ⟨h1, h2, h3⟩ := hexC_val c n hv
    exfalso
    refine h n.toNat (by omega) ?_
    rw [← h1]; congr 1; omega

/-- The byte that two digits of a text tell. -/
def pr (s : List Int) (j : Nat) : Option Int := (val (s.getD (2 * j) 0)).bind fun x => (val (s.getD (2 * j + 1) 0)).map fun y => x * 16 + y
def readK (s : List Int) : Nat → Option (List Int)
  | 0 => some []
  | k + 1 => (readK s k).bind fun l => (pr s k).map fun b => l ++ [b]
def readId (s : List Int) : Option (List Int) := if s.length = 16 then readK s 8 else none
/-- What Read answers. -/
def readRes (s : List Int) : List Int × Int := match readId s with | some l => (l, 0) | none => (List.replicate 8 0, 21)

theorem pr_bd (s : List Int) (j : Nat) (b : Int) (h : pr s j = some b) : 0 ≤ b ∧ b ≤ 255 := by
  unfold pr at h
  cases h1 : val (s.getD (2 * j) 0) with
  | none => rw [h1] at h; cases h
  | some x =>
    cases h2 : val (s.getD (2 * j + 1) 0) with
    | none => rw [h1, h2] at h; cases h
    | some y =>
      rw [h1, h2] at h
      simp only [Option.bind_some, Option.map_some, Option.some.injEq] at h
      have := (hexC_val _ _ h1).2
      have := (hexC_val _ _ h2).2
      omega
theorem readK_length (s : List Int) : ∀ (k : Nat) (l : List Int), readK s k = some l → l.length = k
  | 0, l, h => by simp [readK] at h; subst h; rfl
  | k + 1, l, h => by
    simp only [readK] at h
    cases h1 : readK s k with
    | none => rw [h1] at h; cases h
    | some m =>
      cases h2 : pr s k with
      | none => rw [h1, h2] at h; cases h
      | some b =>
        rw [h1, h2] at h
        simp only [Option.bind_some, Option.map_some, Option.some.injEq] at h
        subst h
        simp [readK_length s k m h1]
theorem readK_bytes (s : List Int) : ∀ (k : Nat) (l : List Int), readK s k = some l → ∀ b ∈ l, 0 ≤ b ∧ b ≤ 255
  | 0, l, h => by simp [readK] at h; subst h; simp
  | k + 1, l, h => by
    simp only [readK] at h
    cases h1 : readK s k with
    | none => rw [h1] at h; cases h
    | some m =>
      cases h2 : pr s k with
      | none => rw [h1, h2] at h; cases h
      | some b =>
        rw [h1, h2] at h
        simp only [Option.bind_some, Option.map_some, Option.some.injEq] at h
        subst h
        intro x hx
        rcases List.mem_append.1 hx with hx | hx
        · exact readK_bytes s k m h1 x hx
        · simp at hx; subst hx; exact pr_bd s k _ h2
theorem readK_none (s : List Int) (k : Nat) (h : pr s k = none) (m : Nat) (hm : k < m) : readK s m = none := by
  induction m with
  | zero => omega
  | succ m ih =>
    simp only [readK]
    by_cases e : k = m
    · subst e; rw [h]; cases readK s k <;> rfl
    · rw [ih (by omega)]; rfl
theorem readRes_B8 (s : List Int) : B8 (readRes s).1 := by
  unfold readRes readId
  split
  · rename_i l h
    split at h
    · exact ⟨readK_length s 8 l h, readK_bytes s 8 l h⟩
    · cases h
  · refine ⟨rfl, ?_⟩; decide
theorem readRes_bad (s : List Int) (h : readId s = none) : readRes s = (List.replicate 8 0, 21) := by unfold readRes; rw [h]
theorem readRes_good (s l : List Int) (h : readId s = some l) : readRes s = (l, 0) := by unfold readRes; rw [h]
theorem readId_len (s : List Int) (h : s.length ≠ 16) : readId s = none := if_neg h
theorem readId_none (s : List Int) (k : Nat) (hk : k < 8) (h : pr s k = none) : readId s = none := by
  unfold readId; split
  · exact readK_none s k h 8 hk
  · rfl
theorem readId_some (s l : List Int) (h16 : s.length = 16) (h : readK s 8 = some l) : readId s = some l := by unfold readId; rw [if_pos h16, h]

/-! ### there and back -/
theorem showL_get (l : List Int) : ∀ (k : Nat), k < l.length → (showL l).getD (2 * k) 0 = hexC (l.getD k 0 / 16) ∧ (showL l).getD (2 * k + 1) 0 = hexC (l.getD k 0 % 16) := by
  induction l with
  | nil => intro k hk; cases hk
  | cons b l ih =>
    intro k hk
    cases k with
    | zero => simp [showL]
    | succ k =>
      have := ih k (by simpa using hk)
      have e1 : 2 * (k + 1) = 2 * k + 1 + 1 := by omega
      simp only [showL, List.flatMap_cons, List.cons_append, List.nil_append, e1, List.getD_cons_succ] at this ⊢
      exact this
theorem readK_show (l : List Int) (h : ∀ b ∈ l, 0 ≤ b ∧ b ≤ 255) : ∀ (k : Nat), k ≤ l.length → readK (showL l) k = some (l.take k)
  | 0, _ => by simp [readK]
  | k + 1, hk => by
    have hk' : k < l.length := by omega
    have hb := h l[k] (List.getElem_mem hk')
    obtain ⟨h1, h2⟩ := showL_get l k hk'
    have e : l.getD k 0 = l[k] := by simp [List.getD, hk']
    rw [e] at h1 h2
    have : pr (showL l) k = some l[k] := by
      unfold pr
      rw [h1, h2, val_hexC _ (by omega), val_hexC _ (by omega)]
      simp only [Option.bind_some, Option.map_some, Option.some.injEq]
      omega
    simp only [readK, readK_show l h k (by omega), this, Option.bind_some, Option.map_some]
    rw [List.take_succ_eq_append_getElem hk']
theorem readId_show (l : List Int) (h : B8 l) : readId (showL l) = some l := by
  refine readId_some _ _ (by rw [showL_length, h.1]) ?_
  rw [readK_show l h.2 8 (by rw [h.1]; omega), List.take_of_length_le (by rw [h.1]; omega)]
theorem show_readK (s : List Int) : ∀ (k : Nat) (l : List Int), 2 * k ≤ s.length → readK s k = some l → showL l = s.take (2 * k)
  | 0, l, _, h => by simp [readK] at h; subst h; rfl
  | k + 1, l, hs, h => by
    simp only [readK] at h
    cases h1 : readK s k with
    | none => rw [h1] at h; cases h
    | some m =>
      cases h2 : pr s k with
      | none => rw [h1, h2] at h; cases h
      | some b =>
        rw [h1, h2] at h
        simp only [Option.bind_some, Option.map_some, Option.some.injEq] at h
        subst h
        have ih := show_readK s k m (by omega) h1
        unfold pr at h2
        cases h3 : val (s.getD (2 * k) 0) with
        | none => rw [h3] at h2; cases h2
        | some x =>
          cases h4 : val (s.getD (2 * k + 1) 0) with
          | none => rw [h3, h4] at h2; cases h2
          | some y =>
            rw [h3, h4] at h2
            simp only [Option.bind_some, Option.map_some, Option.some.injEq] at h2
            subst h2
            have hx := hexC_val _ _ h3
            have hy := hexC_val _ _ h4
            have e1 : (x * 16 + y) / 16 = x := by omega
            have e2 : (x * 16 + y) % 16 = y := by omega
            have l1 : 2 * k < s.length := by omega
            have l2 : 2 * k + 1 < s.length := by omega
            have g1 : s.getD (2 * k) 0 = s[2 * k] := by simp [List.getD, l1]
            have g2 : s.getD (2 * k + 1) 0 = s[2 * k + 1] := by simp [List.getD, l2]
            have e3 : 2 * (k + 1) = 2 * k + 1 + 1 := by omega
            rw [e3, List.take_succ_eq_append_getElem l2, List.take_succ_eq_append_getElem l1, ← ih]
            simp only [showL, List.flatMap_append, List.flatMap_cons, List.flatMap_nil, e1, e2, hx.1, hy.1, g1, g2, List.append_assoc, List.cons_append, List.nil_append]
theorem show_readId (s l : List Int) (h : readId s = some l) : showL l = s := by
  unfold readId at h
  split at h
  · rename_i h16
    rw [show_readK s 8 l (by omega) h, List.take_of_length_le (by omega)]
  · cases h

/-! ### strings as lists of numbers -/
def nums (s : ByteArray) : List Int := s.data.toList.map fun c => (c.toNat : Int)
theorem nums_length (s : ByteArray) : (nums s).length = s.size := by show (List.map _ _).length = s.data.size; rw [List.length_map, Array.length_toList]
theorem strOf_nums (s : ByteArray) : strOfNums (nums s) = s := by
  obtain ⟨⟨l⟩⟩ := s
  have e : (l.map fun c => (c.toNat : Int)).map (fun n => UInt8.ofNat n.toNat) = l := by
    rw [List.map_map]
    conv => rhs; rw [← List.map_id l]
    apply List.map_congr_left
    intro c _
    show UInt8.ofNat ((c.toNat : Int).toNat) = c
    rw [Int.toNat_natCast]
    exact UInt8.ofNat_toNat
  show (⟨((l.map fun c => (c.toNat : Int)).map (fun n => UInt8.ofNat n.toNat)).toArray⟩ : ByteArray) = ⟨⟨l⟩⟩
  rw [e]
theorem nums_strOf (l : List Int) (h : ∀ b ∈ l, 0 ≤ b ∧ b ≤ 255) : nums (strOfNums l) = l := by
  simp only [strOfNums, nums, List.map_map]
  conv => rhs; rw [← List.map_id l]
  apply List.map_congr_left
  intro b hb
  have := h b hb
  simp only [Function.comp, UInt8.toNat_ofNat', id_eq]
  omega
theorem showL_bytes (l : List Int) (h : ∀ b ∈ l, 0 ≤ b ∧ b ≤ 255) : ∀ b ∈ showL l, 0 ≤ b ∧ b ≤ 255 := by
  intro b hb
  simp only [showL, List.mem_flatMap] at hb
  obtain ⟨x, hx, hb⟩ := hb
  have := h x hx
  rcases List.mem_cons.1 hb with e | hb
  · have := hexC_bd (x / 16) (by omega); omega
  · rcases List.mem_cons.1 hb with e | hb
    · have := hexC_bd (x % 16) (by omega); omega
    · cases hb
theorem strOf_append (a b : List Int) : strOfNums a ++ strOfNums b = strOfNums (a ++ b) := by
  apply ByteArray.ext
  simp [strOfNums]
end Go.Proofs.Ytaiepkombpjjgaa
