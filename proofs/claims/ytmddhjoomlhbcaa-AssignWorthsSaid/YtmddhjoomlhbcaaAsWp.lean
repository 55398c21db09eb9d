/- What the best pairs are worth, in plain Lean. -/
import Derived.Test.YtmddhjoomlhbcaaAsWo
namespace Go.Proofs.Ytmddhjoomlhbcaa

def prsFrom (tt : List Int) (k d : Nat) : List (Int × Int) := (List.range' k d).filterMap fun r => if getI tt r < 0 then none else some ((r : Int), getI tt r)
theorem prsFrom_zero (tt : List Int) (n : Nat) : prsTo tt n = prsFrom tt 0 n := by unfold prsTo prsFrom; rw [List.range_eq_range']
theorem prsFrom_succ (tt : List Int) (k d : Nat) : prsFrom tt k (d + 1) = (if getI tt k < 0 then [] else [((k : Int), getI tt k)]) ++ prsFrom tt (k + 1) d := by
  unfold prsFrom
  rw [List.range'_succ, List.filterMap_cons]
  by_cases h : getI tt k < 0 <;> simp [h]
/-- The sum of the rows from k on. -/
def valFrom (W : Nat → Nat → Int) (f : Nat → Int) : Nat → Nat → Int
  | _, 0 => 0
  | k, d + 1 => (if f k < 0 then 0 else W k (f k).toNat) + valFrom W f (k + 1) d
theorem valFrom_snoc (W : Nat → Nat → Int) (f : Nat → Int) : ∀ d k, valFrom W f k (d + 1) = valFrom W f k d + (if f (k + d) < 0 then 0 else W (k + d) (f (k + d)).toNat)
  | 0, k => by simp [valFrom]
  | d + 1, k => by
    rw [valFrom, valFrom_snoc W f d (k + 1), valFrom, show k + 1 + d = k + (d + 1) by omega]
    omega
theorem valFrom_zero (W : Nat → Nat → Int) (f : Nat → Int) : ∀ n, valFrom W f 0 n = val W f n
  | 0 => rfl
  | n + 1 => by
    rw [valFrom_snoc, valFrom_zero W f n, Nat.zero_add]; rfl
theorem worth_from {W : Nat → Nat → Int} {R C : Nat} {tt : List Int} (hC : C ≤ 64) (hm : IsM W R C (upTo R tt)) : ∀ (d k : Nat) (last s : Int) (taken : List Bool), k + d = R → last < k → taken.length = 64 → (∀ c : Nat, getB taken c = true → ∃ x, x < k ∧ getI tt x = c) →
    worthL W R C (prsFrom tt k d) last taken s = (s + valFrom W (upTo R tt) k d, 0)
  | 0, k, last, s, taken, _, _, _, _ => by
    show (s, (0 : Int)) = (s + 0, 0)
    rw [Int.add_zero]
  | d + 1, k, last, s, taken, hk, hl, ht, hh => by
    have e : upTo R tt k = getI tt k := by unfold upTo; rw [if_pos (by omega)]
    rw [prsFrom_succ, valFrom, e]
    by_cases hn : getI tt k < 0
    · rw [if_pos hn, if_pos hn, List.nil_append, worth_from hC hm d (k + 1) last s taken (by omega) (by omega) ht (fun c hc => by obtain ⟨x, h1, h2⟩ := hh c hc; exact ⟨x, by omega, h2⟩)]
      congr 1; omega
    · rw [if_neg hn, if_neg hn]
      obtain ⟨c, h1, h2, h3, h4⟩ := hm.at (r := k) (by rw [e]; omega)
      rw [e] at h1
      have htc : getB taken c = false := by
        cases e2 : getB taken c
        · rfl
        · obtain ⟨x, q1, q2⟩ := hh c e2
          have e3 : upTo R tt x = getI tt x := by unfold upTo; rw [if_pos (by omega)]
          have := hm.one x k (by rw [e3]; omega) (by rw [e3, e]; omega)
          omega
      show worthL W R C (((k : Int), getI tt k) :: prsFrom tt (k + 1) d) last taken s = _
      rw [worthL, if_neg]
      · rw [h1]
        simp only [Int.toNat_natCast]
        rw [worth_from hC hm d (k + 1) k _ _ (by omega) (by omega) (by simp [ht]) (fun c' hc' => ?_)]
        · congr 1; omega
        · rw [getB_set, ht] at hc'
          by_cases ec : c = c'
          · subst ec; exact ⟨k, by omega, h1⟩
          · rw [if_neg (fun h => ec h.1)] at hc'
            obtain ⟨x, q1, q2⟩ := hh c' hc'
            exact ⟨x, by omega, q2⟩
      · unfold badP
        rw [h1]
        simp only [Int.toNat_natCast, htc, Bool.or_false, Bool.or_eq_true, decide_eq_true_eq]
        omega
theorem worth_best {g : Gr} (hc : chk g = true) {tt y z : List Int} (h : BestAns g tt y z) : worthF g (prsTo tt g.rows.toNat) = (val (wG g) (upTo g.rows.toNat tt) g.rows.toNat, 0) := by
  have hsz := chk_size hc
  unfold worthF
  rw [if_pos hc, prsFrom_zero, worth_from (by omega) h.best.mat g.rows.toNat 0 (-1) 0 _ (by omega) (by omega) (by simp) (fun c hc => ?_), valFrom_zero, Int.zero_add]
  exfalso
  have : getB (List.replicate 64 false) c = false := by
    unfold getB; rw [List.getElem?_replicate]; split <;> rfl
  rw [this] at hc; cases hc
end Go.Proofs.Ytmddhjoomlhbcaa
