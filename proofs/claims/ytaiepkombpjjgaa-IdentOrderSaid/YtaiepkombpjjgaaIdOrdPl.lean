/- The order of ids, of their numbers and of their texts, plainly. -/
import Derived.Test.YtaiepkombpjjgaaIdTxPl
import GoSem.Op.String
namespace Go.Proofs.Ytaiepkombpjjgaa

theorem strOf_list (l : List Int) : (strOfNums l).toList = Lib.bytesOf l := Lib.strOfNums_toList l

theorem num_lt_cons (x y : Int) (a b : List Int) (h : a.length = b.length) (ha : ∀ z ∈ a, 0 ≤ z ∧ z ≤ 255) (hb : ∀ z ∈ b, 0 ≤ z ∧ z ≤ 255) :
    num (x :: a) < num (y :: b) ↔ x < y ∨ (x = y ∧ num a < num b) := by
  have h1 := num_bd a ha
  have h2 := num_bd b hb
  rw [num_cons, num_cons, h]
  rw [h] at h1
  generalize (256 : Int) ^ b.length = p at *
  rcases Int.lt_trichotomy x y with hc | hc | hc
  · have : (x + 1) * p ≤ y * p := Int.mul_le_mul_of_nonneg_right (by omega) (by omega)
    rw [Int.add_mul] at this
    constructor
    · intro _; exact .inl hc
    · intro _; omega
  · subst hc
    constructor
    · intro _; right; exact ⟨rfl, by omega⟩
    · intro h; rcases h with h | ⟨_, h⟩ <;> omega
  · have : (y + 1) * p ≤ x * p := Int.mul_le_mul_of_nonneg_right (by omega) (by omega)
    rw [Int.add_mul] at this
    constructor
    · intro _; omega
    · intro h; rcases h with h | ⟨h, _⟩ <;> omega

theorem hexC_lt (n m : Int) (hn : 0 ≤ n ∧ n ≤ 15) (hm : 0 ≤ m ∧ m ≤ 15) : hexC n < hexC m ↔ n < m := by
  unfold hexC; split <;> split <;> omega
theorem hexC_eq (n m : Int) (hn : 0 ≤ n ∧ n ≤ 15) (hm : 0 ≤ m ∧ m ≤ 15) : hexC n = hexC m ↔ n = m := by
  unfold hexC; split <;> split <;> omega
theorem u8_lt (n m : Int) (hn : 0 ≤ n ∧ n ≤ 255) (hm : 0 ≤ m ∧ m ≤ 255) : UInt8.ofNat n.toNat < UInt8.ofNat m.toNat ↔ n < m := by
  rw [UInt8.lt_iff_toNat_lt, UInt8.toNat_ofNat', UInt8.toNat_ofNat']
  omega
theorem u8_eq (n m : Int) (hn : 0 ≤ n ∧ n ≤ 255) (hm : 0 ≤ m ∧ m ≤ 255) : UInt8.ofNat n.toNat = UInt8.ofNat m.toNat ↔ n = m := by
  constructor
  · intro h
    have := congrArg UInt8.toNat h
    rw [UInt8.toNat_ofNat', UInt8.toNat_ofNat'] at this
    omega
  · rintro rfl; rfl

theorem bytesLess_show : ∀ (a b : List Int), a.length = b.length → (∀ z ∈ a, 0 ≤ z ∧ z ≤ 255) → (∀ z ∈ b, 0 ≤ z ∧ z ≤ 255) → Op.bytesLess (Lib.bytesOf (showL a)) (Lib.bytesOf (showL b)) = decide (num a < num b)
  | [], [], _, _, _ => by simp [showL, Lib.bytesOf, Op.bytesLess]
  | [], _ :: _, h, _, _ => by cases h
  | _ :: _, [], h, _, _ => by cases h
  | x :: a, y :: b, h, ha, hb => by
    have hlen : a.length = b.length := by simpa using h
    have ha' : ∀ z ∈ a, 0 ≤ z ∧ z ≤ 255 := fun z hz => ha z (List.mem_cons_of_mem _ hz)
    have hb' : ∀ z ∈ b, 0 ≤ z ∧ z ≤ 255 := fun z hz => hb z (List.mem_cons_of_mem _ hz)
    have hx := ha x (List.mem_cons_self ..)
    have hy := hb y (List.mem_cons_self ..)
    have ih := bytesLess_show a b hlen ha' hb'
    have e := num_lt_cons x y a b hlen ha' hb'
    have x1 : 0 ≤ x / 16 ∧ x / 16 ≤ 15 := by omega
    have x2 : 0 ≤ x % 16 ∧ x % 16 ≤ 15 := by omega
    have y1 : 0 ≤ y / 16 ∧ y / 16 ≤ 15 := by omega
    have y2 : 0 ≤ y % 16 ∧ y % 16 ≤ 15 := by omega
    have bx1 := hexC_bd _ x1
    have bx2 := hexC_bd _ x2
    have by1 := hexC_bd _ y1
    have by2 := hexC_bd _ y2
    have l1 : UInt8.ofNat (hexC (x / 16)).toNat < UInt8.ofNat (hexC (y / 16)).toNat ↔ x / 16 < y / 16 := by rw [u8_lt _ _ (by omega) (by omega), hexC_lt _ _ x1 y1]
    have q1 : UInt8.ofNat (hexC (x / 16)).toNat = UInt8.ofNat (hexC (y / 16)).toNat ↔ x / 16 = y / 16 := by rw [u8_eq _ _ (by omega) (by omega), hexC_eq _ _ x1 y1]
    have l2 : UInt8.ofNat (hexC (x % 16)).toNat < UInt8.ofNat (hexC (y % 16)).toNat ↔ x % 16 < y % 16 := by rw [u8_lt _ _ (by omega) (by omega), hexC_lt _ _ x2 y2]
    have q2 : UInt8.ofNat (hexC (x % 16)).toNat = UInt8.ofNat (hexC (y % 16)).toNat ↔ x % 16 = y % 16 := by rw [u8_eq _ _ (by omega) (by omega), hexC_eq _ _ x2 y2]
    rw [Bool.eq_iff_iff, decide_eq_true_iff, e]
    simp only [showL, List.flatMap_cons, List.cons_append, List.nil_append, Lib.bytesOf, List.map_cons, Op.bytesLess] at ih ⊢
    rw [ih]
    simp only [Bool.or_eq_true, Bool.and_eq_true, decide_eq_true_eq, beq_iff_eq, l1, q1, l2, q2]
    constructor
    · rintro (h1 | ⟨h1, h2 | ⟨h2, h3⟩⟩)
      · left; omega
      · left; omega
      · right; exact ⟨by omega, h3⟩
    · rintro (h1 | ⟨h1, h2⟩)
      · by_cases hc : x / 16 < y / 16
        · left; exact hc
        · right; refine ⟨by omega, ?_⟩; left; omega
      · subst h1; right; exact ⟨rfl, .inr ⟨rfl, h2⟩⟩

theorem less_ids (a b : List Int) (ha : B8 a) (hb : B8 b) : Op.bytesLess (strOfNums (showL a)).toList (strOfNums (showL b)).toList = decide (num a < num b) := by
  rw [strOf_list, strOf_list]; exact bytesLess_show a b (by rw [ha.1, hb.1]) ha.2 hb.2
theorem same_ids (a b : List Int) (ha : B8 a) (hb : B8 b) : ((strOfNums (showL a)).toList = (strOfNums (showL b)).toList) ↔ a = b := by
  constructor
  · intro h
    have h1 := less_ids a b ha hb
    have h2 := less_ids b a hb ha
    rw [h] at h1
    rw [h] at h2
    have h4 := less_ids b b hb hb
    have e1 : ¬ num a < num b := by
      intro hc
      rw [decide_eq_true hc] at h1
      rw [h1] at h4
      simp at h4
    have e2 : ¬ num b < num a := by
      intro hc
      rw [decide_eq_true hc] at h2
      rw [h2] at h4
      simp at h4
    exact num_inj8 ha hb (by omega)
  · rintro rfl; rfl

theorem showL_max : strOfNums (showL [255, 255, 255, 255, 255, 255, 255, 255]) = ⟨#[102, 102, 102, 102, 102, 102, 102, 102, 102, 102, 102, 102, 102, 102, 102, 102]⟩ := by decide
end Go.Proofs.Ytaiepkombpjjgaa
