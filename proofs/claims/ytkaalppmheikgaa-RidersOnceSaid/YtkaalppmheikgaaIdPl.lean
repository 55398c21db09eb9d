/- Ids and numbers, plainly: eight bytes as a number and back, their order. -/
import Derived.Lib.Bytealg
import Derived.Lib.Bytes
import Derived.Laws.Bits
import Derived.IntWalk
namespace Go.Proofs.Ytkaalppmheikgaa

/-- Eight bytes. -/
def B8 (l : List Int) : Prop := l.length = 8 ∧ ∀ b ∈ l, 0 ≤ b ∧ b ≤ 255
/-- The number of a list of bytes. -/
def num (l : List Int) : Int := l.foldl (fun n b => n * 256 + b) 0
/-- The last k bytes of a number. -/
def ofK : Nat → Int → List Int
  | 0, _ => []
  | k + 1, n => (n / 256 ^ k) % 256 :: ofK k n
def bys (l : List Int) : Array Value := (l.map (Value.int .u8)).toArray

theorem bys_size (l : List Int) : (bys l).size = l.length := by simp [bys]

theorem ofK_length : ∀ (k : Nat) (n : Int), (ofK k n).length = k
  | 0, _ => rfl
  | k + 1, n => by simp [ofK, ofK_length k n]
theorem ofK_bytes : ∀ (k : Nat) (n : Int), ∀ b ∈ ofK k n, 0 ≤ b ∧ b ≤ 255
  | 0, _, b, h => by cases h
  | k + 1, n, b, h => by
    simp only [ofK, List.mem_cons] at h
    rcases h with rfl | h
    · generalize n / 256 ^ k = m; omega
    · exact ofK_bytes k n b h
theorem ofK_B8 (n : Int) : B8 (ofK 8 n) := ⟨ofK_length 8 n, ofK_bytes 8 n⟩

theorem num_fold (l : List Int) : ∀ n : Int, l.foldl (fun n b => n * 256 + b) n = n * 256 ^ l.length + num l := by
  unfold num
  induction l with
  | nil => intro n; simp
  | cons b l ih =>
    intro n
    simp only [List.foldl_cons, List.length_cons]
    rw [ih (n * 256 + b), ih (0 * 256 + b)]
    rw [Int.pow_succ]
    generalize (256 : Int) ^ l.length = p
    rw [Int.add_mul, Int.add_mul, Int.zero_mul, Int.zero_mul, Int.zero_add, Int.mul_assoc, Int.mul_comm 256 p, ← Int.add_assoc]
theorem num_cons (b : Int) (l : List Int) : num (b :: l) = b * 256 ^ l.length + num l := by
  have := num_fold l b
  unfold num at *
  simpa using this
theorem num_snoc (l : List Int) (k : Nat) (hk : k < l.length) : num (l.take (k + 1)) = num (l.take k) * 256 + l[k] := by
  unfold num
  rw [List.take_succ_eq_append_getElem hk, List.foldl_append]; rfl
theorem pow_pos (k : Nat) : 0 < (256 : Int) ^ k := Int.pow_pos (by omega)
theorem num_bd : ∀ (l : List Int), (∀ b ∈ l, 0 ≤ b ∧ b ≤ 255) → 0 ≤ num l ∧ num l < 256 ^ l.length
  | [], _ => by simp [num]
  | b :: l, h => by
    have h1 := num_bd l (fun x hx => h x (List.mem_cons_of_mem _ hx))
    have h2 := h b (List.mem_cons_self ..)
    rw [num_cons, List.length_cons, Int.pow_succ]
    have hp := pow_pos l.length
    generalize (256 : Int) ^ l.length = p at *
    constructor
    · have := Int.mul_nonneg h2.1 (Int.le_of_lt hp); omega
    · have : b * p ≤ 255 * p := Int.mul_le_mul_of_nonneg_right h2.2 (Int.le_of_lt hp)
      omega
theorem pow8 : (256 : Int) ^ 8 = 18446744073709551616 := by decide
theorem num_bd8 {l : List Int} (h : B8 l) : 0 ≤ num l ∧ num l < 18446744073709551616 := by
  have := num_bd l h.2
  rw [h.1, pow8] at this
  exact this
theorem pow_le {k m : Nat} (h : k ≤ m) : (256 : Int) ^ k ≤ 256 ^ m := by
  obtain ⟨d, rfl⟩ := Nat.exists_eq_add_of_le h
  rw [Int.pow_add]
  have h1 := pow_pos k
  have h2 := pow_pos d
  generalize (256 : Int) ^ k = p at *
  generalize (256 : Int) ^ d = q at *
  have := Int.mul_le_mul_of_nonneg_left (show (1 : Int) ≤ q by omega) (Int.le_of_lt h1)
  omega
theorem num_take_bd {l : List Int} (h : B8 l) (k : Nat) (hk : k ≤ 7) : 0 ≤ num (l.take k) ∧ num (l.take k) < 72057594037927936 := by
  have h1 := num_bd (l.take k) (fun b hb => h.2 b (List.mem_of_mem_take hb))
  have h2 : (l.take k).length ≤ 7 := by rw [List.length_take]; omega
  have h3 := pow_le h2
  have h4 : (256 : Int) ^ 7 = 72057594037927936 := by decide
  omega

theorem or_byte (n b : Int) (h : 0 ≤ n ∧ n < 72057594037927936) (hb : 0 ≤ b ∧ b ≤ 255) : bits .or .u64 (IntKind.u64.wrap (n * 256)) b = n * 256 + b := by
  rw [IntWalk.u64_in _ (by omega)]
  obtain ⟨m, rfl⟩ := Int.eq_ofNat_of_zero_le h.1
  obtain ⟨c, rfl⟩ := Int.eq_ofNat_of_zero_le hb.1
  have e : (BitVec.ofInt 64 ((m : Int) * 256) ||| BitVec.ofInt 64 (c : Int)).toNat = m * 256 + c := by
    rw [BitVec.toNat_or]
    have e1 : ((m : Int) * 256) = ((m * 256 : Nat) : Int) := by omega
    rw [e1, BitVec.ofInt_natCast, BitVec.ofInt_natCast, BitVec.toNat_ofNat, BitVec.toNat_ofNat, Nat.mod_eq_of_lt (by omega), Nat.mod_eq_of_lt (by omega)]
    have : m * 256 = m <<< 8 := by rw [Nat.shiftLeft_eq]
    rw [this, ← Nat.shiftLeft_add_eq_or_of_lt (by omega : c < 2 ^ 8)]
  show IntKind.u64.wrap (((BitVec.ofInt 64 ((m : Int) * 256) ||| BitVec.ofInt 64 (c : Int)).toNat : Nat) : Int) = _
  rw [e, IntWalk.u64_in _ (by omega)]
  omega

/-! ### there and back -/
theorem div_pow_mod (n : Int) (k : Nat) : n % 256 ^ (k + 1) = (n / 256 ^ k) % 256 * 256 ^ k + n % 256 ^ k := by
  have hp := pow_pos k
  rw [Int.pow_succ]
  generalize (256 : Int) ^ k = p at *
  have e1 := Int.mul_ediv_add_emod n p
  have e2 := Int.mul_ediv_add_emod n (p * 256)
  have e3 := Int.mul_ediv_add_emod (n / p) 256
  have e4 : n / (p * 256) = n / p / 256 := by rw [Int.ediv_ediv_of_nonneg (Int.le_of_lt hp)]
  rw [e4] at e2
  generalize n / p / 256 = q at *
  generalize n / p = r at *
  generalize n % (p * 256) = s at *
  generalize n % p = t at *
  generalize r % 256 = u at *
  have : r = 256 * q + u := by omega
  subst this
  have h1 : p * (256 * q + u) = p * 256 * q + u * p := by rw [Int.mul_add, Int.mul_assoc, Int.mul_comm p u]
  omega
theorem num_ofK (n : Int) (h : 0 ≤ n) : ∀ k, num (ofK k n) = n % 256 ^ k
  | 0 => by simp [ofK, num, Int.emod_one]
  | k + 1 => by
    rw [ofK, num_cons, ofK_length, num_ofK n h k, div_pow_mod n k]
theorem num_ofK8 (n : Int) (h : 0 ≤ n) (h2 : n < 18446744073709551616) : num (ofK 8 n) = n := by
  rw [num_ofK n h 8, pow8, Int.emod_eq_of_lt h h2]
theorem num_inj : ∀ (l m : List Int), l.length = m.length → (∀ b ∈ l, 0 ≤ b ∧ b ≤ 255) → (∀ b ∈ m, 0 ≤ b ∧ b ≤ 255) → num l = num m → l = m
  | [], [], _, _, _, _ => rfl
  | [], _ :: _, h, _, _, _ => by cases h
  | _ :: _, [], h, _, _, _ => by cases h
  | a :: l, b :: m, h, hl, hm, e => by
    rw [num_cons, num_cons] at e
    have hlen : l.length = m.length := by simpa using h
    have h1 := num_bd l (fun x hx => hl x (List.mem_cons_of_mem _ hx))
    have h2 := num_bd m (fun x hx => hm x (List.mem_cons_of_mem _ hx))
    have ih := num_inj l m hlen (fun x hx => hl x (List.mem_cons_of_mem _ hx)) (fun x hx => hm x (List.mem_cons_of_mem _ hx))
    rw [hlen] at h1 e
    generalize (256 : Int) ^ m.length = p at *
    have hab : a = b := by
      rcases Int.lt_trichotomy a b with hlt | heq | hgt
      · exfalso
        have : (a + 1) * p ≤ b * p := Int.mul_le_mul_of_nonneg_right (by omega) (by omega)
        rw [Int.add_mul] at this
        omega
      · exact heq
      · exfalso
        have : (b + 1) * p ≤ a * p := Int.mul_le_mul_of_nonneg_right (by omega) (by omega)
        rw [Int.add_mul] at this
        omega
    subst hab
    rw [ih (by omega)]
theorem num_inj8 {l m : List Int} (hl : B8 l) (hm : B8 m) (e : num l = num m) : l = m := num_inj l m (by rw [hl.1, hm.1]) hl.2 hm.2 e
theorem ofK_num {l : List Int} (h : B8 l) : ofK 8 (num l) = l :=
  num_inj8 (ofK_B8 _) h (by rw [num_ofK8 _ (num_bd8 h).1 (num_bd8 h).2])

/-! ### order -/
/-- -1, 0 or 1. -/
def cmpN (x y : Int) : Int := if x < y then -1 else if x > y then 1 else 0
theorem cmp_bytes : ∀ (l m : List Int), l.length = m.length → (∀ b ∈ l, 0 ≤ b ∧ b ≤ 255) → (∀ b ∈ m, 0 ≤ b ∧ b ≤ 255) → Lib.compareBytes (Lib.bytesOf l) (Lib.bytesOf m) = cmpN (num l) (num m)
  | [], [], _, _, _ => by simp [Lib.bytesOf, Lib.compareBytes, cmpN]
  | [], _ :: _, h, _, _ => by cases h
  | _ :: _, [], h, _, _ => by cases h
  | a :: l, b :: m, h, hl, hm => by
    have hlen : l.length = m.length := by simpa using h
    have h1 := num_bd l (fun x hx => hl x (List.mem_cons_of_mem _ hx))
    have h2 := num_bd m (fun x hx => hm x (List.mem_cons_of_mem _ hx))
    have ih := cmp_bytes l m hlen (fun x hx => hl x (List.mem_cons_of_mem _ hx)) (fun x hx => hm x (List.mem_cons_of_mem _ hx))
    have ha := hl a (List.mem_cons_self ..)
    have hb := hm b (List.mem_cons_self ..)
    rw [num_cons, num_cons]
    rw [hlen] at h1 ⊢
    have hlt : ∀ x y : Int, 0 ≤ x ∧ x ≤ 255 → 0 ≤ y ∧ y ≤ 255 → (UInt8.ofNat x.toNat < UInt8.ofNat y.toNat ↔ x < y) := by
      intro x y hx hy
      rw [UInt8.lt_iff_toNat_lt, UInt8.toNat_ofNat', UInt8.toNat_ofNat']
      omega
    simp only [Lib.bytesOf, List.map_cons, Lib.compareBytes] at ih ⊢
    simp only [hlt a b ha hb, hlt b a hb ha]
    rw [ih]
    generalize (256 : Int) ^ m.length = p at *
    unfold cmpN
    rcases Int.lt_trichotomy a b with hc | hc | hc
    · have : (a + 1) * p ≤ b * p := Int.mul_le_mul_of_nonneg_right (by omega) (by omega)
      rw [Int.add_mul] at this
      rw [if_pos hc, if_pos (by omega)]
    · subst hc
      simp only [Int.lt_irrefl, if_false, gt_iff_lt, Int.add_lt_add_iff_left]
    · have : (b + 1) * p ≤ a * p := Int.mul_le_mul_of_nonneg_right (by omega) (by omega)
      rw [Int.add_mul] at this
      rw [if_neg (by omega), if_pos (by omega), if_neg (by omega), if_pos (by omega)]

end Go.Proofs.Ytkaalppmheikgaa
