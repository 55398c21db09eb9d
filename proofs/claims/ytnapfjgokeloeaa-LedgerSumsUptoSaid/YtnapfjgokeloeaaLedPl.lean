/- Scripts of a ledger, plain. -/
import Derived.Test.YtnapfjgokeloeaaLedN
namespace Go.Proofs.Ytnapfjgokeloeaa
open Go.RowKit

abbrev I64 (n : Int) : Prop := -9223372036854775808 ≤ n ∧ n ≤ 9223372036854775807
/-- A step of a script. -/
structure LOp where
  who : Int
  kind : Int
  e : En
  A : Option Addr
  cap : Nat
  l : List En
def opE (o : LOp) : Array Value := ((#[.int .i64 o.who, .int .i64 o.kind] : Array Value) ++ enE o.e).push (.slice o.A o.l.length o.cap)
theorem opE_size (o : LOp) : (opE o).size = 20 := by unfold opE; rw [Array.size_push, Array.size_append, enE_size]; rfl
theorem opE_ones (o : LOp) : ∀ v ∈ (opE o).toList, v.oneCell' = true := by
  intro v hv
  unfold opE at hv
  rw [Array.toList_push, Array.toList_append, List.mem_append, List.mem_append] at hv
  rcases hv with (hv | hv) | hv
  · simp at hv; rcases hv with rfl | rfl <;> rfl
  · exact enE_ones _ v hv
  · simp at hv; rw [hv]; rfl
theorem opE_get (o : LOp) : (opE o)[0]? = some (.int .i64 o.who) ∧ (opE o)[1]? = some (.int .i64 o.kind) ∧ (∀ (j : Nat) v, (enE o.e)[j]? = some v → (opE o)[2 + j]? = some v) ∧ (opE o)[19]? = some (.slice o.A o.l.length o.cap) := by
  have hs := enE_size o.e
  refine ⟨?_, ?_, fun j v hj => ?_, ?_⟩
  · unfold opE; rw [Array.getElem?_push, if_neg (by rw [Array.size_append, hs]; simp), Array.getElem?_append_left (by simp)]; rfl
  · unfold opE; rw [Array.getElem?_push, if_neg (by rw [Array.size_append, hs]; simp), Array.getElem?_append_left (by simp)]; rfl
  · have hlt : j < 17 := by have := (Array.getElem?_eq_some_iff.1 hj).1; omega
    unfold opE; rw [Array.getElem?_push, if_neg (by rw [Array.size_append, hs]; simp; omega), Array.getElem?_append_right (by simp)]
    simpa using hj
  · unfold opE; rw [Array.getElem?_push, if_pos (by rw [Array.size_append, hs]; rfl)]
def sizeL (S : List LOp) : Nat := (S.map fun o => o.l.length + 1).sum
theorem sizeL_snoc (S : List LOp) (o : LOp) : sizeL (S ++ [o]) = sizeL S + (o.l.length + 1) := by unfold sizeL; simp
theorem sizeL_take (S : List LOp) (k : Nat) : sizeL (S.take k) ≤ sizeL S := by
  have h : sizeL S = sizeL (S.take k) + sizeL (S.drop k) := by unfold sizeL; rw [← List.sum_append, ← List.map_append, List.take_append_drop]
  omega
theorem sizeL_len (S : List LOp) : S.length ≤ sizeL S := by
  unfold sizeL
  induction S with
  | nil => simp
  | cons o S ih => simp at *; omega
theorem sizeL_mem {S : List LOp} {o : LOp} (h : o ∈ S) : o.l.length + 1 ≤ sizeL S := by
  unfold sizeL
  induction S with
  | nil => cases h
  | cons a S ih =>
    rcases List.mem_cons.1 h with rfl | h
    · simp
    · have := ih h; simp at *; omega
/-- A ledger, its entries, the limits that were given. -/
structure LSt where
  T : List (Id8 × Ac)
  E : List En
  L : List En
def stepL (s : LSt) (o : LOp) : LSt :=
  if o.kind % 4 = 0 then ⟨payT s.T o.e.fr o.e.to o.e.amt, payN s.T s.E o.e.fr o.e.to o.e.amt, s.L⟩
  else if o.kind % 4 = 1 then if credE s.T o.e.fr o.e.amt = 0 then ⟨credT s.T o.e.fr o.e.amt, s.E, s.L ++ [⟨o.e.fr, zId, o.e.amt⟩]⟩ else ⟨credT s.T o.e.fr o.e.amt, s.E, s.L⟩
  else if o.kind % 4 = 2 then ⟨allT2 s.T o.l, allE2 s.T s.E o.l, s.L⟩ else s
def playL (S : List LOp) : LSt := S.foldl stepL ⟨[], [], []⟩
theorem playL_snoc (S : List LOp) (o : LOp) : playL (S ++ [o]) = stepL (playL S) o := by unfold playL; simp
theorem step_ok {s : LSt} (h : OkT s.T) (o : LOp) : OkT (stepL s o).T := by
  unfold stepL
  by_cases h0 : o.kind % 4 = 0
  · rw [if_pos h0]; exact payT_ok h _ _ _
  rw [if_neg h0]
  by_cases h1 : o.kind % 4 = 1
  · rw [if_pos h1]
    split <;> exact credT_ok h _ _
  rw [if_neg h1]
  by_cases h2 : o.kind % 4 = 2
  · rw [if_pos h2]; exact allT2_ok h _
  · rw [if_neg h2]; exact h
theorem putM_len {V : Type} (T : List (Id8 × V)) (x : Id8) (v : V) : (putM T x v).length ≤ T.length + 1 := by
  unfold putM delM
  have := List.length_filter_le (fun p : Id8 × V => decide (p.1 ≠ x)) T
  simp only [List.length_cons]; omega
theorem payT_len (T : List (Id8 × Ac)) (f t : Id8) (n : Int) : (payT T f t n).length ≤ T.length + 2 := by
  unfold payT
  split
  · exact Nat.le_trans (putM_len _ _ _) (by have := putM_len T f ⟨(acOf T f).bal + -n, (acOf T f).lim⟩; omega)
  · omega
theorem allT_len (T : List (Id8 × Ac)) (l : List En) : (allT T l).length ≤ T.length + 2 * l.length := by
  induction l generalizing T with
  | nil => simp [allT]
  | cons e l ih =>
    have h1 := ih (payT T e.fr e.to e.amt)
    have h2 := payT_len T e.fr e.to e.amt
    simp only [List.length_cons]
    show (allT (payT T e.fr e.to e.amt) l).length ≤ _
    omega
theorem credT_len (T : List (Id8 × Ac)) (x : Id8) (n : Int) : (credT T x n).length ≤ T.length + 1 := by
  unfold credT
  split
  · exact putM_len _ _ _
  · omega
theorem allT2_len (T : List (Id8 × Ac)) (l : List En) : (allT2 T l).length ≤ T.length + 2 * l.length := by
  unfold allT2
  split
  · exact allT_len T l
  · omega
theorem payN_len (T : List (Id8 × Ac)) (E : List En) (f t : Id8) (n : Int) : (payN T E f t n).length ≤ E.length + 1 := by
  unfold payN
  split <;> simp
theorem allE2_len (T : List (Id8 × Ac)) (E l : List En) : (allE2 T E l).length ≤ E.length + l.length := by
  unfold allE2
  split <;> simp
theorem snoc_ind {α : Type} {P : List α → Prop} (h0 : P []) (h1 : ∀ l x, P l → P (l ++ [x])) (l : List α) : P l := by
  have key : ∀ (n : Nat) (l : List α), l.length = n → P l := by
    intro n
    induction n with
    | zero => intro l hl; rw [List.length_eq_zero_iff.1 hl]; exact h0
    | succ n ih =>
      intro l hl
      have hne : l ≠ [] := by intro e; rw [e] at hl; simp at hl
      rw [← List.dropLast_concat_getLast hne]
      exact h1 _ _ (ih _ (by rw [List.length_dropLast]; omega))
  exact key _ l rfl
theorem play_len (S : List LOp) : OkT (playL S).T ∧ (playL S).T.length ≤ 2 * sizeL S ∧ (playL S).E.length ≤ sizeL S ∧ (playL S).L.length ≤ sizeL S := by
  refine snoc_ind (P := fun S => OkT (playL S).T ∧ (playL S).T.length ≤ 2 * sizeL S ∧ (playL S).E.length ≤ sizeL S ∧ (playL S).L.length ≤ sizeL S) ⟨OkT.nil, by simp [playL], by simp [playL], by simp [playL]⟩ (fun S o ⟨h1, h2, h3, h4⟩ => ?_) S
  rw [playL_snoc, sizeL_snoc]
  refine ⟨step_ok h1 o, ?_⟩
  generalize playL S = s at *
  unfold stepL
  by_cases k0 : o.kind % 4 = 0
  · rw [if_pos k0]
    have a := payT_len s.T o.e.fr o.e.to o.e.amt
    have b := payN_len s.T s.E o.e.fr o.e.to o.e.amt
    dsimp only
    omega
  rw [if_neg k0]
  by_cases k1 : o.kind % 4 = 1
  · rw [if_pos k1]
    have a := credT_len s.T o.e.fr o.e.amt
    split
    · dsimp only; rw [List.length_append, List.length_singleton]; omega
    · dsimp only; omega
  rw [if_neg k1]
  by_cases k2 : o.kind % 4 = 2
  · rw [if_pos k2]
    have a := allT2_len s.T o.l
    have b := allE2_len s.T s.E o.l
    dsimp only
    omega
  · rw [if_neg k2]; omega
/-- What 'heavy' reckons. -/
def hvy (S : List LOp) : Nat := S.foldl (fun s o => min (s + 1 + min o.l.length 2097152) 4194304) 0
theorem hvy_snoc (S : List LOp) (o : LOp) : hvy (S ++ [o]) = min (hvy S + 1 + min o.l.length 2097152) 4194304 := by unfold hvy; simp
theorem hvy_le (S : List LOp) : hvy S ≤ 4194304 := snoc_ind (P := fun S => hvy S ≤ 4194304) (by simp [hvy]) (fun S o h => by rw [hvy_snoc]; omega) S
theorem hvy_size (S : List LOp) (h : hvy S ≤ 1048576) : hvy S = sizeL S := by
  revert h
  refine snoc_ind (P := fun S => hvy S ≤ 1048576 → hvy S = sizeL S) (by simp [hvy, sizeL]) (fun S o ih h => ?_) S
  rw [hvy_snoc] at h ⊢
  rw [sizeL_snoc, ← ih (by omega)]
  omega
/-- The limit of an account, by those that were given. -/
def limL (L : List En) (x : Id8) : Int := L.foldl (fun n e => if e.fr = x then e.amt else n) 0
theorem limL_snoc (L : List En) (e : En) (x : Id8) : limL (L ++ [e]) x = if e.fr = x then e.amt else limL L x := by unfold limL; rw [List.foldl_append]; rfl
/-- Comes an id ahead of another one? -/
def ahdF : List Int → List Int → Bool
  | a :: l, b :: m => if a ≠ b then decide (a < b) else ahdF l m
  | _, _ => false
end Go.Proofs.Ytnapfjgokeloeaa
