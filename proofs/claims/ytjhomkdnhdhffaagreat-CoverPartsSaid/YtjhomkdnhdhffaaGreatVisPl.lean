/- What cover.Cover's visit does, in plain Lean. -/
import Derived.Test.YtjhomkdnhdhffaaGreatNetPl
namespace Go.Proofs.YtjhomkdnhdhffaaGreat

/-- The rows that were come to, the columns that were. -/
abbrev Vis := List Bool × List Bool
def visL (rec : Vis → Nat → Vis) (col : List Int) : List Nat → Vis → Vis
  | [], s => s
  | c :: l, s =>
    if getB s.2 c = true then visL rec col l s
    else if getI col c < 0 then visL rec col l (s.1, s.2.set c true)
    else if getB s.1 (getI col c).toNat = true then visL rec col l (s.1, s.2.set c true)
    else visL rec col l (rec (s.1, s.2.set c true) (getI col c).toNat)
def visF (tl : List (List Nat)) (col : List Int) : Nat → Vis → Nat → Vis
  | 0, s, _ => s
  | k + 1, s, r => visL (visF tl col k) col (tl[r]?.getD []) (s.1.set r true, s.2)

structure VisOk (s : Vis) : Prop where
  rows : s.1.length = 64
  cols : s.2.length = 64
/-- Nothing that was marked is forgotten. -/
def VKeeps (f : Vis → Nat → Vis) : Prop := ∀ s r, r < 64 → VisOk s → VisOk (f s r) ∧ unmet (f s r).1 ≤ unmet s.1
theorem unmet_set_le : ∀ (l : List Bool) (c : Nat), unmet (l.set c true) ≤ unmet l
  | [], c => by simp
  | b :: l, 0 => by cases b <;> simp [unmet]
  | b :: l, c + 1 => by
    have := unmet_set_le l c
    cases b <;> simp [unmet] at this ⊢ <;> omega
theorem visL_keeps {f : Vis → Nat → Vis} (hf : VKeeps f) {row col : List Int} (hp : PairOk row col) : ∀ (l : List Nat), (∀ c ∈ l, c < 64) → ∀ s, VisOk s → VisOk (visL f col l s) ∧ unmet (visL f col l s).1 ≤ unmet s.1
  | [], _, s, h => ⟨h, Nat.le_refl _⟩
  | c :: l, hl, s, h => by
    have ih := visL_keeps hf hp l (fun c hc => hl c (by simp [hc]))
    have h1 : VisOk (s.1, s.2.set c true) := ⟨h.rows, by simp [h.cols]⟩
    unfold visL
    split
    · exact ih s h
    · split
      · exact ih _ h1
      · rename_i hneg
        split
        · exact ih _ h1
        · rcases hp.colAt (hl c (by simp)) with e | ⟨q, e, hq⟩
          · rw [e] at hneg; omega
          · rw [e, Int.toNat_natCast]
            obtain ⟨k1, k2⟩ := hf (s.1, s.2.set c true) q hq h1
            obtain ⟨i1, i2⟩ := ih _ k1
            exact ⟨i1, Nat.le_trans i2 k2⟩
theorem visF_keeps {tl : List (List Nat)} {gone : List Bool} (hok : NetOk tl gone) {row col : List Int} (hp : PairOk row col) : ∀ k, VKeeps (visF tl col k)
  | 0 => fun _ _ _ h => ⟨h, Nat.le_refl _⟩
  | k + 1 => fun s r hr h => by
    unfold visF
    obtain ⟨l, hl⟩ : ∃ l, tl[r]? = some l := ⟨tl[r]'(by rw [hok.len]; exact hr), by simp [hok.len, hr]⟩
    rw [hl]
    obtain ⟨i1, i2⟩ := visL_keeps (visF_keeps hok hp k) hp l (hok.cols r l hl).1 (s.1.set r true, s.2) ⟨by simp [h.rows], h.cols⟩
    exact ⟨i1, Nat.le_trans i2 (unmet_set_le _ _)⟩
end Go.Proofs.YtjhomkdnhdhffaaGreat
