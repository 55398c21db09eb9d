/- Riders in memory: what a call leaves, what it writes. -/
import Derived.Test.YtkaalppmheikgaaRdSt
namespace Go.Proofs.Ytkaalppmheikgaa
open Go.RowKit

/-- What a call that writes riders leaves. -/
def RdPost (w w' : World) (p : Nat) (B : RB) (R2 : RS) : Prop :=
  ∃ B' H' l' came', RdAt w' p B' R2 H' l' came' ∧ Kp (ROwn p B) w w' ∧ ∀ k, ROwn p B' k → ROwn p B k ∨ w.heap.size ≤ k
section
variable {w w' w2 : World} {p : Nat} {B : RB} {R R2 : RS} {H : List (Id8 × Int)} {l : List It} {came : Int}
theorem RdAt.none (h : RdAt w p B R H l came) (hb : Below w.heap.size w w') : RdPost w w' p B R := ⟨B, H, l, came, h.kept hb, (Kp.refl _ _).below hb, fun _ hk => .inl hk⟩
theorem RdPost.below (h : RdPost w w' p B R) (hb : Below w'.heap.size w' w2) : RdPost w w2 p B R := by
  obtain ⟨B', H', l', c', h1, h2, h3⟩ := h
  exact ⟨B', H', l', c', h1.kept hb, h2.below hb, h3⟩
theorem RdPost.after {w0 : World} (h : RdPost w w' p B R2) (hk : Kp (ROwn p B) w0 w) : RdPost w0 w' p B R2 := by
  obtain ⟨B', H', l', c', h1, h2, h3⟩ := h
  refine ⟨B', H', l', c', h1, hk.trans h2 (fun _ _ h => h), fun k hk' => (h3 k hk').imp id fun h => ?_⟩
  have := hk.size; omega
theorem RdPost.then {R3 : RS} (h : RdPost w w' p B R2) (hn : ∀ B' H' l' c', RdAt w' p B' R2 H' l' c' → RdPost w' w2 p B' R3) : RdPost w w2 p B R3 := by
  obtain ⟨B1, H1, l1, c1, h1, h2, h3⟩ := h
  obtain ⟨B2, H2, l2, c2, q1, q2, q3⟩ := hn _ _ _ _ h1
  refine ⟨B2, H2, l2, c2, q1, h2.trans q2 (fun k hk hk2 => ?_), fun k hk => ?_⟩
  · rcases h3 k hk2 with h | h
    · exact h
    · omega
  · rcases q3 k hk with h | h
    · exact h3 k h
    · have := h2.size; exact .inr (by omega)
theorem RdAt.uniq {B' : RB} {R' : RS} {H' : List (Id8 × Int)} {l' : List It} {came' : Int} (h : RdAt w p B R H l came) (h' : RdAt w p B' R' H' l' came') : B' = B := by
  have h1 := h.c7; rw [h'.c7] at h1
  have h2 := h.c8; rw [h'.c8] at h2
  have h3 := h.c9; rw [h'.c9] at h3
  obtain ⟨b, s, sb, hh, hb, hv⟩ := B
  obtain ⟨b', s', sb', hh', hb', hv'⟩ := B'
  cases h1; cases h2; cases h3
  have h4 := h.set.cell; rw [h'.set.cell] at h4
  have h5 := h.hp.cell1; rw [h'.hp.cell1] at h5
  have h6 := h.hp.cell2; rw [h'.hp.cell2] at h6
  cases h4; cases h5; cases h6
  rfl
end
/-- Riders that were made behind w0. -/
def Rd (w0 w : World) (p : Nat) (R : RS) : Prop := ∃ B H l came, RdAt w p B R H l came ∧ Below w0.heap.size w0 w ∧ (∀ k, ROwn p B k → w0.heap.size ≤ k) ∧ RInv R
/-- The blocks of the riders at p. -/
def Foot (w : World) (p k : Nat) : Prop := ∃ B R H l came, RdAt w p B R H l came ∧ ROwn p B k
/-- What is written is the riders', what they take in is new. -/
def OnlyOwn (w w' : World) (p : Nat) : Prop := ∃ S : Nat → Prop, Kp S w w' ∧ (∀ k, S k → Foot w p k) ∧ ∀ k, Foot w' p k → Foot w p k ∨ w.heap.size ≤ k
section
variable {w0 w w' : World} {p : Nat} {R : RS}
theorem RdAt.foot {B : RB} {H : List (Id8 × Int)} {l : List It} {came : Int} (h : RdAt w p B R H l came) {k : Nat} : Foot w p k ↔ ROwn p B k :=
  ⟨fun ⟨B', R', H', l', c', h1, h2⟩ => by have e := h.uniq h1; subst e; exact h2, fun h2 => ⟨B, R, H, l, came, h, h2⟩⟩
theorem Rd.kept (h : Rd w0 w p R) (hb : Below w.heap.size w w') : Rd w0 w' p R := by
  obtain ⟨B, H, l, came, h1, h2, h3, h4⟩ := h
  exact ⟨B, H, l, came, h1.kept hb, h2.trans (hb.mono h2.size), h3, h4⟩
theorem Rd.below (h : Rd w0 w p R) : Below w0.heap.size w0 w := by obtain ⟨B, H, l, came, h1, h2, h3⟩ := h; exact h2
theorem Rd.inv (h : Rd w0 w p R) : RInv R := by obtain ⟨B, H, l, came, h1, h2, h3, h4⟩ := h; exact h4
theorem Rd.later {w1 : World} (h : Rd w1 w p R) (hb : Below w0.heap.size w0 w1) : Rd w0 w p R := by
  obtain ⟨B, H, l, came, h1, h2, h3, h4⟩ := h
  exact ⟨B, H, l, came, h1, hb.trans (h2.mono hb.size), fun k hk => Nat.le_trans hb.size (h3 k hk), h4⟩
theorem Rd.foot_old (h : Rd w0 w p R) {k : Nat} (hk : Foot w p k) : w0.heap.size ≤ k := by
  obtain ⟨B, H, l, came, h1, h2, h3, h4⟩ := h
  exact h3 k (h1.foot.1 hk)
theorem Rd.foot_lt (h : Rd w0 w p R) {k : Nat} (hk : Foot w p k) : k < w.heap.size := by
  obtain ⟨B, H, l, came, h1, h2, h3, h4⟩ := h
  exact h1.lt (h1.foot.1 hk)
theorem Rd.foot_kept (h : Rd w0 w p R) (hb : Below w.heap.size w w') {k : Nat} (hk : Foot w' p k) : Foot w p k := by
  obtain ⟨B, H, l, came, h1, h2, h3, h4⟩ := h
  exact h1.foot.2 ((h1.kept hb).foot.1 hk)
/-- A contract of a call that writes, told of riders that were made behind w0. -/
theorem Rd.post {R2 : RS} {B : RB} {H : List (Id8 × Int)} {l : List It} {came : Int} (h1 : RdAt w p B R H l came) (h2 : Below w0.heap.size w0 w) (h3 : ∀ k, ROwn p B k → w0.heap.size ≤ k) (hp : RdPost w w' p B R2) (hi : RInv R2) : Rd w0 w' p R2 ∧ OnlyOwn w w' p := by
  obtain ⟨B', H', l', c', q1, q2, q3⟩ := hp
  refine ⟨⟨B', H', l', c', q1, h2.trans (q2.toBelow h2.size fun k _ hk => h3 k hk), fun k hk => ?_, hi⟩, ⟨_, q2, fun _ hk => h1.foot.2 hk, fun k hk => (q3 k (q1.foot.1 hk)).imp (fun h => h1.foot.2 h) id⟩⟩
  rcases q3 k hk with h | h
  · exact h3 k h
  · have := h2.size; omega
theorem OnlyOwn.below (ho : OnlyOwn w w' p) (h : Rd w0 w p R) : Below w0.heap.size w0 w' := by
  obtain ⟨S, q1, q2, q3⟩ := ho
  exact h.below.trans (q1.toBelow h.below.size fun k _ hk => h.foot_old (q2 k hk))
theorem OnlyOwn.refl (h : Below w.heap.size w w') (hr : Rd w0 w p R) : OnlyOwn w w' p := ⟨fun _ => False, (Kp.refl _ _).below h, fun _ h => h.elim, fun _ hk => .inl (hr.foot_kept h hk)⟩
/-- Two riders that share nothing. -/
def Sep (w : World) (p q : Nat) : Prop := ∀ k, Foot w p k → ¬ Foot w q k
theorem Rd.other {q : Nat} {R2 : RS} (h : Rd w0 w q R2) (hp : Rd w0 w p R) (ho : OnlyOwn w w' p) (hs : Sep w p q) : Rd w0 w' q R2 ∧ ∀ k, Foot w' q k → Foot w q k := by
  have hb := ho.below hp
  obtain ⟨B, H, l, came, h1, h2, h3, hi⟩ := h
  obtain ⟨S, q1, q2, q3⟩ := ho
  have h4 : RdAt w' q B R2 H l came := h1.same fun k hk => q1.block k (h1.lt hk) fun hS => hs k (q2 k hS) (h1.foot.2 hk)
  exact ⟨⟨B, H, l, came, h4, hb, h3, hi⟩, fun k hk => h1.foot.2 (h4.foot.1 hk)⟩
theorem Sep.own {q : Nat} {R2 : RS} (hs : Sep w p q) (h : Rd w0 w q R2) (hp : Rd w0 w p R) (ho : OnlyOwn w w' p) : Sep w' p q := by
  have h2 := (h.other hp ho hs).2
  obtain ⟨S, q1, q2, q3⟩ := ho
  intro k h3 h4
  have h5 := h2 k h4
  rcases q3 k h3 with h6 | h6
  · exact hs k h6 h5
  · have := h.foot_lt h5; omega
theorem Sep.symm {q : Nat} (h : Sep w p q) : Sep w q p := fun k h1 h2 => h k h2 h1
theorem Sep.kept {q : Nat} {R2 : RS} (hs : Sep w p q) (hp : Rd w0 w p R) (hq : Rd w0 w q R2) (hb : Below w.heap.size w w') : Sep w' p q := fun k h1 h2 => hs k (hp.foot_kept hb h1) (hq.foot_kept hb h2)
theorem Sep.new {q : Nat} {w1 : World} {R2 : RS} (hp : Rd w0 w1 p R) (hq : Rd w1 w q R2) : Sep w p q := fun k h1 h2 => by
  have := hq.foot_old h2
  have := hp.foot_lt (hp.foot_kept hq.below h1)
  omega
end
end Go.Proofs.Ytkaalppmheikgaa
