/- Two ledgers side by side, and lists beside them. -/
import Derived.Test.YtnapfjgokeloeaaLedPy
namespace Go.Proofs.Ytnapfjgokeloeaa
open Go.RowKit

/-- A list that lies outside a ledger. -/
def Out {α : Type} (n : Nat) (f : α → Array Value) (w : World) (p : Nat) (A : Option Addr) (l : List α) : Prop := RowsAt n f w A l ∧ (l ≠ [] → NotOwn w p A)
section
variable {α : Type} {n : Nat} {f : α → Array Value} {w0 w w' : World} {p q : Nat} {A : Option Addr} {l : List α} {T T2 : List (Id8 × Ac)} {E E2 : List En}
theorem Out.kept (h : Out n f w p A l) (hl : Led w0 w p T E) (hb : Below w.heap.size w w') : Out n f w' p A l := ⟨h.1.kept hb, fun hne => (h.2 hne).kept hl hb⟩
theorem Out.own (h : Out n f w p A l) (ho : OnlyOwn w w' p) : Out n f w' p A l := by
  obtain ⟨h1, h2⟩ := h
  rcases h1 with h1 | ⟨g, o, h1, h3, h4⟩
  · exact ⟨.inl h1, fun hne => absurd h1 hne⟩
  · by_cases hne : l = []
    · exact ⟨.inl hne, fun h => absurd hne h⟩
    · exact ⟨RowsAt.own (.inr ⟨g, o, h1, h3, h4⟩) ho (h2 hne), fun _ => (h2 hne).own ho fun g' o' e => by rw [h1] at e; cases e; exact h3⟩
theorem Out.past (h : Out n f w q A l) (hq : Led w0 w q T2 E2) (hp : Led w0 w p T E) (h' : Out n f w p A l) (ho : OnlyOwn w w' p) (hs : Sep w p q) : Out n f w' q A l :=
  ⟨(h'.own ho).1, fun hne g o e hf => h.2 hne g o e ((hq.other hp ho hs).2 g hf)⟩
theorem Out.new (hp : Led w0 w p T E) (hr : RowsAt n f w' A l) (hA : ∀ g o, A = some ⟨g, o, none⟩ → w.heap.size ≤ g) (hb : Below w.heap.size w w') : Out n f w' p A l := ⟨hr, fun _ => notOwn_new hp hA hb⟩
/-- Two ledgers. -/
structure Duo (w0 w : World) (p q : Nat) (T : List (Id8 × Ac)) (E : List En) (T2 : List (Id8 × Ac)) (E2 : List En) : Prop where
  one : Led w0 w p T E
  two : Led w0 w q T2 E2
  sep : Sep w p q
variable {T' : List (Id8 × Ac)} {E' : List En}
theorem Duo.kept (h : Duo w0 w p q T E T2 E2) (hb : Below w.heap.size w w') : Duo w0 w' p q T E T2 E2 := ⟨h.one.kept hb, h.two.kept hb, h.sep.kept h.one h.two hb⟩
theorem Duo.left (h : Duo w0 w p q T E T2 E2) (hl : Led w0 w' p T' E') (ho : OnlyOwn w w' p) : Duo w0 w' p q T' E' T2 E2 := ⟨hl, (h.two.other h.one ho h.sep).1, h.sep.own h.two h.one ho⟩
theorem Duo.right (h : Duo w0 w p q T E T2 E2) (hl : Led w0 w' q T' E') (ho : OnlyOwn w w' q) : Duo w0 w' p q T E T' E' :=
  ⟨(h.one.other h.two ho h.sep.symm).1, hl, (h.sep.symm.own h.one h.two ho).symm⟩
/-- A list beside two ledgers. -/
structure DuoL (n : Nat) (f : α → Array Value) (w : World) (p q : Nat) (A : Option Addr) (l : List α) : Prop where
  one : Out n f w p A l
  two : Out n f w q A l
theorem DuoL.rows (h : DuoL n f w p q A l) : RowsAt n f w A l := h.one.1
theorem DuoL.kept (h : DuoL n f w p q A l) (d : Duo w0 w p q T E T2 E2) (hb : Below w.heap.size w w') : DuoL n f w' p q A l := ⟨h.one.kept d.one hb, h.two.kept d.two hb⟩
theorem DuoL.left (h : DuoL n f w p q A l) (d : Duo w0 w p q T E T2 E2) (ho : OnlyOwn w w' p) : DuoL n f w' p q A l := ⟨h.one.own ho, h.two.past d.two d.one h.one ho d.sep⟩
theorem DuoL.right (h : DuoL n f w p q A l) (d : Duo w0 w p q T E T2 E2) (ho : OnlyOwn w w' q) : DuoL n f w' p q A l := ⟨h.one.past d.one d.two h.two ho d.sep.symm, h.two.own ho⟩
theorem DuoL.new (d : Duo w0 w p q T E T2 E2) (hr : RowsAt n f w' A l) (hA : ∀ g o, A = some ⟨g, o, none⟩ → w.heap.size ≤ g) (hb : Below w.heap.size w w') : DuoL n f w' p q A l := ⟨Out.new d.one hr hA hb, Out.new d.two hr hA hb⟩
end
end Go.Proofs.Ytnapfjgokeloeaa
