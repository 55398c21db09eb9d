/- A load of one cell in a quiet walk. (In a seat with chapter 17's AsMem: leave this text out, import AsMem.) -/
import Derived.Test.YtkaalppmheikgaaKit
namespace Go.Proofs.Ytkaalppmheikgaa
open Go.RowKit

theorem quiet_load_cell {P : Program} {o : Oper} {a : Act} {W : World} {K : Act → Prop} (ty : TypeId) (x : Operand) (ho : o.op = .load ty x)
    (g off : Nat) (hx : a.eval x = .pointer (some ⟨g, off, none⟩)) (v : Value) (hc : W.cell? ⟨g, off, none⟩ = some v)
    (hs : ∀ w : World, w.cell? ⟨g, off, none⟩ = some v → (loadVar ty ⟨g, off, none⟩).run P w = .ok v w)
    (h : K (a.put o.dst v)) : o.quiet P a (fun w' => ∃ X : Bw W, w' = X.1) K := by
  refine ⟨v, ?_, h⟩
  rintro w ⟨X, rfl⟩
  have hlt : g < W.heap.size := by
    by_cases e : g < W.heap.size
    · exact e
    · simp [World.cell?, Array.getElem?_eq_none (Nat.le_of_not_lt e)] at hc
  have := hs X.1 ((Bw.cell X _ _ hlt).trans hc)
  unfold Oper.quietAt execOp
  simp only [ho, hx, Instr.loadAt, Instr.sureAddr, Sem.run_bind, Sem.run_pure, Result.andThen_ok, this]
  exact ⟨rfl, rfl⟩
end Go.Proofs.Ytkaalppmheikgaa
