/- A list of ids as an argument. -/
import Derived.Test.YtaiepkombpjjgaaTwID
import Derived.Test.YtaiepkombpjjgaaOpen
import Derived.SizedLaws
namespace Go.Proofs.Ytaiepkombpjjgaa
open Go.RowKit Go.ChangeShapes Go.WideShapes

section
variable {H : Type} {enc : TypeId × Value → H} {w : World} {base : Nat} {spare : Nat → Bool} {held : Bool}
theorem trod_idE (n : Nat) (c : List Value) (y : DataW H × List MemPlace) (_ : c.length = 8) (h : DataW.trod enc Try.prog w base spare held n 23 c = some y) : ∃ z : Id8, True ∧ c.toArray = idE z := by
  obtain ⟨xs, m, _, _, hlen, hxs, hel⟩ := DataW.trod_array Try.underlying23 h
  have hs : Try.prog.cellsOf 5 = 1 := by kernel_rfl
  have hn : Try.prog.cellsOf 23 = 8 := by kernel_rfl
  rw [hs] at hel
  obtain ⟨l, h1, h2, h3⟩ := cells_ints (enc := enc) (w := w) (base := base) (spare := spare) (held := held) Try.underlying5 hs 8 c (by rw [hlen, hn]) (fun i hi => ⟨xs[i]'(by omega), by rw [hel i hi]; simp [hxs, hi]⟩)
  exact ⟨⟨l, h1, fun b hb => bounds_u8 (h2 b hb)⟩, trivial, by rw [h3]; rfl⟩
set_option maxRecDepth 100000 in
theorem open_idl {r : Reach} {b0 : Nat} {v : Value} {d : DataW H} {ps : List MemPlace} {ts : List TypeId} {ds : List (DataW H)} {j : Nat} (hsz : (DataW.weightsEach Try.prog ts ds).all (· ≤ reachBytes) = true) (htj : ts[j]? = some 52) (hdj : ds[j]? = some d)
    (hval : Value.okWide Try.prog w r b0 52 v) (h : DataW.Trod enc Try.prog w base spare held 52 v d ps) :
    ∃ x : List Id8 × Option Addr × Nat, (RowsAt 8 idE w x.2.1 x.1 ∧ x.1.length * 8 ≤ 140737488351232) ∧ v = .slice x.2.1 x.1.length x.2.2 := by
  obtain ⟨a, len, cap, rfl⟩ := okWide_slice Try.underlying52 hval
  obtain ⟨fuel, hf⟩ := h
  obtain ⟨a', cap', l, hcs, hrows, _, hle, hcap⟩ := open_rows (α := Id8) (s := 8) (f := idE) (R := fun _ => True) Try.underlying52 (by kernel_rfl) (by omega) trod_idE hf
  simp [Value.cells] at hcs
  obtain ⟨rfl, rfl, rfl⟩ := hcs
  refine ⟨(l, a, cap), ⟨hrows, ?_⟩, rfl⟩
  rcases Go.Deep.open_slice Try.underlying52 hf with ⟨h1, _⟩ | ⟨a2, len2, cap2, m, n, D, Pl, h1, _, h2, _, hm, hx, _⟩
  · simp [Value.cells] at h1
    obtain ⟨_, h1, _⟩ := h1
    show l.length * 8 ≤ _
    rw [h1]; simp
  · simp [Value.cells] at h1
    obtain ⟨_, rfl, rfl⟩ := h1
    obtain ⟨hx, _⟩ := Prod.mk.inj hx
    rw [hx] at hdj
    have z := sized_slice hsz htj hdj Try.underlying52
    have hB : Try.prog.bytesOf 23 = 8 := by kernel_rfl
    rw [hB] at z
    simp only [List.length_map, List.length_range] at z
    have : l.length * 8 ≤ (l.length + (m - l.length)) * 8 := Nat.mul_le_mul_right _ (by omega)
    exact Nat.le_trans this z
end
end Go.Proofs.Ytaiepkombpjjgaa
