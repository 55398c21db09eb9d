/- Lists of pairs and of numbers as arguments. -/
import Derived.Test.YtmddhjoomlhbcaaAsBs
import Derived.Test.YtmddhjoomlhbcaaOpen
import Derived.SizedLaws
namespace Go.Proofs.Ytmddhjoomlhbcaa
open Go.RowKit Go.ChangeShapes Go.WideShapes

section
variable {H : Type} {enc : TypeId × Value → H} {w : World} {base : Nat} {spare : Nat → Bool} {held : Bool}
theorem two_of {c : List Value} {a0 a1 : Value} (hc : c.length = 2) (h0 : (c.drop 0).take 1 = [a0]) (h1 : (c.drop 1).take 1 = [a1]) : c = [a0, a1] := by
  match c, hc with
  | [x, y], _ => simp_all
theorem trod_prs (n : Nat) (c : List Value) (y : DataW H × List MemPlace) (hc : c.length = 2) (h : DataW.trod enc Try.prog w base spare held n 45 c = some y) : ∃ z : Int × Int, (I64 z.1 ∧ I64 z.2) ∧ c.toArray = prV z := by
  obtain ⟨xs, m, _, _, _, hx, hf⟩ := DataW.trod_struct Try.underlying45 h
  have h3 : xs.length = 2 := hx
  have f0 := field_at (Q := fun i t o => DataW.trod enc Try.prog w base spare held m t ((c.drop o).take (Try.prog.cellsOf t)) = xs[i]?) hf 0 3 0 rfl
  have f1 := field_at (Q := fun i t o => DataW.trod enc Try.prog w base spare held m t ((c.drop o).take (Try.prog.cellsOf t)) = xs[i]?) hf 1 3 1 rfl
  have hs : Try.prog.cellsOf 3 = 1 := by kernel_rfl
  rw [hs] at f0 f1
  obtain ⟨a0, q0, _, w0⟩ := DataW.trod_int Try.underlying3 (f0.trans (List.getElem?_eq_getElem (by omega)))
  obtain ⟨a1, q1, _, w1⟩ := DataW.trod_int Try.underlying3 (f1.trans (List.getElem?_eq_getElem (by omega)))
  refine ⟨(a0, a1), ⟨bounds_i64 w0, bounds_i64 w1⟩, ?_⟩
  rw [two_of hc q0 q1]; rfl
theorem trod_num (n : Nat) (c : List Value) (y : DataW H × List MemPlace) (_ : c.length = 1) (h : DataW.trod enc Try.prog w base spare held n 3 c = some y) : ∃ z : Int, I64 z ∧ c.toArray = numV z := by
  obtain ⟨a0, q0, _, w0⟩ := DataW.trod_int Try.underlying3 h
  exact ⟨a0, bounds_i64 w0, by rw [q0]; rfl⟩
theorem open_prs {r : Reach} {b0 : Nat} {v : Value} {d : DataW H} {ps : List MemPlace} {ts : List TypeId} {ds : List (DataW H)} {j : Nat} (hsz : (DataW.weightsEach Try.prog ts ds).all (· ≤ reachBytes) = true) (htj : ts[j]? = some 25) (hdj : ds[j]? = some d)
    (hval : Value.okWide Try.prog w r b0 25 v) (h : DataW.Trod enc Try.prog w base spare held 25 v d ps) :
    ∃ x : List (Int × Int) × Option Addr × Nat, ((∀ p ∈ x.1, I64 p.1 ∧ I64 p.2) ∧ RowsAt 2 prV w x.2.1 x.1 ∧ x.1.length * 16 ≤ 140737488351232) ∧ v = .slice x.2.1 x.1.length x.2.2 := by
  obtain ⟨a, len, cap, rfl⟩ := okWide_slice Try.underlying25 hval
  obtain ⟨fuel, hf⟩ := h
  obtain ⟨a', cap', l, hcs, hrows, hok, hle, hcap⟩ := open_rows (α := Int × Int) (s := 2) (f := prV) (R := fun p => I64 p.1 ∧ I64 p.2) Try.underlying25 (by kernel_rfl) (by omega) trod_prs hf
  simp [Value.cells] at hcs
  obtain ⟨rfl, rfl, rfl⟩ := hcs
  refine ⟨(l, a, cap), ⟨hok, hrows, ?_⟩, rfl⟩
  rcases Go.Deep.open_slice Try.underlying25 hf with ⟨h1, _⟩ | ⟨a2, len2, cap2, m, n, D, Pl, h1, _, h2, _, hm, hx, _⟩
  · simp [Value.cells] at h1
    obtain ⟨_, h1, _⟩ := h1
    show l.length * 16 ≤ _
    rw [h1]; simp
  · simp [Value.cells] at h1
    obtain ⟨_, rfl, rfl⟩ := h1
    obtain ⟨hx, _⟩ := Prod.mk.inj hx
    rw [hx] at hdj
    have z := sized_slice hsz htj hdj Try.underlying25
    have hB : Try.prog.bytesOf 45 = 16 := by kernel_rfl
    rw [hB] at z
    simp only [List.length_map, List.length_range] at z
    have : l.length * 16 ≤ (l.length + (m - l.length)) * 16 := Nat.mul_le_mul_right _ (by omega)
    exact Nat.le_trans this z
theorem open_nums {r : Reach} {b0 : Nat} {v : Value} {d : DataW H} {ps : List MemPlace} {ts : List TypeId} {ds : List (DataW H)} {j : Nat} (hsz : (DataW.weightsEach Try.prog ts ds).all (· ≤ reachBytes) = true) (htj : ts[j]? = some 37) (hdj : ds[j]? = some d)
    (hval : Value.okWide Try.prog w r b0 37 v) (h : DataW.Trod enc Try.prog w base spare held 37 v d ps) :
    ∃ x : List Int × Option Addr × Nat, ((∀ n ∈ x.1, I64 n) ∧ RowsAt 1 numV w x.2.1 x.1 ∧ x.1.length * 8 ≤ 140737488351232) ∧ v = .slice x.2.1 x.1.length x.2.2 := by
  obtain ⟨a, len, cap, rfl⟩ := okWide_slice Try.underlying37 hval
  obtain ⟨fuel, hf⟩ := h
  obtain ⟨a', cap', l, hcs, hrows, hok, hle, hcap⟩ := open_rows (α := Int) (s := 1) (f := numV) (R := I64) Try.underlying37 (by kernel_rfl) (by omega) trod_num hf
  simp [Value.cells] at hcs
  obtain ⟨rfl, rfl, rfl⟩ := hcs
  refine ⟨(l, a, cap), ⟨hok, hrows, ?_⟩, rfl⟩
  rcases Go.Deep.open_slice Try.underlying37 hf with ⟨h1, _⟩ | ⟨a2, len2, cap2, m, n, D, Pl, h1, _, h2, _, hm, hx, _⟩
  · simp [Value.cells] at h1
    obtain ⟨_, h1, _⟩ := h1
    show l.length * 8 ≤ _
    rw [h1]; simp
  · simp [Value.cells] at h1
    obtain ⟨_, rfl, rfl⟩ := h1
    obtain ⟨hx, _⟩ := Prod.mk.inj hx
    rw [hx] at hdj
    have z := sized_slice hsz htj hdj Try.underlying37
    have hB : Try.prog.bytesOf 3 = 8 := by kernel_rfl
    rw [hB] at z
    simp only [List.length_map, List.length_range] at z
    have : l.length * 8 ≤ (l.length + (m - l.length)) * 8 := Nat.mul_le_mul_right _ (by omega)
    exact Nat.le_trans this z
end
end Go.Proofs.Ytmddhjoomlhbcaa
