/- A graph as an argument, with what it may weigh. -/
import Derived.Test.YtmddhjoomlhbcaaGraph
import Derived.SizedLaws
import Derived.Deep.Slices
namespace Go.Proofs.Ytmddhjoomlhbcaa
open Go.RowKit Go.ChangeShapes Go.WideShapes
section
variable {H : Type} {enc : TypeId × Value → H} {w : World} {base : Nat} {spare : Nat → Bool} {held : Bool}
set_option maxRecDepth 100000 in
theorem open_graphS {r : Reach} {b0 : Nat} {v : Value} {d : DataW H} {ps : List MemPlace} {ts : List TypeId} {ds : List (DataW H)} {j : Nat} (hsz : (DataW.weightsEach Try.prog ts ds).all (· ≤ reachBytes) = true) (htj : ts[j]? = some 24) (hdj : ds[j]? = some d) (hval : Value.okWide Try.prog w r b0 24 v) (h : DataW.Trod enc Try.prog w base spare held 24 v d ps) :
    ∃ g : Gr × Option Addr × Nat, (GrOk g.1 g.2.2 ∧ RowsAt 3 edV w g.2.1 g.1.es ∧ g.1.es.length * 24 ≤ 140737488351232) ∧ v = grV g.1 g.2.1 g.2.2 := by
  obtain ⟨cs, rfl, hcz⟩ := okWide_struct Try.underlying24 hval
  have hs3 : Try.prog.cellsOf 24 = 3 := by kernel_rfl
  rw [hs3] at hcz
  obtain ⟨fuel, hf⟩ := h
  obtain ⟨xs, m, _, hxd, _, hx, hff⟩ := DataW.trod_struct Try.underlying24 hf
  have h3 : xs.length = 3 := hx
  simp only [Value.cells] at hff
  have f0 := field_at (Q := fun i t o => DataW.trod enc Try.prog w base spare held m t ((cs.toList.drop o).take (Try.prog.cellsOf t)) = xs[i]?) hff 0 3 0 rfl
  have f1 := field_at (Q := fun i t o => DataW.trod enc Try.prog w base spare held m t ((cs.toList.drop o).take (Try.prog.cellsOf t)) = xs[i]?) hff 1 3 1 rfl
  have f2 := field_at (Q := fun i t o => DataW.trod enc Try.prog w base spare held m t ((cs.toList.drop o).take (Try.prog.cellsOf t)) = xs[i]?) hff 2 22 2 rfl
  have hs : Try.prog.cellsOf 3 = 1 := by kernel_rfl
  have hs2 : Try.prog.cellsOf 22 = 1 := by kernel_rfl
  rw [hs] at f0 f1
  rw [hs2] at f2
  obtain ⟨a0, q0, _, w0⟩ := DataW.trod_int Try.underlying3 (f0.trans (List.getElem?_eq_getElem (by omega)))
  obtain ⟨a1, q1, _, w1⟩ := DataW.trod_int Try.underlying3 (f1.trans (List.getElem?_eq_getElem (by omega)))
  obtain ⟨a, cap, l, q2, hrows, hok, hle, hcap⟩ := open_rows (α := Ed) (s := 3) (f := edV) (R := EdOk) Try.underlying22 (by kernel_rfl) (by omega) trod_ed (f2.trans (List.getElem?_eq_getElem (by omega)))
  have hlen : l.length * 24 ≤ 140737488351232 := by
    rw [q2] at f2
    rcases Go.Deep.open_slice Try.underlying22 (f2.trans (List.getElem?_eq_getElem (by omega))) with ⟨h1, _⟩ | ⟨a2, len2, cap2, m2, n2, D, Pl, h1, _, h2, _, hm, hx2, _⟩
    · simp at h1
      obtain ⟨_, h1, _⟩ := h1
      rw [h1]; simp
    · simp at h1
      obtain ⟨_, rfl, rfl⟩ := h1
      obtain ⟨hd1, _⟩ := Prod.mk.inj hxd
      subst hd1
      have hB : Try.prog.bytesOf 47 = 24 := by kernel_rfl
      have hp2 : (xs.map (·.1))[2]? = some (.slice ((List.range l.length).map D) ((List.range (m2 - l.length)).map fun j => D (l.length + j))) := by
        rw [List.getElem?_map, List.getElem?_eq_getElem (by omega), hx2]; rfl
      have hw : ∀ n ∈ (DataW.slice ((List.range l.length).map D) ((List.range (m2 - l.length)).map fun j => D (l.length + j))).weights Try.prog 22, n ≤ reachBytes := fun n hn => by
        have h5 := DataW.weights_mem_each (P := Try.prog) (ts := [3, 3, 22]) (j := 2) rfl hp2 n hn
        have h6 : n ∈ (DataW.agg (xs.map (·.1))).weights Try.prog 24 := by
          unfold DataW.weights
          rw [Try.underlying24]
          exact h5
        have := List.all_eq_true.1 hsz n (DataW.weights_mem_each htj hdj n h6)
        simpa using this
      have h7 := hw ((((List.range l.length).map D).length + ((List.range (m2 - l.length)).map fun j => D (l.length + j)).length) * 24) (by simp [DataW.weights, Try.underlying22, hB])
      simp only [List.length_map, List.length_range] at h7
      have h8 : l.length * 24 ≤ (l.length + (m2 - l.length)) * 24 := Nat.mul_le_mul_right _ (by omega)
      exact Nat.le_trans h8 h7
  refine ⟨(⟨a0, a1, l⟩, a, cap), ⟨⟨bounds_i64 w0, bounds_i64 w1, hok, hle, hcap⟩, hrows, hlen⟩, ?_⟩
  have e := three (c := cs.toList) (by simpa using hcz) q0 q1 q2
  have e2 : cs = #[.int .i64 a0, .int .i64 a1, .slice a l.length cap] := by rw [← Array.toArray_toList (xs := cs), e]
  rw [e2]; rfl
end
end Go.Proofs.Ytmddhjoomlhbcaa
