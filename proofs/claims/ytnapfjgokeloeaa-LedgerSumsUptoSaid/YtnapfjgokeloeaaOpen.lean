/- Opening the arguments of a law: an array of integers by value. -/
import Derived.Test.YtnapfjgokeloeaaRows
import Derived.ProofKit
import Derived.OpenShut
import Derived.ShutString
import Derived.ChangeOld
import Derived.Below
import Derived.KernelRfl
namespace Go.Proofs.Ytnapfjgokeloeaa
open Go.ChangeShapes Go.WideShapes Go.ChangeAt Go.RowKit

theorem own : ownKnob Try.prog.godebug = Option.none := by kernel_rfl
theorem laidOut : laidOutB Try.prog = true := by kernel_rfl

section
variable {H : Type} {enc : TypeId × Value → H} {P : Program} {w : World} {base : Nat} {spare : Nat → Bool} {held : Bool}

theorem okWide_agg {r : Reach} {b0 : Nat} {T n e : Nat} {v : Value} (hu : P.underlying T = some (.array n e)) (h : Value.okWide P w r b0 T v) : ∃ cs, v = .agg cs := by
  unfold Value.okWide at h
  rw [hu] at h
  obtain ⟨cs, h, _⟩ := h
  exact ⟨cs, h⟩

/-- n integers in a row of cells that reads as an array. -/
theorem cells_ints {k : IntKind} {e : Nat} (he : P.underlying e = some (.int k)) (hs : P.cellsOf e = 1) {m : Nat} :
    ∀ (n : Nat) (cs : List Value), cs.length = n → (∀ i, i < n → ∃ y, DataW.trod enc P w base spare held m e ((cs.drop (i * 1)).take 1) = some y) →
    ∃ l : List Int, l.length = n ∧ (∀ b ∈ l, (Lit.int k b).wf = true) ∧ cs = l.map (Value.int k)
  | 0, cs, hn, _ => ⟨[], rfl, by simp, by simpa using hn⟩
  | n + 1, [], hn, _ => by simp at hn
  | n + 1, c :: cs, hn, h => by
    obtain ⟨y, hy⟩ := h 0 (by omega)
    obtain ⟨b, hb, _, hw⟩ := DataW.trod_int he hy
    obtain ⟨l, hl, hlw, hcs⟩ := cells_ints he hs n cs (by simpa using hn) (fun i hi => by
      obtain ⟨y, hy⟩ := h (i + 1) (by omega)
      exact ⟨y, by simpa using hy⟩)
    refine ⟨b :: l, by simp [hl], ?_, ?_⟩
    · intro x hx
      rcases List.mem_cons.1 hx with rfl | hx
      · exact hw
      · exact hlw x hx
    · simp at hb
      simp [hb, hcs]

theorem open_ints_arr {r : Reach} {b0 : Nat} {T n e : Nat} {k : IntKind} {v : Value} {d : DataW H} {ps : List MemPlace} (hu : P.underlying T = some (.array n e)) (he : P.underlying e = some (.int k)) (hs : P.cellsOf e = 1) (hn : P.cellsOf T = n)
    (hval : Value.okWide P w r b0 T v) (h : DataW.Trod enc P w base spare held T v d ps) : ∃ l : List Int, l.length = n ∧ (∀ b ∈ l, (Lit.int k b).wf = true) ∧ v = .agg (l.map (Value.int k)).toArray := by
  obtain ⟨cs, rfl⟩ := okWide_agg hu hval
  obtain ⟨fuel, hf⟩ := h
  obtain ⟨xs, m, _, _, hlen, hxs, hel⟩ := DataW.trod_array hu hf
  simp only [Value.cells] at hlen hel
  rw [hs] at hel
  obtain ⟨l, h1, h2, h3⟩ := cells_ints (enc := enc) (w := w) (base := base) (spare := spare) (held := held) he hs n cs.toList (by rw [hlen, hn]) (fun i hi => ⟨xs[i]'(by omega), by rw [hel i hi]; simp [hxs, hi]⟩)
  exact ⟨l, h1, h2, by rw [← h3]⟩
end
end Go.Proofs.Ytnapfjgokeloeaa
