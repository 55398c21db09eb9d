/- Entries and scripts of a ledger as arguments. -/
import Derived.Test.YtnapfjgokeloeaaLedPy
import Derived.Test.YtnapfjgokeloeaaOpen
import Derived.SizedLaws
namespace Go.Proofs.Ytnapfjgokeloeaa
open Go.RowKit Go.ChangeShapes Go.WideShapes

instance instEn : Inhabited En := ⟨enZ⟩
instance instLOp : Inhabited LOp := ⟨⟨0, 0, enZ, none, 0, []⟩⟩
section
variable {H : Type} {enc : TypeId × Value → H} {w : World} {base : Nat} {spare : Nat → Bool} {held : Bool}
theorem field_at {fs : Array Field} {Q : Nat → TypeId → Nat → Prop} (h : ∀ (i : Nat) (f : Field), fs[i]? = some f → Q i f.type f.offset) (i : Nat) (t o : Nat) (hf : (fs[i]?).map (fun f => (f.type, f.offset)) = some (t, o)) : Q i t o := by
  obtain ⟨f, h1, h2⟩ := Option.map_eq_some_iff.1 hf
  rw [Prod.mk.injEq] at h2
  obtain ⟨rfl, rfl⟩ := h2
  exact h i f h1
theorem trod_id (n : Nat) (c : List Value) (y : DataW H × List MemPlace) (h : DataW.trod enc Try.prog w base spare held n 33 c = some y) : ∃ z : Id8, c = (idE z).toList := by
  obtain ⟨xs, m, _, _, hlen, hxs, hel⟩ := DataW.trod_array Try.underlying33 h
  have hs : Try.prog.cellsOf 5 = 1 := by kernel_rfl
  have hn : Try.prog.cellsOf 33 = 8 := by kernel_rfl
  rw [hs] at hel
  obtain ⟨l, h1, h2, h3⟩ := cells_ints (enc := enc) (w := w) (base := base) (spare := spare) (held := held) Try.underlying5 hs 8 c (by rw [hlen, hn]) (fun i hi => ⟨xs[i]'(by omega), by rw [hel i hi]; simp [hxs, hi]⟩)
  exact ⟨⟨l, h1, fun b hb => bounds_u8 (h2 b hb)⟩, by rw [h3]; simp [idE, bys]⟩
theorem cut3 {c : List Value} {a b d : List Value} {i j k : Nat} (hc : c.length = i + j + k) (h0 : (c.drop 0).take i = a) (h1 : (c.drop i).take j = b) (h2 : (c.drop (i + j)).take k = d) : c = a ++ b ++ d := by
  subst h0 h1 h2
  have e : (c.drop (i + j)).take k = c.drop (i + j) := List.take_of_length_le (by rw [List.length_drop]; omega)
  rw [e, List.drop_zero, ← List.drop_drop, List.append_assoc, List.take_append_drop, List.take_append_drop]
theorem take_two {c : List Value} {a b : Value} (h0 : (c.drop 0).take 1 = [a]) (h1 : (c.drop 1).take 1 = [b]) : (c.drop 0).take 2 = [a, b] := by
  match c with
  | [] => simp at h0
  | [x] => simp at h1
  | x :: y :: r => simp_all
set_option maxRecDepth 100000 in
theorem trod_en (n : Nat) (c : List Value) (y : DataW H × List MemPlace) (hc : c.length = 17) (h : DataW.trod enc Try.prog w base spare held n 35 c = some y) : ∃ z : En, I64 z.amt ∧ c.toArray = enE z := by
  obtain ⟨xs, m, _, _, _, hx, hf⟩ := DataW.trod_struct Try.underlying35 h
  have h3 : xs.length = 3 := hx
  have f0 := field_at (Q := fun i t o => DataW.trod enc Try.prog w base spare held m t ((c.drop o).take (Try.prog.cellsOf t)) = xs[i]?) hf 0 33 0 rfl
  have f1 := field_at (Q := fun i t o => DataW.trod enc Try.prog w base spare held m t ((c.drop o).take (Try.prog.cellsOf t)) = xs[i]?) hf 1 33 8 rfl
  have f2 := field_at (Q := fun i t o => DataW.trod enc Try.prog w base spare held m t ((c.drop o).take (Try.prog.cellsOf t)) = xs[i]?) hf 2 3 16 rfl
  have hs : Try.prog.cellsOf 3 = 1 := by kernel_rfl
  have hi : Try.prog.cellsOf 33 = 8 := by kernel_rfl
  rw [hs] at f2
  rw [hi] at f0 f1
  obtain ⟨z0, e0⟩ := trod_id _ _ _ (f0.trans (List.getElem?_eq_getElem (by omega)))
  obtain ⟨z1, e1⟩ := trod_id _ _ _ (f1.trans (List.getElem?_eq_getElem (by omega)))
  obtain ⟨a2, e2, _, w2⟩ := DataW.trod_int Try.underlying3 (f2.trans (List.getElem?_eq_getElem (by omega)))
  refine ⟨⟨z0, z1, a2⟩, bounds_i64 w2, ?_⟩
  rw [cut3 (i := 8) (j := 8) (k := 1) hc e0 e1 e2]
  apply Array.toList_inj.1
  simp [enE, idE]
/-- What an operation's cells say. -/
def OpR (w : World) (o : LOp) : Prop := RowsAt 17 enE w o.A o.l ∧ o.l.length ≤ 9223372036854775807 ∧ (I64 o.kind ∧ I64 o.e.amt ∧ ∀ e ∈ o.l, I64 e.amt)
set_option maxRecDepth 100000 in
theorem trod_op (n : Nat) (c : List Value) (y : DataW H × List MemPlace) (hc : c.length = 20) (h : DataW.trod enc Try.prog w base spare held n 53 c = some y) : ∃ z : LOp, OpR w z ∧ c.toArray = opE z := by
  obtain ⟨xs, m, _, _, _, hx, hf⟩ := DataW.trod_struct Try.underlying53 h
  have h3 : xs.length = 4 := hx
  have f0 := field_at (Q := fun i t o => DataW.trod enc Try.prog w base spare held m t ((c.drop o).take (Try.prog.cellsOf t)) = xs[i]?) hf 0 3 0 rfl
  have f1 := field_at (Q := fun i t o => DataW.trod enc Try.prog w base spare held m t ((c.drop o).take (Try.prog.cellsOf t)) = xs[i]?) hf 1 3 1 rfl
  have f2 := field_at (Q := fun i t o => DataW.trod enc Try.prog w base spare held m t ((c.drop o).take (Try.prog.cellsOf t)) = xs[i]?) hf 2 35 2 rfl
  have f3 := field_at (Q := fun i t o => DataW.trod enc Try.prog w base spare held m t ((c.drop o).take (Try.prog.cellsOf t)) = xs[i]?) hf 3 25 19 rfl
  have hs : Try.prog.cellsOf 3 = 1 := by kernel_rfl
  have he : Try.prog.cellsOf 35 = 17 := by kernel_rfl
  have hl : Try.prog.cellsOf 25 = 1 := by kernel_rfl
  rw [hs] at f0 f1
  rw [he] at f2
  rw [hl] at f3
  obtain ⟨a0, e0, _, w0⟩ := DataW.trod_int Try.underlying3 (f0.trans (List.getElem?_eq_getElem (by omega)))
  obtain ⟨a1, e1, _, w1⟩ := DataW.trod_int Try.underlying3 (f1.trans (List.getElem?_eq_getElem (by omega)))
  obtain ⟨z, w2, e2⟩ := trod_en _ _ _ (by rw [List.length_take, List.length_drop]; omega) (f2.trans (List.getElem?_eq_getElem (by omega)))
  obtain ⟨A, cap, l, e3, hrows, hok, hle, hcap⟩ := open_rows (α := En) (s := 17) (f := enE) (R := fun e => I64 e.amt) Try.underlying25 (by kernel_rfl) (by omega) trod_en (f3.trans (List.getElem?_eq_getElem (by omega)))
  unfold maxLen at hcap
  refine ⟨⟨a0, a1, z, A, cap, l⟩, ⟨hrows, by dsimp only; omega, bounds_i64 w1, w2, hok⟩, ?_⟩
  have e01 := take_two e0 e1
  have e2' : (c.drop 2).take 17 = (enE z).toList := by rw [← e2]
  rw [cut3 (i := 2) (j := 17) (k := 1) hc e01 e2' e3]
  apply Array.toList_inj.1
  simp [opE]
theorem open_entl {r : Reach} {b0 : Nat} {v : Value} {d : DataW H} {ps : List MemPlace} (hval : Value.okWide Try.prog w r b0 25 v) (h : DataW.Trod enc Try.prog w base spare held 25 v d ps) :
    ∃ x : List En × Option Addr × Nat, (RowsAt 17 enE w x.2.1 x.1 ∧ x.1.length ≤ 9223372036854775807 ∧ ∀ e ∈ x.1, I64 e.amt) ∧ v = .slice x.2.1 x.1.length x.2.2 := by
  obtain ⟨a, len, cap, rfl⟩ := okWide_slice Try.underlying25 hval
  obtain ⟨fuel, hf⟩ := h
  obtain ⟨a', cap', l, hcs, hrows, hok, hle, hcap⟩ := open_rows (α := En) (s := 17) (f := enE) (R := fun e => I64 e.amt) Try.underlying25 (by kernel_rfl) (by omega) trod_en hf
  simp [Value.cells] at hcs
  obtain ⟨rfl, rfl, rfl⟩ := hcs
  unfold maxLen at hcap
  exact ⟨(l, a, cap), ⟨hrows, by dsimp only; omega, hok⟩, rfl⟩
theorem open_opl {r : Reach} {b0 : Nat} {v : Value} {d : DataW H} {ps : List MemPlace} (hval : Value.okWide Try.prog w r b0 22 v) (h : DataW.Trod enc Try.prog w base spare held 22 v d ps) :
    ∃ x : List LOp × Option Addr × Nat, (ScAt w x.2.1 x.1 ∧ x.1.length ≤ 9223372036854775807 ∧ ∀ o ∈ x.1, o.l.length ≤ 9223372036854775807) ∧ v = .slice x.2.1 x.1.length x.2.2 := by
  obtain ⟨a, len, cap, rfl⟩ := okWide_slice Try.underlying22 hval
  obtain ⟨fuel, hf⟩ := h
  obtain ⟨a', cap', l, hcs, hrows, hok, hle, hcap⟩ := open_rows (α := LOp) (s := 20) (f := opE) (R := OpR w) Try.underlying22 (by kernel_rfl) (by omega) trod_op hf
  simp [Value.cells] at hcs
  obtain ⟨rfl, rfl, rfl⟩ := hcs
  unfold maxLen at hcap
  exact ⟨(l, a, cap), ⟨⟨hrows, fun o ho => (hok o ho).1, fun o ho => (hok o ho).2.2⟩, by dsimp only; omega, fun o ho => (hok o ho).2.1⟩, rfl⟩
end
end Go.Proofs.Ytnapfjgokeloeaa
