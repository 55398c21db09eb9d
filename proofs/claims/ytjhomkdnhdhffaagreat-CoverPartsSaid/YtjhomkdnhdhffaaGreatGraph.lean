/- Graphs: in memory, and as an argument. -/
import Derived.Test.YtjhomkdnhdhffaaGreatMemRows
import Derived.Test.YtjhomkdnhdhffaaGreatOpen
namespace Go.Proofs.YtjhomkdnhdhffaaGreat
open Go.RowKit Go.ChangeShapes Go.WideShapes

structure Ed where
  r : Int
  c : Int
  w : Int
deriving DecidableEq, Inhabited
structure Gr where
  rows : Int
  cols : Int
  es : List Ed
def edV (e : Ed) : Array Value := #[.int .i64 e.r, .int .i64 e.c, .int .i64 e.w]
def I64 (n : Int) : Prop := -9223372036854775808 ≤ n ∧ n ≤ 9223372036854775807
def EdOk (e : Ed) : Prop := I64 e.r ∧ I64 e.c ∧ I64 e.w
def grV (g : Gr) (a : Option Addr) (cap : Nat) : Value := .agg #[.int .i64 g.rows, .int .i64 g.cols, .slice a g.es.length cap]
structure GrOk (g : Gr) (cap : Nat) : Prop where
  rows : I64 g.rows
  cols : I64 g.cols
  es : ∀ e ∈ g.es, EdOk e
  len : g.es.length ≤ cap
  cap : cap ≤ 9223372036854775807
structure GraphAt (w : World) (v : Value) (g : Gr) (a : Option Addr) (cap : Nat) : Prop where
  val : v = grV g a cap
  ok : GrOk g cap
  rowsAt : RowsAt 3 edV w a g.es

section
variable {H : Type} {enc : TypeId × Value → H} {w : World} {base : Nat} {spare : Nat → Bool} {held : Bool}

theorem three {c : List Value} {a0 a1 a2 : Value} (hc : c.length = 3) (h0 : (c.drop 0).take 1 = [a0]) (h1 : (c.drop 1).take 1 = [a1]) (h2 : (c.drop 2).take 1 = [a2]) : c = [a0, a1, a2] := by
  match c, hc with
  | [x, y, z], _ => simp_all

theorem field_at {fs : Array Field} {Q : Nat → TypeId → Nat → Prop} (hf : ∀ (i : Nat) f, fs[i]? = some f → Q i f.type f.offset) (i : Nat) (ty : TypeId) (off : Nat) (h : (fs[i]?.map fun f => (f.type, f.offset)) = some (ty, off)) : Q i ty off := by
  obtain ⟨f, h1, h2⟩ := Option.map_eq_some_iff.1 h
  cases h2
  exact hf i f h1

theorem trod_ed (n : Nat) (c : List Value) (y : DataW H × List MemPlace) (hc : c.length = 3) (h : DataW.trod enc Tryz.prog w base spare held n 78 c = some y) : ∃ z : Ed, EdOk z ∧ c.toArray = edV z := by
  obtain ⟨xs, m, _, _, _, hx, hf⟩ := DataW.trod_struct Tryz.underlying78 h
  have h3 : xs.length = 3 := hx
  have f0 := field_at (Q := fun i t o => DataW.trod enc Tryz.prog w base spare held m t ((c.drop o).take (Tryz.prog.cellsOf t)) = xs[i]?) hf 0 3 0 rfl
  have f1 := field_at (Q := fun i t o => DataW.trod enc Tryz.prog w base spare held m t ((c.drop o).take (Tryz.prog.cellsOf t)) = xs[i]?) hf 1 3 1 rfl
  have f2 := field_at (Q := fun i t o => DataW.trod enc Tryz.prog w base spare held m t ((c.drop o).take (Tryz.prog.cellsOf t)) = xs[i]?) hf 2 3 2 rfl
  have hs : Tryz.prog.cellsOf 3 = 1 := by kernel_rfl
  rw [hs] at f0 f1 f2
  obtain ⟨a0, q0, _, w0⟩ := DataW.trod_int Tryz.underlying3 (f0.trans (List.getElem?_eq_getElem (by omega)))
  obtain ⟨a1, q1, _, w1⟩ := DataW.trod_int Tryz.underlying3 (f1.trans (List.getElem?_eq_getElem (by omega)))
  obtain ⟨a2, q2, _, w2⟩ := DataW.trod_int Tryz.underlying3 (f2.trans (List.getElem?_eq_getElem (by omega)))
  refine ⟨⟨a0, a1, a2⟩, ⟨bounds_i64 w0, bounds_i64 w1, bounds_i64 w2⟩, ?_⟩
  rw [three hc q0 q1 q2]; rfl

set_option maxRecDepth 100000 in
theorem open_graph {r : Reach} {b0 : Nat} {v : Value} {d : DataW H} {ps : List MemPlace} (hval : Value.okWide Tryz.prog w r b0 24 v) (h : DataW.Trod enc Tryz.prog w base spare held 24 v d ps) :
    ∃ g : Gr × Option Addr × Nat, (GrOk g.1 g.2.2 ∧ RowsAt 3 edV w g.2.1 g.1.es) ∧ v = grV g.1 g.2.1 g.2.2 := by
  obtain ⟨cs, rfl, hsz⟩ := okWide_struct Tryz.underlying24 hval
  have hs3 : Tryz.prog.cellsOf 24 = 3 := by kernel_rfl
  rw [hs3] at hsz
  obtain ⟨fuel, hf⟩ := h
  obtain ⟨xs, m, _, _, _, hx, hff⟩ := DataW.trod_struct Tryz.underlying24 hf
  have h3 : xs.length = 3 := hx
  simp only [Value.cells] at hff
  have f0 := field_at (Q := fun i t o => DataW.trod enc Tryz.prog w base spare held m t ((cs.toList.drop o).take (Tryz.prog.cellsOf t)) = xs[i]?) hff 0 3 0 rfl
  have f1 := field_at (Q := fun i t o => DataW.trod enc Tryz.prog w base spare held m t ((cs.toList.drop o).take (Tryz.prog.cellsOf t)) = xs[i]?) hff 1 3 1 rfl
  have f2 := field_at (Q := fun i t o => DataW.trod enc Tryz.prog w base spare held m t ((cs.toList.drop o).take (Tryz.prog.cellsOf t)) = xs[i]?) hff 2 22 2 rfl
  have hs : Tryz.prog.cellsOf 3 = 1 := by kernel_rfl
  have hs2 : Tryz.prog.cellsOf 22 = 1 := by kernel_rfl
  rw [hs] at f0 f1
  rw [hs2] at f2
  obtain ⟨a0, q0, _, w0⟩ := DataW.trod_int Tryz.underlying3 (f0.trans (List.getElem?_eq_getElem (by omega)))
  obtain ⟨a1, q1, _, w1⟩ := DataW.trod_int Tryz.underlying3 (f1.trans (List.getElem?_eq_getElem (by omega)))
  obtain ⟨a, cap, l, q2, hrows, hok, hle, hcap⟩ := open_rows (α := Ed) (s := 3) (f := edV) (R := EdOk) Tryz.underlying22 (by kernel_rfl) (by omega) trod_ed (f2.trans (List.getElem?_eq_getElem (by omega)))
  refine ⟨(⟨a0, a1, l⟩, a, cap), ⟨⟨bounds_i64 w0, bounds_i64 w1, hok, hle, hcap⟩, hrows⟩, ?_⟩
  have e := three (c := cs.toList) (by simpa using hsz) q0 q1 q2
  have e2 : cs = #[.int .i64 a0, .int .i64 a1, .slice a l.length cap] := by rw [← Array.toArray_toList (xs := cs), e]
  rw [e2]; rfl
end
end Go.Proofs.YtjhomkdnhdhffaaGreat
