/- Tables in memory: a graph's, and those of a search. -/
import Derived.Test.YtmddhjoomlhbcaaAsGr
import Derived.Test.YtmddhjoomlhbcaaLists
import Derived.WalkSmall
import Derived.Deep.QuietTactic
import Derived.BigRegion
import Derived.Laws.CopyRow
import Derived.Deep.Light
import Derived.Deep.Cut
namespace Go.Proofs.Ytmddhjoomlhbcaa
open Go.RowKit

def bls (l : List Bool) : Array Value := (l.map Value.bool).toArray
def BlsAt (w : World) (g : Nat) (T : TypeId) (l : List Bool) : Prop := w.heap[g]? = some (.cells (bls l) T (0, 0))
theorem BlsAt.cell {w : World} {g : Nat} {T : TypeId} {l : List Bool} (h : BlsAt w g T l) {k : Nat} (hk : k < l.length) : w.cell? ⟨g, k, none⟩ = some (.bool (getB l k)) :=
  row_cell h k _ (by simp [bls, getB, hk])
theorem BlsAt.set {w : World} {g : Nat} {T : TypeId} {l : List Bool} (h : BlsAt w g T l) (k : Nat) (b : Bool) : BlsAt (w.setCell ⟨g, k, none⟩ (.bool b)) g T (l.set k b) := by
  unfold BlsAt
  rw [row_setCell h]
  congr 2
  apply Array.ext_getElem?
  intro i
  simp only [bls, Array.getElem?_setIfInBounds, List.getElem?_toArray, List.getElem?_map, List.getElem?_set]
  by_cases hi : k = i
  · subst hi
    by_cases hk : k < l.length
    · simp [hk]
    · simp [hk]
  · simp [hi]
theorem BlsAt.other {w : World} {g : Nat} {T : TypeId} {l : List Bool} (h : BlsAt w g T l) {b : Nat} (hb : g ≠ b) (k : Nat) (u : Value) : BlsAt (w.setCell ⟨b, k, none⟩ u) g T l := by
  unfold BlsAt
  rw [heap_setCell_ne hb]; exact h
theorem BlsAt.kept {w w' : World} {g : Nat} {T : TypeId} {l : List Bool} (h : BlsAt w g T l) (hb : Below w.heap.size w w') : BlsAt w' g T l := below_keep hb h
theorem TabAt.cellI {w : World} {g : Nat} {T : TypeId} {l : List Int} (h : TabAt w g T l) {k : Nat} (hk : k < l.length) : w.cell? ⟨g, k, none⟩ = some (.int .i64 (getI l k)) :=
  h.cell (by unfold getI; rw [List.getElem?_eq_getElem hk]; rfl)
/-- .. with its value's other name. -/
theorem TabAt.cellV {w : World} {g : Nat} {T : TypeId} {l : List Int} (h : TabAt w g T l) {k : Nat} (hk : k < l.length) {n : Int} (hn : getI l k = n) : w.cell? ⟨g, k, none⟩ = some (.int .i64 n) := by
  rw [← hn]; exact h.cellI hk

/-- The weights that a table of 64 by 64 holds. -/
def wOf (T : List Int) (r c : Nat) : Int := if r < 64 ∧ c < 64 then getI T (64 * r + c) else 0
def tblL (R C : Nat) (T : List Int) : List Value := [.int .i64 R, .int .i64 C] ++ intV T
structure TblAt (w : World) (tp R C : Nat) (T : List Int) : Prop where
  row : w.heap[tp]? = some (.cells (tblL R C T).toArray 67 (0, 0))
  len : T.length = 4096
section
variable {w w' : World} {tp R C : Nat} {T : List Int}
theorem TblAt.rows (h : TblAt w tp R C T) : w.cell? ⟨tp, 0, none⟩ = some (.int .i64 R) := row_cell h.row 0 _ rfl
theorem TblAt.cols (h : TblAt w tp R C T) : w.cell? ⟨tp, 1, none⟩ = some (.int .i64 C) := row_cell h.row 1 _ rfl
theorem TblAt.at (h : TblAt w tp R C T) {r c : Nat} (hr : r < 64) (hc : c < 64) : w.cell? ⟨tp, 2 + r * 64 + c, none⟩ = some (.int .i64 (wOf T r c)) := by
  refine row_cell h.row _ _ ?_
  have hl := h.len
  unfold tblL wOf getI
  rw [if_pos ⟨hr, hc⟩, List.getElem?_toArray, List.getElem?_append_right (by simp; omega)]
  show (intV T)[2 + r * 64 + c - 2]? = _
  rw [show 2 + r * 64 + c - 2 = 64 * r + c by omega]
  unfold intV
  rw [List.getElem?_map, List.getElem?_eq_getElem (by omega)]; rfl
theorem TblAt.kept (h : TblAt w tp R C T) (hb : Below w.heap.size w w') : TblAt w' tp R C T := ⟨below_keep hb h.row, h.len⟩
theorem TblAt.other (h : TblAt w tp R C T) {b : Nat} (hb : tp ≠ b) (k : Nat) (u : Value) : TblAt (w.setCell ⟨b, k, none⟩ u) tp R C T := ⟨by rw [heap_setCell_ne hb]; exact h.row, h.len⟩
theorem TblAt.set (h : TblAt w tp R C T) {r c : Nat} (hr : r < 64) (hc : c < 64) (n : Int) : TblAt (w.setCell ⟨tp, 2 + r * 64 + c, none⟩ (.int .i64 n)) tp R C (T.set (64 * r + c) n) := by
  refine ⟨?_, by simp [h.len]⟩
  rw [row_setCell h.row]
  congr 2
  unfold tblL intV
  rw [List.setIfInBounds_toArray, List.set_append_right _ _ (by simp; omega)]
  rw [show 2 + r * 64 + c - [Value.int .i64 (R : Int), Value.int .i64 (C : Int)].length = 64 * r + c by simp; omega]
  simp [List.map_set]
end

/-- The search's tables, but for those of one row. -/
structure HvAt (w0 w : World) (tp rb ub vb ob wb R C : Nat) (T tt u v o way : List Int) : Prop where
  tbl : TblAt w tp R C T
  res : TabAt w rb 64 tt
  u : TabAt w ub 77 u
  v : TabAt w vb 77 v
  o : TabAt w ob 77 o
  way : TabAt w wb 77 way
  below : Below w0.heap.size w0 w
  ord : tp < w0.heap.size ∧ w0.heap.size ≤ rb ∧ rb < ub ∧ ub < vb ∧ vb < ob ∧ ob < wb
/-- .. and those of one row. -/
structure HwAt (w0 w : World) (tp rb ub vb ob wb lb xb R C : Nat) (T tt u v o way least : List Int) (used : List Bool) : Prop where
  base : HvAt w0 w tp rb ub vb ob wb R C T tt u v o way
  least : TabAt w lb 77 least
  used : BlsAt w xb 78 used
  ord : wb < lb ∧ lb < xb
section
variable {w0 w w' : World} {tp rb ub vb ob wb lb xb R C : Nat} {T tt u v o way least : List Int} {used : List Bool}
theorem HvAt.kept (h : HvAt w0 w tp rb ub vb ob wb R C T tt u v o way) (hb : Below w.heap.size w w') : HvAt w0 w' tp rb ub vb ob wb R C T tt u v o way :=
  ⟨h.tbl.kept hb, h.res.kept hb, h.u.kept hb, h.v.kept hb, h.o.kept hb, h.way.kept hb, h.below.trans (hb.mono h.below.size), h.ord⟩
theorem HwAt.kept (h : HwAt w0 w tp rb ub vb ob wb lb xb R C T tt u v o way least used) (hb : Below w.heap.size w w') : HwAt w0 w' tp rb ub vb ob wb lb xb R C T tt u v o way least used :=
  ⟨h.base.kept hb, h.least.kept hb, h.used.kept hb, h.ord⟩
theorem HvAt.drewN (h : HvAt w0 w tp rb ub vb ob wb R C T tt u v o way) (n : Nat) : HvAt w0 (w.drewN n) tp rb ub vb ob wb R C T tt u v o way := h.kept ⟨rfl, rfl, rfl, Nat.le_refl _, fun _ _ => rfl⟩
theorem HwAt.drewN (h : HwAt w0 w tp rb ub vb ob wb lb xb R C T tt u v o way least used) (n : Nat) : HwAt w0 (w.drewN n) tp rb ub vb ob wb lb xb R C T tt u v o way least used := h.kept ⟨rfl, rfl, rfl, Nat.le_refl _, fun _ _ => rfl⟩
theorem HvAt.setRes (h : HvAt w0 w tp rb ub vb ob wb R C T tt u v o way) (k : Nat) (n : Int) : HvAt w0 (w.setCell ⟨rb, k, none⟩ (.int .i64 n)) tp rb ub vb ob wb R C T (tt.set k n) u v o way := by
  have := h.ord
  exact ⟨h.tbl.other (by omega) _ _, h.res.set k n, h.u.other (by omega) _ _, h.v.other (by omega) _ _, h.o.other (by omega) _ _, h.way.other (by omega) _ _, h.below.setCell (by show w0.heap.size ≤ rb; omega) _, h.ord⟩
theorem HvAt.setU (h : HvAt w0 w tp rb ub vb ob wb R C T tt u v o way) (k : Nat) (n : Int) : HvAt w0 (w.setCell ⟨ub, k, none⟩ (.int .i64 n)) tp rb ub vb ob wb R C T tt (u.set k n) v o way := by
  have := h.ord
  exact ⟨h.tbl.other (by omega) _ _, h.res.other (by omega) _ _, h.u.set k n, h.v.other (by omega) _ _, h.o.other (by omega) _ _, h.way.other (by omega) _ _, h.below.setCell (by show w0.heap.size ≤ ub; omega) _, h.ord⟩
theorem HvAt.setV (h : HvAt w0 w tp rb ub vb ob wb R C T tt u v o way) (k : Nat) (n : Int) : HvAt w0 (w.setCell ⟨vb, k, none⟩ (.int .i64 n)) tp rb ub vb ob wb R C T tt u (v.set k n) o way := by
  have := h.ord
  exact ⟨h.tbl.other (by omega) _ _, h.res.other (by omega) _ _, h.u.other (by omega) _ _, h.v.set k n, h.o.other (by omega) _ _, h.way.other (by omega) _ _, h.below.setCell (by show w0.heap.size ≤ vb; omega) _, h.ord⟩
theorem HvAt.setO (h : HvAt w0 w tp rb ub vb ob wb R C T tt u v o way) (k : Nat) (n : Int) : HvAt w0 (w.setCell ⟨ob, k, none⟩ (.int .i64 n)) tp rb ub vb ob wb R C T tt u v (o.set k n) way := by
  have := h.ord
  exact ⟨h.tbl.other (by omega) _ _, h.res.other (by omega) _ _, h.u.other (by omega) _ _, h.v.other (by omega) _ _, h.o.set k n, h.way.other (by omega) _ _, h.below.setCell (by show w0.heap.size ≤ ob; omega) _, h.ord⟩
theorem HvAt.setWay (h : HvAt w0 w tp rb ub vb ob wb R C T tt u v o way) (k : Nat) (n : Int) : HvAt w0 (w.setCell ⟨wb, k, none⟩ (.int .i64 n)) tp rb ub vb ob wb R C T tt u v o (way.set k n) := by
  have := h.ord
  exact ⟨h.tbl.other (by omega) _ _, h.res.other (by omega) _ _, h.u.other (by omega) _ _, h.v.other (by omega) _ _, h.o.other (by omega) _ _, h.way.set k n, h.below.setCell (by show w0.heap.size ≤ wb; omega) _, h.ord⟩
theorem HvAt.other (h : HvAt w0 w tp rb ub vb ob wb R C T tt u v o way) {b : Nat} (hb : wb < b) (k : Nat) (x : Value) : HvAt w0 (w.setCell ⟨b, k, none⟩ x) tp rb ub vb ob wb R C T tt u v o way := by
  have := h.ord
  exact ⟨h.tbl.other (by omega) _ _, h.res.other (by omega) _ _, h.u.other (by omega) _ _, h.v.other (by omega) _ _, h.o.other (by omega) _ _, h.way.other (by omega) _ _, h.below.setCell (by show w0.heap.size ≤ b; omega) _, h.ord⟩
theorem HwAt.setU (h : HwAt w0 w tp rb ub vb ob wb lb xb R C T tt u v o way least used) (k : Nat) (n : Int) : HwAt w0 (w.setCell ⟨ub, k, none⟩ (.int .i64 n)) tp rb ub vb ob wb lb xb R C T tt (u.set k n) v o way least used := by
  have := h.base.ord
  have := h.ord
  exact ⟨h.base.setU k n, h.least.other (by omega) _ _, h.used.other (by omega) _ _, h.ord⟩
theorem HwAt.setV (h : HwAt w0 w tp rb ub vb ob wb lb xb R C T tt u v o way least used) (k : Nat) (n : Int) : HwAt w0 (w.setCell ⟨vb, k, none⟩ (.int .i64 n)) tp rb ub vb ob wb lb xb R C T tt u (v.set k n) o way least used := by
  have := h.base.ord
  have := h.ord
  exact ⟨h.base.setV k n, h.least.other (by omega) _ _, h.used.other (by omega) _ _, h.ord⟩
theorem HwAt.setO (h : HwAt w0 w tp rb ub vb ob wb lb xb R C T tt u v o way least used) (k : Nat) (n : Int) : HwAt w0 (w.setCell ⟨ob, k, none⟩ (.int .i64 n)) tp rb ub vb ob wb lb xb R C T tt u v (o.set k n) way least used := by
  have := h.base.ord
  have := h.ord
  exact ⟨h.base.setO k n, h.least.other (by omega) _ _, h.used.other (by omega) _ _, h.ord⟩
theorem HwAt.setWay (h : HwAt w0 w tp rb ub vb ob wb lb xb R C T tt u v o way least used) (k : Nat) (n : Int) : HwAt w0 (w.setCell ⟨wb, k, none⟩ (.int .i64 n)) tp rb ub vb ob wb lb xb R C T tt u v o (way.set k n) least used := by
  have := h.base.ord
  have := h.ord
  exact ⟨h.base.setWay k n, h.least.other (by omega) _ _, h.used.other (by omega) _ _, h.ord⟩
theorem HwAt.setLeast (h : HwAt w0 w tp rb ub vb ob wb lb xb R C T tt u v o way least used) (k : Nat) (n : Int) : HwAt w0 (w.setCell ⟨lb, k, none⟩ (.int .i64 n)) tp rb ub vb ob wb lb xb R C T tt u v o way (least.set k n) used := by
  have := h.ord
  exact ⟨h.base.other (by omega) _ _, h.least.set k n, h.used.other (by omega) _ _, h.ord⟩
theorem HwAt.setUsed (h : HwAt w0 w tp rb ub vb ob wb lb xb R C T tt u v o way least used) (k : Nat) (b : Bool) : HwAt w0 (w.setCell ⟨xb, k, none⟩ (.bool b)) tp rb ub vb ob wb lb xb R C T tt u v o way least (used.set k b) := by
  have := h.ord
  exact ⟨h.base.other (by omega) _ _, h.least.other (by omega) _ _, h.used.set k b, h.ord⟩
end

/-- The load of one cell in a quiet walk. -/
theorem quiet_load_cell {P : Program} {o : Oper} {a : Act} {W : World} {K : Act → Prop} (ty : TypeId) (x : Operand) (ho : o.op = .load ty x)
    (g off : Nat) (hx : a.eval x = .pointer (some ⟨g, off, none⟩)) (v : Value) (hc : W.cell? ⟨g, off, none⟩ = some v)
    (hs : ∀ w : World, w.cell? ⟨g, off, none⟩ = some v → (loadVar ty ⟨g, off, none⟩).run P w = .ok v w)
    (h : K (a.put o.dst v)) : o.quiet P a (fun w' => ∃ X : Bw W, w' = X.1) K := by
  refine ⟨v, ?_, h⟩
  rintro w ⟨X, rfl⟩
  have hlt : g < W.heap.size := by
    by_cases e : g < W.heap.size
    · exact e
    · simp [World.cell?, Array.getElem?_eq_none (Nat.le_of_not_lt e)] at hc
  have := hs X.1 ((Bw.cell X _ _ hlt).trans hc)
  unfold Oper.quietAt execOp
  simp only [ho, hx, Instr.loadAt, Instr.sureAddr, Sem.run_bind, Sem.run_pure, Result.andThen_ok, this]
  exact ⟨rfl, rfl⟩
/-- A whole row stored over itself in a quiet walk. -/
theorem quiet_store_self {P : Program} {o : Oper} {a : Act} {W : World} {K : Act → Prop} (ty : TypeId) (x y : Operand) (ho : o.op = .store ty x y)
    (g : Nat) (hx : a.eval x = .pointer (some ⟨g, 0, none⟩)) (cs : Array Value) (hy : a.eval y = .agg cs) (t : TypeId) (hg : W.heap[g]? = some (.cells cs t (0, 0))) (h1 : ∀ v ∈ cs.toList, v.oneCell' = true)
    (hi : (P.info? ty).map (·.size) = some cs.size) (h : K (a.put o.dst undef)) : o.quiet P a (fun w' => ∃ X : Bw W, w' = X.1) K := by
  refine ⟨undef, ?_, h⟩
  rintro w ⟨X, rfl⟩
  have hg' : X.1.heap[g]? = some (.cells cs t (0, 0)) := (X.block g (heap_lt hg)).trans hg
  unfold Oper.quietAt execOp
  simp only [ho, hx, hy, Instr.storeAt, Instr.sureAddr, Sem.run_bind, Sem.run_pure, Result.andThen_ok, run_storeVar_all X.1 g t cs cs hg' rfl h1 hi, setRow_self X.1 g cs t (0, 0) hg']
  exact ⟨rfl, rfl⟩
/-- Two results in rows of memory. -/
theorem results_two {P : Program} {fn : Func} {p q : Tmp} {ty : TypeId} (h : fn.results = #[.cell p ty, .cell q ty]) (tmps : Array Value) (w : World) (g g2 : Nat) (t t2 : TypeId) (cs cs2 : Array Value) (fr fr2 : Nat × Nat) (d : TypeDesc)
    (hp : tmps.getD p undef = .pointer (some ⟨g, 0, none⟩)) (hg : w.heap[g]? = some (.cells cs t fr)) (hq : tmps.getD q undef = .pointer (some ⟨g2, 0, none⟩)) (hg2 : w.heap[g2]? = some (.cells cs2 t2 fr2))
    (hu : P.underlying ty = some d) (hd : (match d with | .struct _ | .array _ _ => true | _ => false) = true) (hi : (P.info? ty).map (·.size) = some cs.size) (hi2 : (P.info? ty).map (·.size) = some cs2.size) :
    (results fn tmps).run P w = .ok (.tuple #[.agg cs, .agg cs2]) w := by
  have hp' : tmps[p]?.getD undef = .pointer (some ⟨g, 0, none⟩) := by simpa using hp
  have hq' : tmps[q]?.getD undef = .pointer (some ⟨g2, 0, none⟩) := by simpa using hq
  simp [results, h, hp', hq', asAddr, run_loadVar_row w g t ty cs fr d hg hu hd hi, run_loadVar_row w g2 t2 ty cs2 fr2 d hg2 hu hd hi2]

/-! ### New tables -/
def z65 : Array Value := ints (List.replicate 65 0)
def b65 : Array Value := bls (List.replicate 65 false)
theorem z65_ne : z65 ≠ #[] := by
  intro h
  have h2 : z65.size = 65 := by kernel_rfl
  rw [h] at h2
  cases h2
theorem b65_ne : b65 ≠ #[] := by
  intro h
  have h2 : b65.size = 65 := by kernel_rfl
  rw [h] at h2
  cases h2
theorem zeroValue_z65 (w : World) : Sem.run Try.prog (zeroValue 77) w = .ok (.agg z65) w := by kernel_rfl
theorem zeroValue_b65 (w : World) : Sem.run Try.prog (zeroValue 78) w = .ok (.agg b65) w := by kernel_rfl
/-- How many marks of a table are not set. -/
def unu (w : World) (g : Nat) : Nat := match w.heap[g]? with
  | some (.cells cs _ _) => (cs.toList.filter fun v => match v with | .bool false => true | _ => false).length
  | _ => 0
theorem unu_at {w : World} {g : Nat} {T : TypeId} {l : List Bool} (h : BlsAt w g T l) : unu w g = unmet l := by
  have e : ∀ m : List Bool, ((m.map Value.bool).filter fun v => match v with | .bool false => true | _ => false).length = unmet m := by
    intro m
    induction m with
    | nil => rfl
    | cons b m ih => cases b <;> simp_all [unmet]
  unfold unu
  rw [h]
  exact e l
/-- The first k entries are laid. -/
def fillM (k : Nat) : List Int := List.replicate k (-1) ++ List.replicate (64 - k) 0
theorem fillM_set {k : Nat} (hk : k < 64) : (fillM k).set k (-1) = fillM (k + 1) := by
  unfold fillM
  apply List.ext_getElem?
  intro i
  simp only [List.getElem?_set, List.getElem?_append, List.length_append, List.length_replicate, List.getElem?_replicate]
  by_cases h : k = i
  · subst h
    rw [if_pos rfl, if_pos (by omega), if_pos (by omega), if_pos (by omega)]
  · rw [if_neg h]
    by_cases h1 : i < k
    · rw [if_pos h1, if_pos h1, if_pos (by omega), if_pos (by omega)]
    · rw [if_neg h1, if_neg (by omega : ¬ i < k + 1)]
      by_cases h2 : i < 64
      · rw [if_pos (by omega), if_pos (by omega)]
      · rw [if_neg (by omega), if_neg (by omega)]
theorem fillM_len {k : Nat} (hk : k ≤ 64) : (fillM k).length = 64 := by simp [fillM]; omega
theorem info_64 : (Try.prog.info? 64).map (·.size) = some 64 := by kernel_rfl
theorem ints_one (l : List Int) : ∀ v ∈ (ints l).toList, v.oneCell' = true := by
  intro v hv
  simp [ints] at hv
  obtain ⟨x, _, rfl⟩ := hv
  rfl
/-- The first k costs are laid. -/
def fillF (k : Nat) : List Int := List.replicate k 1152921504606846976 ++ List.replicate (65 - k) 0
theorem fillF_set {k : Nat} (hk : k < 65) : (fillF k).set k 1152921504606846976 = fillF (k + 1) := by
  unfold fillF
  apply List.ext_getElem?
  intro i
  simp only [List.getElem?_set, List.getElem?_append, List.length_append, List.length_replicate, List.getElem?_replicate]
  by_cases h : k = i
  · subst h
    rw [if_pos rfl, if_pos (by omega), if_pos (by omega), if_pos (by omega)]
  · rw [if_neg h]
    by_cases h1 : i < k
    · rw [if_pos h1, if_pos h1, if_pos (by omega), if_pos (by omega)]
    · rw [if_neg h1, if_neg (by omega : ¬ i < k + 1)]
      by_cases h2 : i < 65
      · rw [if_pos (by omega), if_pos (by omega)]
      · rw [if_neg (by omega), if_neg (by omega)]
theorem fillF_len {k : Nat} (hk : k ≤ 65) : (fillF k).length = 65 := by simp [fillF]; omega
end Go.Proofs.Ytmddhjoomlhbcaa
