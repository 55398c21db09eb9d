/- Small laws of the walk that hold over any program: arrays by value, equality of arrays, regions whose calls only lay new blocks. -/
import Derived.WalkKit
import Derived.WalkSpells
import Derived.WalkLawsBesides
import Derived.BigQuiet
import Derived.StillTailTactics
namespace Go.Proofs.Ytkaalppmheikgaa
open Go.RowKit

theorem hid {p : Prop} (h : p) : Hid p := h

section
variable {P : Program}

theorem run_isAgg_no {e : TypeId} {d : TypeDesc} (hd : P.underlying e = some d) (hd2 : (match d with | .struct _ | .array _ _ => false | _ => true) = true) (w : World) :
    (isAgg e).run P w = .ok false w := by
  unfold isAgg
  rw [Sem.run_bind, run_underlying hd w]
  cases d <;> simp_all

theorem run_isAgg_yes {e : TypeId} {d : TypeDesc} (hd : P.underlying e = some d) (hd2 : (match d with | .struct _ | .array _ _ => true | _ => false) = true) (w : World) :
    (isAgg e).run P w = .ok true w := by
  unfold isAgg
  rw [Sem.run_bind, run_underlying hd w]
  cases d <;> simp_all

theorem run_part1 {e : TypeId} {d : TypeDesc} (hd : P.underlying e = some d) (hd2 : (match d with | .struct _ | .array _ _ => false | _ => true) = true) (cs : Array Value) (k : Nat) (v : Value) (hv : cs[k]? = some v) (w : World) :
    (part e cs k).run P w = .ok v w := by
  simp [part, Sem.run_bind, run_isAgg_no hd hd2, hv]

/-- The k-th element of an array value whose elements are of one cell. -/
theorem run_index_arr {T n e : Nat} {cs : Array Value} {v : Value} (d : TypeDesc) (hu : P.underlying T = some (.array n e)) (hd : P.underlying e = some d) (hd2 : (match d with | .struct _ | .array _ _ => false | _ => true) = true) (hi : (P.info? e).isSome = true) (hs : P.cellsOf e = 1) (k : Nat) (hk : k < n) (hv : cs[k]? = some v) (w : World) :
    (Instr.index T (.agg cs) (.int .i64 k)).run P w = .ok v w := by
  obtain ⟨i, hi⟩ := Option.isSome_iff_exists.1 hi
  unfold Instr.index
  simp only [asIntOf, pure_bind, Sem.run_bind, run_underlying hu w, Result.andThen_ok]
  rw [if_pos ⟨by omega, by omega⟩]
  simp only [Sem.run_bind, run_sizeOf w hi, Result.andThen_ok, hs]
  exact run_part1 hd hd2 cs _ v (by simpa using hv) w

theorem forIn_ints (e : TypeId) (k : IntKind) (he : P.underlying e = some (.int k)) (d : Nat) (xs ys : Array Value) (l m : List Int) (hx : xs = (l.map (Value.int k)).toArray) (hy : ys = (m.map (Value.int k)).toArray) (hlm : l.length = m.length) (w : World) :
    ∀ (r s : Nat), s + r = l.length →
    ((forIn (List.range' s r) (none, PUnit.unit) fun (i : Nat) (_ : Option Bool × PUnit) => do
        let a ← part e xs (i * 1)
        let b ← part e ys (i * 1)
        let c ← Op.equalIn (d + 1) e a b
        if (!c) = true then pure (ForInStep.done (some false, PUnit.unit)) else pure (ForInStep.yield (none, PUnit.unit))) : Sem (Option Bool × PUnit)).run P w =
      .ok (if l.drop s = m.drop s then none else some false, PUnit.unit) w := by
  intro r
  induction r with
  | zero =>
    intro s hs
    have h1 : l.drop s = [] := List.drop_of_length_le (by omega)
    have h2 : m.drop s = [] := List.drop_of_length_le (by omega)
    simp [h1, h2]
  | succ r ih =>
    intro s hs
    have hl : s < l.length := by omega
    have hm : s < m.length := by omega
    have e1 : xs[s * 1]? = some (.int k l[s]) := by simp [hx, hl]
    have e2 : ys[s * 1]? = some (.int k m[s]) := by simp [hy, hm]
    rw [List.range'_succ]
    simp only [List.forIn_cons, Sem.run_bind, run_part1 he rfl xs _ _ e1, run_part1 he rfl ys _ _ e2, Result.andThen_ok, run_equalIn_int w d e k k _ _ he]
    by_cases h : l[s] = m[s]
    · have hb : (l[s] == m[s]) = true := by simpa using h
      simp only [hb, Bool.not_true, Bool.false_eq_true, if_false, Sem.run_pure, Result.andThen_ok]
      rw [ih (s + 1) (by omega)]
      rw [List.drop_eq_getElem_cons hl, List.drop_eq_getElem_cons hm, h]
      simp only [List.cons.injEq, true_and]
    · have hb : (l[s] == m[s]) = false := by simpa using h
      simp only [hb, Bool.not_false, if_true, Sem.run_pure, Result.andThen_ok]
      rw [List.drop_eq_getElem_cons hl, List.drop_eq_getElem_cons hm]
      simp only [List.cons.injEq, h, false_and, if_false]

/-- Two arrays of integers: '==' is the equality of the lists. -/
theorem run_equalIn_ints {T n e : Nat} {k : IntKind} (hu : P.underlying T = some (.array n e)) (he : P.underlying e = some (.int k)) (hi : (P.info? e).isSome = true) (hs : P.cellsOf e = 1) (d : Nat) (l m : List Int) (hl : l.length = n) (hm : m.length = n) (w : World) :
    (Op.equalIn (d + 2) T (.agg (l.map (Value.int k)).toArray) (.agg (m.map (Value.int k)).toArray)).run P w = .ok (decide (l = m)) w := by
  obtain ⟨i, hi⟩ := Option.isSome_iff_exists.1 hi
  have h := forIn_ints e k he d _ _ l m rfl rfl (by omega) w n 0 (by omega)
  rw [Op.equalIn]
  simp only [Sem.run_bind, run_underlying hu w, Result.andThen_ok, run_sizeOf w hi, hs, Std.Legacy.Range.forIn_eq_forIn_range', Std.Legacy.Range.size, Nat.sub_zero, Nat.add_sub_cancel, Nat.div_one]
  refine Eq.trans (congrArg (fun r => Result.andThen r _) h) ?_
  by_cases e : l = m
  · simp [e]
  · simp [e]

/-! ### A region that draws its order, whose operations read what stood there when it began, and whose calls lay new blocks only -/

/-- The worlds that are as W below its end. -/
def Bw (W : World) : Type := { x : World // Below W.heap.size W x }
instance instBw (W : World) : Nonempty (Bw W) := ⟨⟨W, Below.refl _ _⟩⟩

theorem wp_region_bw {id : Nat} {Q : Exit → Act → World → Prop} {a : Act} {w : World} {l : List Oper} (hm : P.follows .mixedOrders = true) (hB : Region.lexB .any l.toArray = true)
    (h : wpQuiet P l.toArray (fun w' => ∃ X : Bw w, w' = X.1) (fun a' => ∀ w', (∃ X : Bw w, w' = X.1) → Q .normal a' w') l a) : (Code.region id l.toArray true).wp P Q a w :=
  wp_region_quiet (C := fun w' => ∃ X : Bw w, w' = X.1) hm hB ⟨⟨w.drew, (Below.refl _ _).drew⟩, rfl⟩ (by simpa using h)

theorem Bw.cell {W : World} (X : Bw W) (b o : Nat) (h : b < W.heap.size) : X.1.cell? ⟨b, o, none⟩ = W.cell? ⟨b, o, none⟩ := X.2.cell (p := ⟨b, o, none⟩) h
theorem Bw.block {W : World} (X : Bw W) (b : Nat) (h : b < W.heap.size) : X.1.heap[b]? = W.heap[b]? := X.2.block b h

/-- A contract that ends in 'Below', met in a world of the class. -/
theorem Calls.bw {f : FuncId} {args : Array Value} {W : World} {X : Bw W} {v : Value}
    (h : Calls P f args X.1 fun e w' => e = .returned v ∧ Below X.1.heap.size X.1 w') : Calls P f args X.1 fun e w'' => e = .returned v ∧ ∃ Y : Bw W, w'' = Y.1 :=
  h.mono fun _ w'' ⟨he, hb⟩ => ⟨he, ⟨w'', X.2.trans (hb.mono X.2.size)⟩, rfl⟩

/-- The load of a whole array (a whole struct) in a quiet walk. -/
theorem quiet_load_row {o : Oper} {a : Act} {W : World} {K : Act → Prop} (ty : TypeId) (x : Operand) (ho : o.op = .load ty x)
    (g : Nat) (hx : a.eval x = .pointer (some ⟨g, 0, none⟩)) (t : TypeId) (cs : Array Value) (fr : Nat × Nat) (d : TypeDesc) (hg : W.heap[g]? = some (.cells cs t fr))
    (hu : P.underlying ty = some d) (hd : (match d with | .struct _ | .array _ _ => true | _ => false) = true) (hi : (P.info? ty).map (·.size) = some cs.size)
    (h : K (a.put o.dst (.agg cs))) : o.quiet P a (fun w' => ∃ X : Bw W, w' = X.1) K := by
  refine ⟨.agg cs, ?_, h⟩
  rintro w ⟨X, rfl⟩
  have hlt : g < W.heap.size := by
    by_cases e : g < W.heap.size
    · exact e
    · simp [Array.getElem?_eq_none (Nat.le_of_not_lt e)] at hg
  have hg' : X.1.heap[g]? = some (.cells cs t fr) := (X.block g hlt).trans hg
  unfold Oper.quietAt execOp
  simp only [ho, hx, Instr.loadAt, Instr.sureAddr, Sem.run_bind, Sem.run_pure, Result.andThen_ok, run_loadVar_row X.1 g t ty cs fr d hg' hu hd hi]
  exact ⟨rfl, rfl⟩

/-! ### A whole row stored and loaded -/

theorem setRow_alloc (u : World) (cur vs : Array Value) (t : TypeId) : (u.alloc (.cells cur t)).setRow u.heap.size vs = u.alloc (.cells vs t) := by
  simp only [World.setRow, World.alloc]
  congr 1
  apply Array.ext_getElem?
  intro i
  rw [Array.getElem?_modify, Array.getElem?_push, Array.getElem?_push]
  by_cases h : u.heap.size = i
  · simp [h]
  · simp [h, Ne.symm h]

theorem below_setRow' {B g : Nat} {w0 w : World} (hb : Below B w0 w) (hBg : B ≤ g) (cs : Array Value) : Below B w0 (w.setRow g cs) :=
  hb.trans ⟨rfl, rfl, rfl, by simp [World.setRow], fun k hk => setRow_other w g k cs (by omega)⟩

theorem run_storeVar_all {ty : TypeId} (w : World) (g : Nat) (t : TypeId) (cur vs : Array Value) (hg : w.heap[g]? = some (.cells cur t (0, 0))) (hl : vs.size = cur.size) (h1 : ∀ v ∈ vs.toList, v.oneCell' = true) (hi : (P.info? ty).map (·.size) = some vs.size) :
    (storeVar ty ⟨g, 0, none⟩ (.agg vs)).run P w = .ok () (w.setRow g vs) := by
  have h := run_storeCells_at (P := P) g 0 t vs.toList 0 cur w hg (by simp; omega) h1
  cases hq : P.info? ty with
  | none => simp [hq] at hi
  | some i =>
    have hs : vs.size = i.size := by simp [hq] at hi; omega
    have e : (cur.toList.take (0 + 0) ++ vs.toList ++ cur.toList.drop (0 + 0 + vs.toList.length)).toArray = vs := by
      have e2 : cur.toList.drop (0 + 0 + vs.toList.length) = [] := List.drop_of_length_le (by simp; omega)
      rw [e2]; simp
    rw [e] at h
    simp [storeVar, sizeOf, typeInfo, hq, Value.cells, hs, h]

theorem wpList_store_row {ops : Array Oper} {rest : List Oper} {o : Oper} {a : Act} {w : World} {Q : Exit → Act → World → Prop} (hgd : o.guard = none) (ty : TypeId) (x y : Operand) (ho : o.op = .store ty x y)
    (g : Nat) (hx : a.eval x = .pointer (some ⟨g, 0, none⟩)) (vs : Array Value) (hy : a.eval y = .agg vs) (t : TypeId) (cur : Array Value) (hg : w.heap[g]? = some (.cells cur t (0, 0))) (hl : vs.size = cur.size) (h1 : ∀ v ∈ vs.toList, v.oneCell' = true)
    (hi : (P.info? ty).map (·.size) = some vs.size) (w' : World) (hw' : w.setRow g vs = w') (h : wpList P ops Q rest (a.put o.dst undef) w') : wpList P ops Q (o :: rest) a w :=
  wpList_plain hgd fun _ hK => by
    subst hw'
    unfold Oper.wp execOp
    simp only [ho, hx, hy, Instr.storeAt, Instr.sureAddr, Sem.run_bind, Sem.run_pure, Result.andThen_ok, run_storeVar_all w g t cur vs hg hl h1 hi]
    exact hK _ _ h

theorem heap_lt {w : World} {b : Nat} {o : Obj} (h : w.heap[b]? = some o) : b < w.heap.size := by
  by_cases e : b < w.heap.size
  · exact e
  · simp [Array.getElem?_eq_none (Nat.le_of_not_lt e)] at h
theorem alloc_keep {w : World} {b : Nat} {o : Obj} (h : w.heap[b]? = some o) (o' : Obj) : (w.alloc o').heap[b]? = some o := by
  rw [Below.heap_alloc w o' b (heap_lt h)]; exact h
theorem setRow_keep {w : World} {b : Nat} {o : Obj} (h : w.heap[b]? = some o) (g : Nat) (cs : Array Value) (hb : b ≠ g) : (w.setRow g cs).heap[b]? = some o := by
  rw [setRow_other w g b cs hb]; exact h
theorem below_keep {W w1 : World} (hb : Below W.heap.size W w1) {b : Nat} {o : Obj} (h : W.heap[b]? = some o) : w1.heap[b]? = some o := by
  rw [hb.block b (heap_lt h)]; exact h
theorem alloc_size (w : World) (o : Obj) : (w.alloc o).heap.size = w.heap.size + 1 := by simp

theorem add_off (g j : Nat) : (⟨g, 0, none⟩ : Addr).add j = ⟨g, j, none⟩ := by unfold Addr.add; split <;> simp_all
/-- What a new block's cells hold. -/
theorem cells_new (w : World) (cs : List Value) (t : TypeId) : ∀ j u, cs[j]? = some u → (w.alloc (.cells cs.toArray t)).cell? ((⟨w.heap.size, 0, none⟩ : Addr).add j) = some u := by
  intro j u hj
  rw [add_off, cell_of_row _ _ _ _ _ _ (heap_alloc_new _ _)]
  simpa using hj

theorem ownsRow_form' {w : World} {base size n : Nat} {e : TypeId} {v : Value} {xs : List Value} (h : w.ownsRow base e size v n xs) (hn : 0 < n) : ∃ g cap, v = .slice (some ⟨g, 0, none⟩) n cap := by
  obtain ⟨_, ⟨_, h0⟩ | ⟨g, cap, _, hv, _⟩⟩ := h
  · omega
  · exact ⟨g, cap, hv⟩
theorem ownsRow_block {w : World} {base size n : Nat} {e : TypeId} {v : Value} {xs : List Value} (h : w.ownsRow base e size v n xs) : ∀ g, v.ownBlock = some g → base ≤ g := by
  intro g hg
  obtain ⟨_, ⟨hv, _⟩ | ⟨g', cap, _, hv, hg', _⟩⟩ := h
  · rw [hv] at hg; cases hg
  · rw [hv] at hg; cases hg; exact hg'

theorem run_loadVar_at {ty : TypeId} (w : World) (g o n : Nat) (t : TypeId) (cs : Array Value) (fr : Nat × Nat) (d : TypeDesc) (hg : w.heap[g]? = some (.cells cs t fr)) (hn : o + n ≤ cs.size)
    (hu : P.underlying ty = some d) (hd : (match d with | .struct _ | .array _ _ => true | _ => false) = true) (hi : (P.info? ty).map (·.size) = some n) :
    (loadVar ty ⟨g, o, none⟩).run P w = .ok (.agg (cs.extract o (o + n))) w := by
  have hlen : (cs.extract o (o + n)).toList.length = n := by simp; omega
  have hl : (loadCells ⟨g, o, none⟩ (cs.extract o (o + n)).toList.length).run P w = .ok (cs.extract o (o + n)).toList.toArray w :=
    run_loadCells_list (P := P) w ⟨g, o, none⟩ _ (fun j v hv => by
      have hadd : (⟨g, o, none⟩ : Addr).add j = ⟨g, o + j, none⟩ := by unfold Addr.add; split <;> simp_all
      rw [hadd, cell_of_row w g _ cs t fr hg]
      have hj : j < n := by
        have := (List.getElem?_eq_some_iff.1 hv).1
        omega
      rw [Array.getElem?_toList, Array.getElem?_extract, if_pos (by omega)] at hv
      exact hv)
  rw [hlen] at hl
  simp only [Array.toArray_toList] at hl
  obtain ⟨i, hq, hs⟩ := Option.map_eq_some_iff.1 hi
  simp [loadVar, Sem.run_bind, run_isAgg_yes hu hd, sizeOf, typeInfo, hq, hs, hl]

theorem wpList_load_at {ops : Array Oper} {rest : List Oper} {o : Oper} {a : Act} {w : World} {Q : Exit → Act → World → Prop} (hgd : o.guard = none) (ty : TypeId) (x : Operand) (ho : o.op = .load ty x)
    (g off n : Nat) (hx : a.eval x = .pointer (some ⟨g, off, none⟩)) (t : TypeId) (cs : Array Value) (fr : Nat × Nat) (d : TypeDesc) (hg : w.heap[g]? = some (.cells cs t fr)) (hn : off + n ≤ cs.size)
    (hu : P.underlying ty = some d) (hd : (match d with | .struct _ | .array _ _ => true | _ => false) = true) (hi : (P.info? ty).map (·.size) = some n) (vs : Array Value) (hvs : cs.extract off (off + n) = vs)
    (h : wpList P ops Q rest (a.put o.dst (.agg vs)) w) : wpList P ops Q (o :: rest) a w :=
  wpList_plain hgd fun _ hK => by
    subst hvs
    unfold Oper.wp execOp
    simp only [ho, hx, Instr.loadAt, Instr.sureAddr, Sem.run_bind, Sem.run_pure, Result.andThen_ok, run_loadVar_at w g off n t cs fr d hg hn hu hd hi]
    exact hK _ _ h

/-- A region that draws its order: reads, and then an effect that waits for them all; the world behind the draw under a name of its own. -/
theorem wp_region_tail {id : Nat} {Q : Exit → Act → World → Prop} {a : Act} {w : World} {l : List Oper} (n : Nat) (hm : P.follows .mixedOrders = true) (hB : Region.lexTailB .any l.toArray n = true) (wq : World) (hq : wq = w.drew)
    (h : wpStill P l.toArray wq (fun a' => wpList P l.toArray Q (l.drop n) a' wq) (l.take n) a) : (Code.region id l.toArray true).wp P Q a w := by
  subst hq
  exact wp_region_still_tail n hm hB h
/-- A whole load in the head of a region that ends in an effect. -/
theorem still_load_row {ops : Array Oper} {rest : List Oper} {o : Oper} {a : Act} {w : World} {Q : Act → Prop} (hgd : o.guard = none) (ty : TypeId) (x : Operand) (ho : o.op = .load ty x)
    (g : Nat) (hx : a.eval x = .pointer (some ⟨g, 0, none⟩)) (t : TypeId) (cs : Array Value) (fr : Nat × Nat) (d : TypeDesc) (hg : w.heap[g]? = some (.cells cs t fr))
    (hu : P.underlying ty = some d) (hd : (match d with | .struct _ | .array _ _ => true | _ => false) = true) (hi : (P.info? ty).map (·.size) = some cs.size)
    (h : wpStill P ops w Q rest (a.put o.dst (.agg cs))) : wpStill P ops w Q (o :: rest) a :=
  wpStill_step fun K hK => by
    rw [if_pos (by simp [Region.wanted, hgd])]
    unfold Oper.still execOp
    simp only [ho, hx, Instr.loadAt, Instr.sureAddr, Sem.run_bind, Sem.run_pure, Result.andThen_ok, run_loadVar_row w g t ty cs fr d hg hu hd hi]
    exact ⟨rfl, hK _ h⟩

/-- A whole load, guarded or not. -/
theorem wpList_load_w {ops : Array Oper} {rest : List Oper} {o : Oper} {a : Act} {w : World} {Q : Exit → Act → World → Prop} (hgd : Region.wanted o (yielded ops a.tmps) = true) (ty : TypeId) (x : Operand) (ho : o.op = .load ty x)
    (g : Nat) (hx : a.eval x = .pointer (some ⟨g, 0, none⟩)) (t : TypeId) (cs : Array Value) (fr : Nat × Nat) (d : TypeDesc) (hg : w.heap[g]? = some (.cells cs t fr))
    (hu : P.underlying ty = some d) (hd : (match d with | .struct _ | .array _ _ => true | _ => false) = true) (hi : (P.info? ty).map (·.size) = some cs.size)
    (h : wpList P ops Q rest (a.put o.dst (.agg cs)) w) : wpList P ops Q (o :: rest) a w :=
  wpList_step fun K hK => by
    rw [if_pos hgd]
    exact wp_load_row ty x ho g hx t cs fr d hg hu hd hi (hK _ _ h)

/-- Two results, the first one in a row of memory. -/
theorem results_row_tmp {fn : Func} {p u : Tmp} {ty : TypeId} (h : fn.results = #[.cell p ty, .tmp u]) (tmps : Array Value) (w : World) (g : Nat) (t : TypeId) (cs : Array Value) (fr : Nat × Nat) (d : TypeDesc)
    (hp : tmps.getD p undef = .pointer (some ⟨g, 0, none⟩)) (hg : w.heap[g]? = some (.cells cs t fr))
    (hu : P.underlying ty = some d) (hd : (match d with | .struct _ | .array _ _ => true | _ => false) = true) (hi : (P.info? ty).map (·.size) = some cs.size) :
    (results fn tmps).run P w = .ok (.tuple #[.agg cs, tmps.getD u undef]) w := by
  have hp' : tmps[p]?.getD undef = .pointer (some ⟨g, 0, none⟩) := by simpa using hp
  simp [results, h, hp', asAddr, run_loadVar_row w g t ty cs fr d hg hu hd hi]

end
end Go.Proofs.Ytkaalppmheikgaa
