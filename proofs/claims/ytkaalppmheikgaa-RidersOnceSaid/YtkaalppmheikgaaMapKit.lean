/- Maps whose keys are arrays of integers: what each operation does to the block, the entries written out. -/
import Derived.Test.YtkaalppmheikgaaKit
import Derived.MapKept
namespace Go.Proofs.Ytkaalppmheikgaa
open Go.RowKit

/-- An entry: its key's numbers, its value, its stamp. -/
structure Ent where
  id : List Int
  val : Value
  born : Nat

section
variable {P : Program}

/-- The key's value. -/
def keyV (k : IntKind) (l : List Int) : Value := .agg (l.map (Value.int k)).toArray
def entV (k : IntKind) (e : Ent) : MapEntry := { key := keyV k e.id, val := e.val, born := e.born }
/-- Block b of w is the map of these entries. -/
def mapAt (w : World) (k : IntKind) (b : Nat) (m : List Ent) (clk : Nat) : Prop := w.heap[b]? = some (.map (m.map (entV k)).toArray clk)

/-- What the laws ask of a key's type. -/
structure KeyOk (P : Program) (K n e : Nat) (k : IntKind) : Prop where
  u : P.underlying K = some (.array n e)
  ue : P.underlying e = some (.int k)
  i : (P.info? e).isSome = true
  s : P.cellsOf e = 1

/-- The place of a key. -/
def fnd (x : List Int) : List Ent → Nat → Option (Nat × Value)
  | [], _ => none
  | e :: m, i => if x = e.id then some (i, e.val) else fnd x m (i + 1)

theorem run_findAsking {K n e : Nat} {k : IntKind} (H : KeyOk P K n e k) (x : List Int) (hx : x.length = n) (w : World) : ∀ (m : List Ent) (i : Nat), (∀ y ∈ m, y.id.length = n) →
    (Instr.findAsking K (keyV k x) (m.map (entV k)) i).run P w = .ok (fnd x m i) w
  | [], i, _ => by simp [Instr.findAsking, fnd]
  | y :: m, i, h => by
    have hy := h y (List.mem_cons_self ..)
    have he : (Op.equal K (keyV k x) (entV k y).key).run P w = .ok (decide (x = y.id)) w := run_equalIn_ints H.u H.ue H.i H.s 9998 x y.id hx hy w
    simp only [List.map_cons, Instr.findAsking, Sem.run_bind, he, Result.andThen_ok, fnd]
    by_cases e : x = y.id
    · simp [e, entV]
    · simp only [e, decide_false, Bool.false_eq_true, if_false]
      exact run_findAsking H x hx w m (i + 1) (fun z hz => h z (List.mem_cons_of_mem _ hz))

theorem run_findKey_ids {K n e : Nat} {k : IntKind} (H : KeyOk P K n e k) (x : List Int) (hx : x.length = n) (w : World) (m : List Ent) (h : ∀ y ∈ m, y.id.length = n) :
    (Instr.findKey K (keyV k x) (m.map (entV k))).run P w = .ok (fnd x m 0) w := by
  cases m with
  | nil => simp [Instr.findKey, run_underlying H.u, Instr.findNow, fnd]
  | cons y m =>
    have hn : Instr.findNow (.array n e) (keyV k x) ((y :: m).map (entV k)) 0 = Option.none := by
      simp [Instr.findNow, Instr.sameNow]
    simp only [Instr.findKey, Sem.run_bind, run_underlying H.u w, Result.andThen_ok, hn]
    exact run_findAsking H x hx w (y :: m) 0 h

theorem run_check_parts {e : Nat} {k : IntKind} (ue : P.underlying e = some (.int k)) (hi : (P.info? e).isSome = true) (hs : P.cellsOf e = 1) (em : Bool) (d : Nat) (x : List Int) (w : World) :
    ∀ (r s : Nat), s + r = x.length →
    ((forIn (List.range' s r) PUnit.unit fun (i : Nat) (_ : PUnit) => do
        let n ← sizeOf e
        let a ← part e (x.map (Value.int k)).toArray (i * n)
        Instr.checkKey em (d + 1) e a
        pure (ForInStep.yield PUnit.unit)) : Sem PUnit).run P w = .ok PUnit.unit w := by
  obtain ⟨i0, hi⟩ := Option.isSome_iff_exists.1 hi
  intro r
  induction r with
  | zero => intro s _; simp
  | succ r ih =>
    intro s hs'
    have hl : s < x.length := by omega
    have e1 : (x.map (Value.int k)).toArray[s * 1]? = some (.int k x[s]) := by simp [hl]
    have e2 : (Instr.checkKey em (d + 1) e (.int k x[s])).run P w = .ok () w := by
      unfold Instr.checkKey
      simp [run_underlying ue]
    rw [List.range'_succ]
    simp only [List.forIn_cons, Sem.run_bind, run_sizeOf w hi, hs, Result.andThen_ok, run_part1 ue rfl _ _ _ e1, e2, Sem.run_pure]
    exact ih (s + 1) (by omega)

theorem run_checkKey_ids {K n e : Nat} {k : IntKind} (H : KeyOk P K n e k) (em : Bool) (x : List Int) (hx : x.length = n) (w : World) : (Instr.checkKey em 10000 K (keyV k x)).run P w = .ok () w := by
  have h := run_check_parts H.ue H.i H.s em 9998 x w n 0 (by omega)
  unfold Instr.checkKey keyV
  simp only [Sem.run_bind, run_underlying H.u w, Result.andThen_ok, Std.Legacy.Range.forIn_eq_forIn_range', Std.Legacy.Range.size, Nat.sub_zero, Nat.add_sub_cancel, Nat.div_one]
  refine Eq.trans (congrArg (fun r => Result.andThen r _) h) ?_
  rfl

theorem sameBits_key (k : IntKind) (x : List Int) : Instr.sameBits 10000 (keyV k x) (keyV k x) = true := by
  have h : ∀ (l : List Int), ((l.map (Value.int k)).zip (l.map (Value.int k))).all (fun p => Instr.sameBits 9999 p.1 p.2) = true := by
    intro l
    induction l with
    | nil => rfl
    | cons a l ih =>
      simp only [List.map_cons, List.zip_cons_cons, List.all_cons, ih, Bool.and_true]
      simp [Instr.sameBits]
  unfold keyV
  unfold Instr.sameBits
  simp only [beq_self_eq_true, Bool.true_and]
  exact h x

/-! ### the operations -/
theorem run_lookup_ok {T K V n e : Nat} {k : IntKind} (H : KeyOk P K n e k) (hT : P.underlying T = some (.map K V)) (x : List Int) (hx : x.length = n) (w : World) (b : Nat) (m : List Ent) (clk : Nat) (hm : mapAt w k b m clk) (h : ∀ y ∈ m, y.id.length = n)
    (z : Value) (hz : (zeroValue V).run P w = .ok z w) :
    (Instr.lookup T (.map (some b)) (keyV k x) true).run P w = .ok (.tuple #[((fnd x m 0).map (·.2)).getD z, .bool (fnd x m 0).isSome]) w := by
  have hg := Go.MapKept.run_getObj_map (P := P) hm
  have hf := run_findKey_ids H x hx w m h
  simp only [Instr.lookup, Sem.run_bind, run_underlying hT w, Result.andThen_ok, hg, Sem.run_pure, run_checkKey_ids H _ x hx w, hf]
  cases fnd x m 0 <;> simp [hz]

theorem run_lookup_val {T K V n e : Nat} {k : IntKind} (H : KeyOk P K n e k) (hT : P.underlying T = some (.map K V)) (x : List Int) (hx : x.length = n) (w : World) (b : Nat) (m : List Ent) (clk : Nat) (hm : mapAt w k b m clk) (h : ∀ y ∈ m, y.id.length = n)
    (z : Value) (hz : (zeroValue V).run P w = .ok z w) :
    (Instr.lookup T (.map (some b)) (keyV k x) false).run P w = .ok (((fnd x m 0).map (·.2)).getD z) w := by
  have hg := Go.MapKept.run_getObj_map (P := P) hm
  have hf := run_findKey_ids H x hx w m h
  simp only [Instr.lookup, Sem.run_bind, run_underlying hT w, Result.andThen_ok, hg, Sem.run_pure, run_checkKey_ids H _ x hx w, hf]
  cases fnd x m 0 <;> simp [hz]

theorem run_lookup_nil {T K V n e : Nat} {k : IntKind} (H : KeyOk P K n e k) (hT : P.underlying T = some (.map K V)) (x : List Int) (hx : x.length = n) (w : World) (z : Value) (hz : (zeroValue V).run P w = .ok z w) :
    (Instr.lookup T (.map Option.none) (keyV k x) true).run P w = .ok (.tuple #[z, .bool false]) w := by
  have hf := run_findKey_ids H x hx w [] (by simp)
  simp only [List.map_nil, fnd] at hf
  simp only [Instr.lookup, Sem.run_bind, run_underlying hT w, Result.andThen_ok, Sem.run_pure, run_checkKey_ids H _ x hx w, hf, hz]
  simp

/-- The entries behind 'm[x] = v'. -/
def upd (m : List Ent) (x : List Int) (v : Value) (clk : Nat) : List Ent :=
  match fnd x m 0 with
  | some (i, _) => m.modify i fun e => { e with id := x, val := v }
  | none => m ++ [⟨x, v, clk⟩]
def updClk (m : List Ent) (x : List Int) (clk : Nat) : Nat := if (fnd x m 0).isSome then clk else clk + 1

/-- The block r made anew. -/
def putObj (w : World) (r : Nat) (o : Obj) : World := { w with heap := w.heap.setIfInBounds r o }
theorem putObj_same {w : World} {r : Nat} {o o' : Obj} (h : w.heap[r]? = some o') : (putObj w r o).heap[r]? = some o := by
  have := heap_lt h
  simp [putObj, this]
theorem putObj_other (w : World) (r : Nat) (o : Obj) {j : Nat} (h : j ≠ r) : (putObj w r o).heap[j]? = w.heap[j]? := by
  simp [putObj, Ne.symm h]
theorem putObj_size (w : World) (r : Nat) (o : Obj) : (putObj w r o).heap.size = w.heap.size := by simp [putObj]
theorem below_putObj {B r : Nat} {a w : World} (h : Below B a w) (hr : B ≤ r) (o : Obj) : Below B a (putObj w r o) :=
  h.trans ⟨rfl, rfl, rfl, by simp [putObj], fun j hj => putObj_other w r o (by omega)⟩

theorem run_update {T K V n e : Nat} {k : IntKind} (H : KeyOk P K n e k) (hT : P.underlying T = some (.map K V)) (x : List Int) (hx : x.length = n) (v : Value) (w : World) (b : Nat) (m : List Ent) (clk : Nat) (hm : mapAt w k b m clk) (h : ∀ y ∈ m, y.id.length = n) :
    (Instr.mapUpdate T (.map (some b)) (keyV k x) v).run P w = .ok () (putObj w b (.map ((upd m x v clk).map (entV k)).toArray (updClk m x clk))) := by
  have hg := Go.MapKept.run_getObj_map (P := P) hm
  have hf := run_findKey_ids H x hx w m h
  simp only [Instr.mapUpdate, Sem.run_bind, run_underlying hT w, Result.andThen_ok, hg, run_checkKey_ids H _ x hx w, hf]
  cases hq : fnd x m 0 with
  | none =>
    rw [Go.MapKept.run_setObj_map _ hm]
    simp [upd, updClk, hq, entV, putObj]
  | some p =>
    obtain ⟨i, u⟩ := p
    have hid : ∀ (m : List Ent) (s i : Nat) (u : Value), fnd x m s = some (i, u) → ∃ e, s ≤ i ∧ m[i - s]? = some e ∧ e.id = x := by
      intro m
      induction m with
      | nil => intro s i u h; simp [fnd] at h
      | cons y m ih =>
        intro s i u h
        unfold fnd at h
        split at h
        · rename_i he
          simp only [Option.some.injEq, Prod.mk.injEq] at h
          obtain ⟨rfl, rfl⟩ := h
          exact ⟨y, Nat.le_refl _, by simp, he.symm⟩
        · obtain ⟨e, h1, h2, h3⟩ := ih _ _ _ h
          refine ⟨e, by omega, ?_, h3⟩
          have : i - s = (i - (s + 1)) + 1 := by omega
          rw [this]; simpa using h2
    obtain ⟨e, _, he, hex⟩ := hid m 0 i u hq
    have hkey : ((((m.map (entV k)).toArray[i]?).map (·.key)).getD (keyV k x)) = keyV k x := by
      simp only [Nat.sub_zero] at he
      simp [he, entV, hex]
    simp only [hkey, Instr.keyThatStays, sameBits_key, if_true, Sem.run_bind, Sem.run_pure, Result.andThen_ok]
    rw [Go.MapKept.run_setObj_map _ hm]
    congr 2
    simp only [upd, updClk, hq, Option.isSome_some, if_true]
    congr 1
    congr 1
    apply Array.ext_getElem?
    intro j
    simp only [Array.getElem?_modify, List.getElem?_toArray, List.getElem?_map, List.getElem?_modify]
    by_cases hj : i = j
    · subst hj
      simp only [Nat.sub_zero] at he
      simp [he, entV]
    · simp [hj]

theorem run_len_map {T K V : Nat} {k : IntKind} (hT : P.underlying T = some (.map K V)) (ty : TypeId) (w : World) (b : Nat) (m : List Ent) (clk : Nat) (hm : mapAt w k b m clk) :
    (Builtin.len_ #[T] ty #[.map (some b)]).run P w = .ok (.int .i64 m.length) w := by
  have hg := Go.MapKept.run_getObj_map (P := P) hm
  simp [Builtin.len_, run_underlying hT, hg, goInt]

theorem map_erase {α β : Type} (f : α → β) : ∀ (l : List α) (i : Nat), (l.map f).eraseIdx i = (l.eraseIdx i).map f
  | [], _ => rfl
  | _ :: _, 0 => rfl
  | a :: l, i + 1 => by simp [map_erase f l i]
/-- The entries behind a delete. -/
def del (m : List Ent) (x : List Int) : List Ent := match fnd x m 0 with | some (i, _) => m.eraseIdx i | none => m
theorem run_delete {T K V n e : Nat} {k : IntKind} (H : KeyOk P K n e k) (hT : P.underlying T = some (.map K V)) (ty t2 : TypeId) (x : List Int) (hx : x.length = n) (w : World) (b : Nat) (m : List Ent) (clk : Nat) (hm : mapAt w k b m clk) (h : ∀ y ∈ m, y.id.length = n) :
    (Builtin.delete_ #[T, t2] ty #[.map (some b), keyV k x]).run P w = .ok (.tuple #[]) (putObj w b (.map ((del m x).map (entV k)).toArray clk)) := by
  have hg := Go.MapKept.run_getObj_map (P := P) hm
  have hf := run_findKey_ids H x hx w m h
  have hset : ∀ o, (setObj b o).run P w = .ok () (putObj w b o) := fun o => Go.MapKept.run_setObj_map o hm
  cases hq : fnd x m 0 with
  | none =>
    rw [hq] at hf
    simp [Builtin.delete_, run_underlying hT, hg, run_checkKey_ids H _ x hx w, hf, hset, del, hq]
  | some p =>
    obtain ⟨i, u⟩ := p
    rw [hq] at hf
    simp [Builtin.delete_, run_underlying hT, hg, run_checkKey_ids H _ x hx w, hf, hset, del, hq, map_erase]

end
end Go.Proofs.Ytkaalppmheikgaa
