/- A range over a map whose keys are arrays of integers. -/
import Derived.Test.YtkaalppmheikgaaMapKit
import Derived.Maps.RangeWalk
namespace Go.Proofs.Ytkaalppmheikgaa
open Go.RowKit Go.MapKept Go.ChangeMaps

section
variable {P : Program}
/-- Under way: what has come so far. -/
structure RgAt (w : World) (k : IntKind) (b r : Nat) (m : List Ent) (clk : Nat) (got : List Ent) : Prop where
  mp : mapAt w k b m clk
  it : ∃ since seen c0, w.heap[r]? = some (.mapIter (some b) since seen c0) ∧ since ≤ c0 ∧ since ≤ clk ∧ (∀ e ∈ m, e.born < since) ∧ ∀ e ∈ m, (seen.contains e.born = true ↔ e ∈ got)
  sub : ∀ e ∈ got, e ∈ m
  nd : got.Nodup
  bn : (m.map Ent.born).Nodup
theorem RgAt.lt {w : World} {k : IntKind} {b r : Nat} {m got : List Ent} {clk : Nat} (h : RgAt w k b r m clk got) : r < w.heap.size ∧ b < w.heap.size := by
  obtain ⟨_, _, _, h1, _⟩ := h.it
  exact ⟨heap_lt h1, heap_lt h.mp⟩
theorem RgAt.ne {w : World} {k : IntKind} {b r : Nat} {m got : List Ent} {clk : Nat} (h : RgAt w k b r m clk got) : r ≠ b := by
  obtain ⟨_, _, _, h1, _⟩ := h.it
  intro e
  subst e
  have h2 : w.heap[r]? = some (.map (m.map (entV k)).toArray clk) := h.mp
  rw [h1] at h2; cases h2
theorem RgAt.kept {w w' : World} {k : IntKind} {b r : Nat} {m got : List Ent} {clk : Nat} (h : RgAt w k b r m clk got) (hb : w'.heap[b]? = w.heap[b]?) (hr : w'.heap[r]? = w.heap[r]?) : RgAt w' k b r m clk got := by
  obtain ⟨h1, ⟨s, n, c, h2, h3⟩, h4, h5, h6⟩ := h
  exact ⟨hb.trans h1, ⟨s, n, c, hr.trans h2, h3⟩, h4, h5, h6⟩
theorem rangeLeft_same {w w' : World} {b r : Nat} (hb : w'.heap[b]? = w.heap[b]?) (hr : w'.heap[r]? = w.heap[r]?) : w'.rangeLeft b r = w.rangeLeft b r := by
  unfold World.rangeLeft; rw [hb, hr]
theorem nodup_of_map {α β : Type} {f : α → β} {l : List α} (h : (l.map f).Nodup) : l.Nodup := (List.pairwise_map.1 h).imp fun h1 e => h1 (by rw [e])
theorem inj_of_nodup {α β : Type} {f : α → β} : ∀ {l : List α}, (l.map f).Nodup → ∀ {x y : α}, x ∈ l → y ∈ l → f x = f y → x = y
  | [], _, _, _, h, _, _ => by cases h
  | a :: l, h, x, y, hx, hy, e => by
    rw [List.map_cons, List.nodup_cons] at h
    rcases List.mem_cons.1 hx with h1 | h1
    · rcases List.mem_cons.1 hy with h2 | h2
      · rw [h1, h2]
      · exact absurd (List.mem_map.2 ⟨y, h2, by rw [← e, h1]⟩) h.1
    · rcases List.mem_cons.1 hy with h2 | h2
      · exact absurd (List.mem_map.2 ⟨x, h1, by rw [e, h2]⟩) h.1
      · exact inj_of_nodup h.2 h1 h2 e
theorem RgAt.all {w : World} {k : IntKind} {b r : Nat} {m got : List Ent} {clk : Nat} (h : RgAt w k b r m clk got) (ha : ∀ e ∈ m, e ∈ got) : got.Perm m :=
  (List.perm_ext_iff_of_nodup h.nd (nodup_of_map h.bn)).2 fun e => ⟨h.sub e, ha e⟩
theorem run_range_ids {T K V : Nat} {k : IntKind} (hT : P.underlying T = some (.map K V)) (w : World) (b : Nat) (m : List Ent) (clk : Nat) (hm : mapAt w k b m clk) (hbn : (m.map Ent.born).Nodup) (hlt : ∀ e ∈ m, e.born < clk) :
    ∃ w', (Instr.range T (.map (some b))).run P w = .ok (.pointer (some ⟨w.heap.size, 0, none⟩)) w' ∧ RgAt w' k b w.heap.size m clk [] ∧ w.grownBy w' none ∧ w'.heap.size = w.heap.size + 1 := by
  refine ⟨_, run_range_map w T K V b _ clk hT hm, ⟨alloc_keep hm _, ⟨clk, #[], clk, (MapKept.heap_alloc _ _).1, Nat.le_refl _, Nat.le_refl _, hlt, fun e _ => by simp⟩, by simp, by simp, hbn⟩, World.grownBy_alloc w _ none, by simp⟩
theorem run_next_ids {k : IntKind} {w : World} (ty : TypeId) {b r : Nat} {m got : List Ent} {clk : Nat} (h : RgAt w k b r m clk got) :
    ((∀ e ∈ m, e ∈ got) ∧ (Instr.next (.pointer (some ⟨r, 0, none⟩)) false ty).run P w = .ok (.tuple #[.bool false]) w) ∨
    ∃ e w', e ∈ m ∧ e ∉ got ∧ RgAt w' k b r m clk (got ++ [e]) ∧ w.grownBy w' (some r) ∧ w'.heap.size = w.heap.size ∧ w'.rangeLeft b r < w.rangeLeft b r ∧ (Instr.entry (.pointer (some ⟨r, 0, none⟩))).run P w' = .ok (.tuple #[keyV k e.id, e.val]) w' ∧
      (Instr.next (.pointer (some ⟨r, 0, none⟩)) false ty).run P w = .ok (.tuple #[.bool true, keyV k e.id, e.val]) w' := by
  have hne := h.ne
  obtain ⟨hm, ⟨since, seen, c0, hr, hsc, hsk, hold, hseen⟩, hsub, hnd, hbn⟩ := h
  have hb : w.heap[b]? = some (.map (m.map (entV k)).toArray clk) := hm
  have hold' : ∀ x ∈ (m.map (entV k)).toArray.toList, x.born < since := fun x hx => by
    obtain ⟨e, he, rfl⟩ := List.mem_map.1 (by simpa using hx)
    exact hold e he
  rcases run_next_at (P := P) w ty r b since c0 seen _ clk hr hb hold' hsc with ⟨h0, hrun⟩ | ⟨x, hx, w1, hal, hrun⟩
  · refine .inl ⟨fun e he => (hseen e he).1 ?_, hrun⟩
    exact all_seen _ seen h0 (entV k e) (by simp; exact ⟨e, he, rfl⟩)
  · obtain ⟨hxm, hxs⟩ := mem_left hx
    obtain ⟨e, he, rfl⟩ := List.mem_map.1 (by simpa using hxm)
    have hr1 : w1.heap[r]? = some (.mapIter (some b) since seen c0) := by rcases hal with rfl | rfl <;> exact hr
    have hb1 : w1.heap[b]? = some (.map (m.map (entV k)).toArray clk) := by rcases hal with rfl | rfl <;> exact hb
    have hset : (setBlock w1 r (.mapIter (some b) since (seen.push e.born) clk)).heap[r]? = some (.mapIter (some b) since (seen.push e.born) clk) ∧ ∀ r', r' ≠ r → (setBlock w1 r (.mapIter (some b) since (seen.push e.born) clk)).heap[r']? = w1.heap[r']? := heap_set hr1
    have hb' : (setBlock w1 r (.mapIter (some b) since (seen.push e.born) clk)).heap[b]? = some (.map (m.map (entV k)).toArray clk) := (hset.2 b (fun e1 => hne e1.symm)).trans hb1
    have hnot : e ∉ got := fun hg => by
      have h1 := (hseen e he).2 hg
      have h2 : seen.contains e.born = false := hxs
      rw [h1] at h2; cases h2
    have hinj : ∀ e' ∈ m, e'.born = e.born → e' = e := fun e' he' hb => inj_of_nodup hbn he' he hb
    refine .inr ⟨e, _, he, hnot, ⟨hb', ⟨since, seen.push e.born, clk, hset.1, hsk, hsk, hold, fun e' he' => ?_⟩, fun x hx => ?_, ?_, hbn⟩, ?_, ?_, ?_, run_entry_at _ r b since seen _ clk (entV k e) hset.1 hb' hxm ?_, hrun⟩
    · rw [contains_push, Bool.or_eq_true, hseen e' he', List.mem_append, List.mem_singleton]
      constructor
      · rintro (h1 | h1)
        · exact .inl h1
        · exact .inr (hinj e' he' (by simpa using h1))
      · rintro (h1 | h1)
        · exact .inl h1
        · right; rw [h1]; simp
    · rcases List.mem_append.1 hx with h1 | h1
      · exact hsub x h1
      · simp at h1; rw [h1]; exact he
    · rw [List.nodup_append]
      refine ⟨hnd, by simp, fun x hx y hy => ?_⟩
      simp at hy
      rw [hy]
      exact fun e1 => hnot (e1 ▸ hx)
    · rcases hal with rfl | rfl <;> exact ⟨rfl, rfl, rfl, by simp [setBlock], fun i _ hi => hset.2 i (fun e1 => hi (by rw [e1]))⟩
    · rcases hal with rfl | rfl <;> simp [setBlock]
    · have hL := left_shrinks _ seen _ hx
      unfold World.rangeLeft
      rw [hb', hset.1, hb, hr]
      exact hL
    · simpa [List.map_map, entV, Function.comp_def] using hbn

section
variable {ops : Array Oper} {rest : List Oper} {o : Oper} {a : Act} {w : World} {Q : Exit → Act → World → Prop}
theorem wpList_range_ids {T K V : Nat} {k : IntKind} (hg : o.guard = none) (x : Operand) (hop : o.op = Op.range T x) (hT : P.underlying T = some (.map K V)) (b : Nat) (m : List Ent) (clk : Nat) (hx : a.eval x = .map (some b)) (hm : mapAt w k b m clk) (hbn : (m.map Ent.born).Nodup) (hlt : ∀ e ∈ m, e.born < clk)
    (h : ∀ w', RgAt w' k b w.heap.size m clk [] → w.grownBy w' none → w'.heap.size = w.heap.size + 1 → wpList P ops Q rest (a.put o.dst (.pointer (some ⟨w.heap.size, 0, none⟩))) w') : wpList P ops Q (o :: rest) a w := by
  refine wpList_plain hg fun K' hK' => ?_
  obtain ⟨w', hrun, h1, h2, h3⟩ := run_range_ids (P := P) hT w b m clk hm hbn hlt
  unfold Oper.wp
  simp [execOp, hop, hx, hrun, Result.andThen]
  exact hK' _ _ (h w' h1 h2 h3)
theorem wpList_next_ids {k : IntKind} (hg : o.guard = none) (x : Operand) (hop : o.op = Op.next x false) (b r : Nat) (m got : List Ent) (clk : Nat) (hx : a.eval x = .pointer (some ⟨r, 0, none⟩)) (hr : RgAt w k b r m clk got)
    (hd : (∀ e ∈ m, e ∈ got) → wpList P ops Q rest (a.put o.dst (.tuple #[.bool false])) w)
    (h : ∀ e w', e ∈ m → e ∉ got → RgAt w' k b r m clk (got ++ [e]) → w.grownBy w' (some r) → w'.heap.size = w.heap.size → w'.rangeLeft b r < w.rangeLeft b r → (Instr.entry (.pointer (some ⟨r, 0, none⟩))).run P w' = .ok (.tuple #[keyV k e.id, e.val]) w' →
      wpList P ops Q rest (a.put o.dst (.tuple #[.bool true, keyV k e.id, e.val])) w') : wpList P ops Q (o :: rest) a w := by
  refine wpList_plain hg fun K' hK' => ?_
  unfold Oper.wp
  rcases run_next_ids (P := P) o.type hr with ⟨h1, hrun⟩ | ⟨e, w', h1, h2, h3, h4, h5, h6, h7, hrun⟩
  · simp [execOp, hop, hx, hrun, Result.andThen]
    exact hK' _ _ (hd h1)
  · simp [execOp, hop, hx, hrun, Result.andThen]
    exact hK' _ _ (h e w' h1 h2 h3 h4 h5 h6 h7)
end
end
end Go.Proofs.Ytkaalppmheikgaa
