/- Sets of ids: NewSet, Has, Add. -/
import Derived.Test.YtkaalppmheikgaaStl
import Derived.OrdersHeld
import Derived.Deep.RegionHeld3
namespace Go.Proofs.Ytkaalppmheikgaa
open Go.RowKit
theorem keyV_bys (l : List Int) : keyV .u8 l = .agg (bys l) := rfl

/-- The set at p, its map at b, holds S, in the order in which they came. -/
def SetIs (w : World) (p b : Nat) (S : List (List Int)) : Prop :=
  ∃ m clk, w.heap[p]? = some (.cells #[.map (some b)] 95 (0, 0)) ∧ mapAt w .u8 b m clk ∧ m.map Ent.id = S ∧ (∀ e ∈ m, e.val = .agg #[]) ∧ (∀ x ∈ S, B8 x) ∧ S.Nodup ∧
    (m.map Ent.born).Nodup ∧ ∀ e ∈ m, e.born < clk

theorem fnd_none (x : List Int) : ∀ (m : List Ent) (i : Nat), x ∉ m.map Ent.id → fnd x m i = Option.none
  | [], _, _ => rfl
  | e :: m, i, h => by
    simp only [List.map_cons, List.mem_cons, not_or] at h
    unfold fnd
    rw [if_neg h.1]
    exact fnd_none x m (i + 1) h.2
theorem fnd_some (x : List Int) : ∀ (m : List Ent) (i : Nat), x ∈ m.map Ent.id → ∃ j e, fnd x m i = some (i + j, e.val) ∧ m[j]? = some e ∧ e.id = x
  | [], _, h => by cases h
  | e :: m, i, h => by
    unfold fnd
    by_cases hx : x = e.id
    · rw [if_pos hx]; exact ⟨0, e, rfl, rfl, hx.symm⟩
    · rw [if_neg hx]
      have h' : x ∈ m.map Ent.id := by
        rcases List.mem_cons.1 h with h | h
        · exact absurd h hx
        · exact h
      obtain ⟨j, e', h1, h2, h3⟩ := fnd_some x m (i + 1) h'
      exact ⟨j + 1, e', by rw [h1, Nat.add_assoc, Nat.add_comm 1 j], by simpa using h2, h3⟩

/-- One id more. -/
def ins (S : List (List Int)) (x : List Int) : List (List Int) := if x ∈ S then S else S ++ [x]

theorem modify_same {m : List Ent} {i : Nat} {e : Ent} {x : List Int} (h : m[i]? = some e) (hx : e.id = x) (hv : e.val = .agg #[]) : (m.modify i fun e => { e with id := x, val := .agg #[] }) = m := by
  apply List.ext_getElem?
  intro j
  rw [List.getElem?_modify]
  by_cases hj : i = j
  · subst hj
    rw [h]
    simp [← hx, ← hv]
  · simp [hj]

theorem SetIs.add {w : World} {p b : Nat} {S : List (List Int)} (h : SetIs w p b S) {x : List Int} (hx : B8 x) :
    ∃ w', (Instr.mapUpdate 93 (.map (some b)) (.agg (bys x)) (.agg #[])).run Try.prog w = .ok () w' ∧ SetIs w' p b (ins S x) ∧ w.grownBy w' (some b) := by
  obtain ⟨m, clk, hp, hm, hS, hv, hB, hnd, hbn, hlt⟩ := h
  have hne : p ≠ b := fun e => by rw [e, hm] at hp; cases hp
  have hr := run_update keyId Try.underlying93 x hx.1 (.agg #[]) w b m clk hm (fun y hy => (hB y.id (by rw [← hS]; exact List.mem_map_of_mem hy)).1)
  refine ⟨_, hr, ⟨upd m x (.agg #[]) clk, updClk m x clk, ?_, putObj_same hm, ?_⟩, ⟨rfl, rfl, rfl, by rw [putObj_size]; exact Nat.le_refl _, fun j _ hj => putObj_other w b _ (fun e => hj (by rw [e]))⟩⟩
  · rw [putObj_other w b _ hne]; exact hp
  · by_cases hin : x ∈ S
    · obtain ⟨j, e, h1, h2, h3⟩ := fnd_some x m 0 (by rw [hS]; exact hin)
      rw [Nat.zero_add] at h1
      have e1 : upd m x (.agg #[]) clk = m := by
        unfold upd
        rw [h1]
        exact modify_same h2 h3 (hv e (List.mem_of_getElem? h2))
      have e2 : updClk m x clk = clk := by unfold updClk; rw [h1]; rfl
      rw [e1, e2, ins, if_pos hin]
      exact ⟨hS, hv, hB, hnd, hbn, hlt⟩
    · have h1 := fnd_none x m 0 (by rw [hS]; exact hin)
      have e1 : upd m x (.agg #[]) clk = m ++ [⟨x, .agg #[], clk⟩] := by unfold upd; rw [h1]
      have e2 : updClk m x clk = clk + 1 := by unfold updClk; rw [h1]; rfl
      rw [e1, e2, ins, if_neg hin]
      refine ⟨by rw [List.map_append, hS]; rfl, ?_, ?_, ?_, ?_, ?_⟩
      · intro e he
        rcases List.mem_append.1 he with he | he
        · exact hv e he
        · simp at he; rw [he]
      · intro y hy
        rcases List.mem_append.1 hy with hy | hy
        · exact hB y hy
        · simp at hy; rw [hy]; exact hx
      · rw [List.nodup_append]
        refine ⟨hnd, by simp, ?_⟩
        intro a ha c hc
        simp at hc
        subst hc
        exact fun e => hin (e ▸ ha)
      · rw [List.map_append, List.nodup_append]
        refine ⟨hbn, by simp, ?_⟩
        intro a ha c hc
        simp at hc
        obtain ⟨e, he, rfl⟩ := List.mem_map.1 ha
        have := hlt e he
        omega
      · intro e he
        rcases List.mem_append.1 he with he | he
        · have := hlt e he; omega
        · simp at he; rw [he]; show clk < clk + 1; omega

theorem SetIs.kept {w w' : World} {p b : Nat} {S : List (List Int)} (h : SetIs w p b S) (hb : Below w.heap.size w w') : SetIs w' p b S := by
  obtain ⟨m, clk, hp, hm, r⟩ := h
  exact ⟨m, clk, below_keep hb hp, below_keep hb hm, r⟩
theorem SetIs.alloc {w : World} {p b : Nat} {S : List (List Int)} (h : SetIs w p b S) (o : Obj) : SetIs (w.alloc o) p b S := h.kept ((Below.refl _ _).alloc (Nat.le_refl _) _)

theorem SetIs.len {w : World} {p b : Nat} {S : List (List Int)} (h : SetIs w p b S) (ty : TypeId) : (Builtin.len_ #[93] ty #[.map (some b)]).run Try.prog w = .ok (.int .i64 S.length) w := by
  obtain ⟨m, clk, hp, hm, rfl, _⟩ := h
  rw [List.length_map]
  exact run_len_map Try.underlying93 ty w b m clk hm


/-- A slice's first elements are these ids. -/
def IdsAt (w : World) (a : Option Addr) (l : List (List Int)) : Prop :=
  l = [] ∨ ∃ g o cs t fr, a = some ⟨g, o, none⟩ ∧ w.heap[g]? = some (.cells cs t fr) ∧ ∀ i x, l[i]? = some x → o + 8 * i + 8 ≤ cs.size ∧ cs.extract (o + 8 * i) (o + 8 * i + 8) = bys x
theorem IdsAt.kept {w w' : World} {a : Option Addr} {l : List (List Int)} (h : IdsAt w a l) (hb : Below w.heap.size w w') : IdsAt w' a l := by
  rcases h with h | ⟨g, o, cs, t, fr, h1, h2, h3⟩
  · exact .inl h
  · exact .inr ⟨g, o, cs, t, fr, h1, below_keep hb h2, h3⟩

/-- What NewSet makes. -/
def NewSetPost (w : World) (S : List (List Int)) (e : Ending) (w' : World) : Prop :=
  ∃ p b, e = .returned (.pointer (some ⟨p, 0, none⟩)) ∧ SetIs w' p b S ∧ w.heap.size ≤ p ∧ w.heap.size ≤ b ∧ Below w.heap.size w w'
def insAll (S : List (List Int)) (l : List (List Int)) : List (List Int) := l.foldl ins S
theorem insAll_snoc (S l : List (List Int)) (k : Nat) (x : List Int) (h : l[k]? = some x) : insAll S (l.take (k + 1)) = ins (insAll S (l.take k)) x := by
  unfold insAll
  obtain ⟨hk, rfl⟩ := List.getElem?_eq_some_iff.1 h
  rw [List.take_succ_eq_append_getElem hk, List.foldl_append]; rfl

set_option maxRecDepth 100000 in
set_option maxHeartbeats 1000000 in
theorem newSet_any (a : Option Addr) (cap : Nat) (l : List (List Int)) (hB : ∀ x ∈ l, B8 x) (hlen : l.length ≤ 4611686018427387904) (w : World) (hl : IdsAt w a l) :
    Calls Try.prog 36 #[.slice a l.length cap] w (NewSetPost w (insAll [] l)) := by
  have hmm := @run_makeMap Try.prog
  have HBE : Hid (Below w.heap.size w ((w.alloc (.map #[] 0)).alloc (.cells #[.map (some w.heap.size)] 95))) := hid (((Below.refl _ _).alloc (Nat.le_refl _) _).alloc (by simp) _)
  have HL := hid hl
  have HB := hid hB
  have HSN := hid (insAll_snoc [] l)
  clear hl hB
  go_enter Try.func36, Try.ntmps36
  go_wp2
  go_loopw [5, 11] (fun _ i wr => ∃ k : Nat, k ≤ l.length ∧ i = .int .i64 k ∧ SetIs wr (w.heap.size + 1) w.heap.size (insAll [] (l.take k)) ∧ Below w.heap.size w wr) (fun _ i _ => l.length - (intOf i).toNat)
  case atStart => exact ⟨0, by omega, rfl, ⟨[], 0, heap2_new _ _ _ _, by show ((w.alloc (.map #[] 0)).alloc _).heap[w.heap.size]? = _; exact alloc_keep (heap_alloc_new _ _) _, rfl, by simp, by simp [insAll], by simp [insAll], by simp, by simp⟩, HBE.out⟩
  case round =>
    obtain ⟨k, hk, rfl, hset, hbel⟩ := hrel
    have HS := hid hset
    have HW := hid hbel
    clear hset hbel
    by_cases hlt : k < l.length
    · obtain ⟨x, hx⟩ : ∃ x, l[k]? = some x := ⟨l[k], by simp [hlt]⟩
      have hxb := HB.out x (List.mem_of_getElem? hx)
      have HX := hid (HSN.out k x hx)
      obtain ⟨g, o, cs, t, fr, rfl, hrow, hat⟩ := (HL.out.kept HW.out).resolve_left (by intro e; rw [e] at hlt; cases hlt)
      obtain ⟨h1, h2⟩ := hat k x hx
      have HR := hid hrow
      have H1 : Hid (o + k * 8 + 8 ≤ cs.size) := hid (by omega)
      have H2 : Hid (cs.extract (o + k * 8) (o + k * 8 + 8) = bys x) := hid (by rw [← h2, Nat.mul_comm k 8])
      have HI := hid (info_id x hxb)
      have HXB := hid hxb
      clear hrow hat h1 h2 hx hxb
      have hsz : (Try.prog.info? 31).map (·.size) = some 8 := by kernel_rfl
      have HSZ := hid hsz
      clear hsz
      have HLX : Hid ((bys x).size = 8) := hid (by rw [bys_size, HXB.out.1])
      go_wp2_with (first | (refine wpList_load_at rfl 31 _ rfl g _ 8 rfl _ _ _ _ HR.out H1.out Try.underlying31 rfl HSZ.out _ H2.out ?_) | (refine wpList_store_row rfl 31 _ _ rfl _ rfl _ rfl _ _ (heap_alloc_new _ _) (by rw [HLX.out]; rfl) (bys_one _) HI.out _ (setRow_alloc _ _ _ _) ?_))
      obtain ⟨wq, hwq⟩ : ∃ wq, wq = (wr.alloc (.cells (bys x) 31)).drew := ⟨_, rfl⟩
      have HS2 : Hid (SetIs wq (w.heap.size + 1) w.heap.size (insAll [] (l.take k))) := hid (hwq ▸ (HS.out.alloc (.cells (bys x) 31)).kept (Below.refl _ _).drew)
      have HW2 : Hid (Below w.heap.size w wq) := hid (hwq ▸ (HW.out.alloc HW.out.size _).drew)
      have HB2 : Hid (wq.heap[wr.heap.size]? = some (.cells (bys x) 31 (0, 0))) := hid (by rw [hwq]; exact heap_alloc_new _ _)
      have HQ := hid hwq
      clear hwq
      have hcell : wq.cell? ⟨w.heap.size + 1, 0, none⟩ = some (.map (some w.heap.size)) := by
        obtain ⟨m, clk, hp, _⟩ := HS2.out
        rw [cell_of_row _ _ _ _ _ _ hp]; rfl
      obtain ⟨w', hrun, hset', hgr⟩ := HS2.out.add HXB.out
      have HS3 := hid hset'
      have HW3 : Hid (Below w.heap.size w w') := hid (HW2.out.grown hgr HW2.out.size (by intro j hj; cases hj; exact Nat.le_refl _))
      clear hset' hgr
      refine wp_region_tail 6 (by kernel_rfl) (by kernel_rfl) wq HQ.out ?_
      simp only [List.take_succ_cons, List.take_zero, List.drop_succ_cons, List.drop_zero]
      iterate 4 still_step
      refine still_load_row rfl 31 _ rfl _ rfl _ _ _ _ HB2.out Try.underlying31 rfl HI.out ?_
      simp only [Act.put, List.setIfInBounds_toArray, List.set_cons_zero, List.set_cons_succ]
      still_step
      refine wpStill_nil ?_
      go_wp2
      go_roundw
      case rel => exact ⟨k + 1, by omega, by go_num, by rw [HX.out]; exact HS3.out, HW3.out⟩
      case measure => simp [intOf]; omega
    · have e : Hid (l.take k = l) := hid (List.take_of_length_le (by omega))
      go_wp2
      go_ret
      exact ⟨_, _, rfl, e.out ▸ HS.out, by omega, Nat.le_refl _, HW.out⟩

/-- What may stand where a set is asked: none; one without a map; a set. -/
def SetAt (w : World) (pp : Option Addr) (S : List (List Int)) : Prop :=
  (pp = none ∧ S = []) ∨ ∃ p, pp = some ⟨p, 0, none⟩ ∧ ((w.heap[p]? = some (.cells #[.map none] 95 (0, 0)) ∧ S = []) ∨ ∃ b, SetIs w p b S)

section
variable {P : Program} {ρ : Operand → Value} {o : Oper} {w : World}
end
theorem SetIs.cell {w : World} {p b : Nat} {S : List (List Int)} (h : SetIs w p b S) : w.cell? ⟨p, 0, none⟩ = some (.map (some b)) := by
  obtain ⟨m, clk, hp, _⟩ := h
  rw [cell_of_row _ _ _ _ _ _ hp]; rfl
theorem zero_unit (w : World) : (zeroValue 97).run Try.prog w = .ok (.agg #[]) w := by kernel_rfl
theorem SetIs.look {w : World} {p b : Nat} {S : List (List Int)} (h : SetIs w p b S) {x : List Int} (hx : B8 x) :
    (Instr.lookup 93 (.map (some b)) (.agg (bys x)) true).run Try.prog w = .ok (.tuple #[.agg #[], .bool (decide (x ∈ S))]) w := by
  obtain ⟨m, clk, hp, hm, hS, hv, hB, _⟩ := h
  have hr := run_lookup_ok keyId Try.underlying93 x hx.1 w b m clk hm (fun y hy => (hB y.id (by rw [← hS]; exact List.mem_map_of_mem hy)).1) (.agg #[]) (zero_unit w)
  rw [keyV_bys] at hr
  rw [hr]
  by_cases hin : x ∈ S
  · obtain ⟨j, e, h1, h2, h3⟩ := fnd_some x m 0 (by rw [hS]; exact hin)
    rw [h1]
    simp [hin, hv e (List.mem_of_getElem? h2)]
  · rw [fnd_none x m 0 (by rw [hS]; exact hin)]
    simp [hin]

set_option maxRecDepth 100000 in
set_option maxHeartbeats 1000000 in
theorem has_nil (x : List Int) (w : World) :
    Calls Try.prog 29 #[.pointer none, .agg (bys x)] w fun e w' => e = .returned (.bool false) ∧ Below w.heap.size w w' := by
  go_enter Try.func29, Try.ntmps29
  go_wp2
  go_ret
  exact ⟨rfl, (Below.refl _ _).alloc (Nat.le_refl _) _⟩

set_option maxRecDepth 100000 in
set_option maxHeartbeats 1000000 in
theorem has_set (x : List Int) (hx : B8 x) {w : World} {p b : Nat} {S : List (List Int)} (h : SetIs w p b S) :
    Calls Try.prog 29 #[.pointer (some ⟨p, 0, none⟩), .agg (bys x)] w fun e w' => e = .returned (.bool (decide (x ∈ S))) ∧ Below w.heap.size w w' := by
  have HX8 : Hid ((bys x).size = 8) := hid (by rw [bys_size, hx.1])
  have HI := hid (info_id x hx)
  have HS := hid h
  have HLK := hid (fun (w' : World) (h' : SetIs w' p b S) => h'.look hx)
  clear h hx
  go_enter Try.func29, Try.ntmps29
  go_wp2_with fail
  have hS0 : SetIs (w.alloc (.cells (bys x) 31)).drew p b S := (HS.out.alloc _).kept (Below.refl _ _).drew
  have hB0 : Below w.heap.size w (w.alloc (.cells (bys x) 31)).drew := ((Below.refl _ w).alloc (Nat.le_refl _) _).drew
  have hk0 : (w.alloc (.cells (bys x) 31)).drew.heap[w.heap.size]? = some (.cells (bys x) 31 (0, 0)) := heap_alloc_new _ _
  refine wp_region_held_drew (S := (fun w' => SetIs w' p b S ∧ w'.heap[w.heap.size]? = some (.cells (bys x) 31 (0, 0)) ∧ w'.cell? ⟨p, 0, none⟩ = some (.map (some b)))) (by kernel_rfl) ⟨hS0, hk0, hS0.cell⟩ ?_
  intro hHeld
  refine wpAnyH_take (i := 0) (oi := _) (v := ?_) rfl (by kernel_rfl) (by kernel_rfl) (by kernel_rfl) (fun _ _ _ h => h) (Or.inl ⟨by rfl, ?_⟩) (by assumption) ?_
  rotate_left
  · intro w hSw
    try dsimp only at hSw
    first | (go_simp; done) | (go_simp; with_reducible rfl)
  (try simp only [Act.put]); (try simp only [List.setIfInBounds_toArray]); (try simp only [List.set_cons_succ]); (try simp only [List.set_cons_zero])
  refine wpAnyH_take (i := 1) (oi := _) (v := ?_) rfl (by kernel_rfl) (by kernel_rfl) (by kernel_rfl) (fun _ _ _ h => h) (Or.inl ⟨by rfl, ?_⟩) (by assumption) ?_
  rotate_left
  · intro w hSw
    try dsimp only at hSw
    first | (go_simp; done) | (go_simp; with_reducible rfl)
  (try simp only [Act.put]); (try simp only [List.setIfInBounds_toArray]); (try simp only [List.set_cons_succ]); (try simp only [List.set_cons_zero])
  refine wpAnyH_take (i := 2) (oi := _) (v := ?_) rfl (by kernel_rfl) (by kernel_rfl) (by kernel_rfl) (fun _ _ _ h => h) (Or.inl ⟨by rfl, ?_⟩) (by assumption) ?_
  rotate_left
  · intro w hSw
    try dsimp only at hSw
    first | (go_simp; done) | (go_simp; with_reducible rfl)
  (try simp only [Act.put]); (try simp only [List.setIfInBounds_toArray]); (try simp only [List.set_cons_succ]); (try simp only [List.set_cons_zero])
  refine wpAnyH_take (i := 3) (oi := _) (v := ?_) rfl (by kernel_rfl) (by kernel_rfl) (by kernel_rfl) (fun _ _ _ h => h) (Or.inl ⟨by rfl, ?_⟩) (by assumption) ?_
  rotate_left
  · intro w hSw
    try dsimp only at hSw
    first | (go_simp; done) | (go_simp; with_reducible rfl)
  (try simp only [Act.put]); (try simp only [List.setIfInBounds_toArray]); (try simp only [List.set_cons_succ]); (try simp only [List.set_cons_zero])
  refine wpAnyH_take (i := 4) (oi := _) (v := (.agg (bys x))) rfl (by kernel_rfl) (by kernel_rfl) (by kernel_rfl) (fun _ _ _ h => h) (Or.inl ⟨by rfl, ?_⟩) (by assumption) ?_
  · intro w hSw
    exact exec_load 31 _ rfl _ rfl hSw.2.1 Try.underlying31 rfl HI.out
  (try simp only [Act.put]); (try simp only [List.setIfInBounds_toArray]); (try simp only [List.set_cons_succ]); (try simp only [List.set_cons_zero])
  refine wpAnyH_take (i := 5) (oi := _) (v := (.tuple #[.agg #[], .bool (decide (x ∈ S))])) rfl (by kernel_rfl) (by kernel_rfl) (by kernel_rfl) (fun _ _ _ h => h) (Or.inl ⟨by rfl, ?_⟩) (by assumption) ?_
  · intro w hSw
    exact exec_lookup _ _ _ _ rfl rfl rfl (HLK.out w hSw.1)
  (try simp only [Act.put]); (try simp only [List.setIfInBounds_toArray]); (try simp only [List.set_cons_succ]); (try simp only [List.set_cons_zero])
  refine wpAnyH_take (i := 6) (oi := _) (v := ?_) rfl (by kernel_rfl) (by kernel_rfl) (by kernel_rfl) (fun _ _ _ h => h) (Or.inl ⟨by rfl, ?_⟩) (by assumption) ?_
  rotate_left
  · intro w hSw
    try dsimp only at hSw
    first | (go_simp; done) | (go_simp; with_reducible rfl)
  (try simp only [Act.put]); (try simp only [List.setIfInBounds_toArray]); (try simp only [List.set_cons_succ]); (try simp only [List.set_cons_zero])
  refine wpAnyH_take (i := 7) (oi := _) (v := ?_) rfl (by kernel_rfl) (by kernel_rfl) (by kernel_rfl) (fun _ _ _ h => h) (Or.inl ⟨by rfl, ?_⟩) (by assumption) ?_
  rotate_left
  · intro w hSw
    try dsimp only at hSw
    first | (go_simp; done) | (go_simp; with_reducible rfl)
  (try simp only [Act.put]); (try simp only [List.setIfInBounds_toArray]); (try simp only [List.set_cons_succ]); (try simp only [List.set_cons_zero])
  refine wpAnyH_take (i := 8) (oi := _) (v := ?_) rfl (by kernel_rfl) (by kernel_rfl) (by kernel_rfl) (fun _ _ _ h => h) (Or.inl ⟨by rfl, ?_⟩) (by assumption) ?_
  rotate_left
  · intro w hSw
    try dsimp only at hSw
    first | (go_simp; done) | (go_simp; with_reducible rfl)
  (try simp only [Act.put]); (try simp only [List.setIfInBounds_toArray]); (try simp only [List.set_cons_succ]); (try simp only [List.set_cons_zero])
  refine wpAnyH_ready (rs := [9]) (by kernel_rfl) (by simp) ?_
  refine AllReadyH.cons rfl (fun K hK => ?_) AllReadyH.nil
  go_simp
  refine hK.out _ _ ?_ (fun hHeld => ?_)
  · exact ⟨hS0.alloc _, alloc_keep hk0 _, (hS0.alloc _).cell⟩
  clear hK K
  (try simp only [Act.put]); (try simp only [List.setIfInBounds_toArray]); (try simp only [List.set_cons_succ]); (try simp only [List.set_cons_zero])
  refine wpAnyH_ready (rs := [10]) (by kernel_rfl) (by simp) ?_
  refine AllReadyH.cons rfl (fun K hK => ?_) AllReadyH.nil
  go_simp
  refine hK.out _ _ ?_ (fun hHeld => ?_)
  · exact ⟨hS0.alloc _, alloc_keep hk0 _, (hS0.alloc _).cell⟩
  clear hK K
  (try simp only [Act.put]); (try simp only [List.setIfInBounds_toArray]); (try simp only [List.set_cons_succ]); (try simp only [List.set_cons_zero])
  refine wpAnyH_take (i := 11) (oi := _) (v := ?_) rfl (by kernel_rfl) (by kernel_rfl) (by kernel_rfl) (fun _ _ _ h => h) (Or.inl ⟨by rfl, ?_⟩) (by assumption) ?_
  rotate_left
  · intro w hSw
    try dsimp only at hSw
    first | (go_simp; done) | (go_simp; with_reducible rfl)
  (try simp only [Act.put]); (try simp only [List.setIfInBounds_toArray]); (try simp only [List.set_cons_succ]); (try simp only [List.set_cons_zero])
  refine wpAnyH_done (by kernel_rfl) ?_ _
  go_wp2
  go_ret
  exact ⟨rfl, hB0.alloc (by simp) _⟩
set_option maxRecDepth 100000 in
set_option maxHeartbeats 1000000 in
theorem has_bare (x : List Int) (hx : B8 x) {w : World} {p : Nat} (h : w.heap[p]? = some (.cells #[.map none] 95 (0, 0))) :
    Calls Try.prog 29 #[.pointer (some ⟨p, 0, none⟩), .agg (bys x)] w fun e w' => e = .returned (.bool false) ∧ Below w.heap.size w w' := by
  have HX8 : Hid ((bys x).size = 8) := hid (by rw [bys_size, hx.1])
  have HI := hid (info_id x hx)
  have HS := hid h
  have HLK := hid (fun (w' : World) => run_lookup_nil keyId Try.underlying93 x hx.1 w' (.agg #[]) (zero_unit w'))
  clear h hx
  go_enter Try.func29, Try.ntmps29
  go_wp2_with fail
  have hS0 : (w.alloc (.cells (bys x) 31)).drew.heap[p]? = some (.cells #[.map none] 95 (0, 0)) := below_keep (((Below.refl _ w).alloc (Nat.le_refl _) _).drew) HS.out
  have hc0 : ∀ w' : World, w'.heap[p]? = some (.cells #[.map none] 95 (0, 0)) → w'.cell? ⟨p, 0, none⟩ = some (.map none) := fun w' h => by rw [cell_of_row _ _ _ _ _ _ h]; rfl
  have hB0 : Below w.heap.size w (w.alloc (.cells (bys x) 31)).drew := ((Below.refl _ w).alloc (Nat.le_refl _) _).drew
  have hk0 : (w.alloc (.cells (bys x) 31)).drew.heap[w.heap.size]? = some (.cells (bys x) 31 (0, 0)) := heap_alloc_new _ _
  have HC0 := hid hc0
  have HB0 := hid hB0
  refine wp_region_held_drew (S := (fun w' => w'.heap[p]? = some (.cells #[.map none] 95 (0, 0)) ∧ w'.heap[w.heap.size]? = some (.cells (bys x) 31 (0, 0)) ∧ w'.cell? ⟨p, 0, none⟩ = some (.map none))) (by kernel_rfl) ⟨hS0, hk0, hc0 _ hS0⟩ ?_
  clear hc0 hB0
  intro hHeld
  refine wpAnyH_take (i := 0) (oi := _) (v := ?_) rfl (by kernel_rfl) (by kernel_rfl) (by kernel_rfl) (fun _ _ _ h => h) (Or.inl ⟨by rfl, ?_⟩) (by assumption) ?_
  rotate_left
  · intro w hSw
    try dsimp only at hSw
    first | (go_simp; done) | (go_simp; with_reducible rfl)
  (try simp only [Act.put]); (try simp only [List.setIfInBounds_toArray]); (try simp only [List.set_cons_succ]); (try simp only [List.set_cons_zero])
  refine wpAnyH_take (i := 1) (oi := _) (v := ?_) rfl (by kernel_rfl) (by kernel_rfl) (by kernel_rfl) (fun _ _ _ h => h) (Or.inl ⟨by rfl, ?_⟩) (by assumption) ?_
  rotate_left
  · intro w hSw
    try dsimp only at hSw
    first | (go_simp; done) | (go_simp; with_reducible rfl)
  (try simp only [Act.put]); (try simp only [List.setIfInBounds_toArray]); (try simp only [List.set_cons_succ]); (try simp only [List.set_cons_zero])
  refine wpAnyH_take (i := 2) (oi := _) (v := ?_) rfl (by kernel_rfl) (by kernel_rfl) (by kernel_rfl) (fun _ _ _ h => h) (Or.inl ⟨by rfl, ?_⟩) (by assumption) ?_
  rotate_left
  · intro w hSw
    try dsimp only at hSw
    first | (go_simp; done) | (go_simp; with_reducible rfl)
  (try simp only [Act.put]); (try simp only [List.setIfInBounds_toArray]); (try simp only [List.set_cons_succ]); (try simp only [List.set_cons_zero])
  refine wpAnyH_take (i := 3) (oi := _) (v := ?_) rfl (by kernel_rfl) (by kernel_rfl) (by kernel_rfl) (fun _ _ _ h => h) (Or.inl ⟨by rfl, ?_⟩) (by assumption) ?_
  rotate_left
  · intro w hSw
    try dsimp only at hSw
    first | (go_simp; done) | (go_simp; with_reducible rfl)
  (try simp only [Act.put]); (try simp only [List.setIfInBounds_toArray]); (try simp only [List.set_cons_succ]); (try simp only [List.set_cons_zero])
  refine wpAnyH_take (i := 4) (oi := _) (v := (.agg (bys x))) rfl (by kernel_rfl) (by kernel_rfl) (by kernel_rfl) (fun _ _ _ h => h) (Or.inl ⟨by rfl, ?_⟩) (by assumption) ?_
  · intro w hSw
    exact exec_load 31 _ rfl _ rfl hSw.2.1 Try.underlying31 rfl HI.out
  (try simp only [Act.put]); (try simp only [List.setIfInBounds_toArray]); (try simp only [List.set_cons_succ]); (try simp only [List.set_cons_zero])
  refine wpAnyH_take (i := 5) (oi := _) (v := (.tuple #[.agg #[], .bool false])) rfl (by kernel_rfl) (by kernel_rfl) (by kernel_rfl) (fun _ _ _ h => h) (Or.inl ⟨by rfl, ?_⟩) (by assumption) ?_
  · intro w hSw
    exact exec_lookup _ _ _ _ rfl rfl rfl (HLK.out w)
  (try simp only [Act.put]); (try simp only [List.setIfInBounds_toArray]); (try simp only [List.set_cons_succ]); (try simp only [List.set_cons_zero])
  refine wpAnyH_take (i := 6) (oi := _) (v := ?_) rfl (by kernel_rfl) (by kernel_rfl) (by kernel_rfl) (fun _ _ _ h => h) (Or.inl ⟨by rfl, ?_⟩) (by assumption) ?_
  rotate_left
  · intro w hSw
    try dsimp only at hSw
    first | (go_simp; done) | (go_simp; with_reducible rfl)
  (try simp only [Act.put]); (try simp only [List.setIfInBounds_toArray]); (try simp only [List.set_cons_succ]); (try simp only [List.set_cons_zero])
  refine wpAnyH_take (i := 7) (oi := _) (v := ?_) rfl (by kernel_rfl) (by kernel_rfl) (by kernel_rfl) (fun _ _ _ h => h) (Or.inl ⟨by rfl, ?_⟩) (by assumption) ?_
  rotate_left
  · intro w hSw
    try dsimp only at hSw
    first | (go_simp; done) | (go_simp; with_reducible rfl)
  (try simp only [Act.put]); (try simp only [List.setIfInBounds_toArray]); (try simp only [List.set_cons_succ]); (try simp only [List.set_cons_zero])
  refine wpAnyH_take (i := 8) (oi := _) (v := ?_) rfl (by kernel_rfl) (by kernel_rfl) (by kernel_rfl) (fun _ _ _ h => h) (Or.inl ⟨by rfl, ?_⟩) (by assumption) ?_
  rotate_left
  · intro w hSw
    try dsimp only at hSw
    first | (go_simp; done) | (go_simp; with_reducible rfl)
  (try simp only [Act.put]); (try simp only [List.setIfInBounds_toArray]); (try simp only [List.set_cons_succ]); (try simp only [List.set_cons_zero])
  refine wpAnyH_ready (rs := [9]) (by kernel_rfl) (by simp) ?_
  refine AllReadyH.cons rfl (fun K hK => ?_) AllReadyH.nil
  go_simp
  refine hK.out _ _ ?_ (fun hHeld => ?_)
  · exact ⟨alloc_keep hS0 _, alloc_keep hk0 _, HC0.out _ (alloc_keep hS0 _)⟩
  clear hK K
  (try simp only [Act.put]); (try simp only [List.setIfInBounds_toArray]); (try simp only [List.set_cons_succ]); (try simp only [List.set_cons_zero])
  refine wpAnyH_ready (rs := [10]) (by kernel_rfl) (by simp) ?_
  refine AllReadyH.cons rfl (fun K hK => ?_) AllReadyH.nil
  go_simp
  refine hK.out _ _ ?_ (fun hHeld => ?_)
  · exact ⟨alloc_keep hS0 _, alloc_keep hk0 _, HC0.out _ (alloc_keep hS0 _)⟩
  clear hK K
  (try simp only [Act.put]); (try simp only [List.setIfInBounds_toArray]); (try simp only [List.set_cons_succ]); (try simp only [List.set_cons_zero])
  refine wpAnyH_take (i := 11) (oi := _) (v := ?_) rfl (by kernel_rfl) (by kernel_rfl) (by kernel_rfl) (fun _ _ _ h => h) (Or.inl ⟨by rfl, ?_⟩) (by assumption) ?_
  rotate_left
  · intro w hSw
    try dsimp only at hSw
    first | (go_simp; done) | (go_simp; with_reducible rfl)
  (try simp only [Act.put]); (try simp only [List.setIfInBounds_toArray]); (try simp only [List.set_cons_succ]); (try simp only [List.set_cons_zero])
  refine wpAnyH_done (by kernel_rfl) ?_ _
  go_wp2
  go_ret
  exact ⟨rfl, HB0.out.alloc (by simp) _⟩
/-- **Has.** -/
theorem has_any (x : List Int) (hx : B8 x) {w : World} {pp : Option Addr} {S : List (List Int)} (h : SetAt w pp S) :
    Calls Try.prog 29 #[.pointer pp, .agg (bys x)] w fun e w' => e = .returned (.bool (decide (x ∈ S))) ∧ Below w.heap.size w w' := by
  rcases h with ⟨rfl, rfl⟩ | ⟨p, rfl, ⟨h, rfl⟩ | ⟨b, h⟩⟩
  · exact (has_nil x w).mono fun e w' h => by simpa using h
  · exact (has_bare x hx h).mono fun e w' h => by simpa using h
  · exact has_set x hx h
theorem SetAt.kept {w w' : World} {pp : Option Addr} {S : List (List Int)} (h : SetAt w pp S) (hb : Below w.heap.size w w') : SetAt w' pp S := by
  rcases h with h | ⟨p, rfl, ⟨h, rfl⟩ | ⟨b, h⟩⟩
  · exact .inl h
  · exact .inr ⟨p, rfl, .inl ⟨below_keep hb h, rfl⟩⟩
  · exact .inr ⟨p, rfl, .inr ⟨b, h.kept hb⟩⟩
theorem SetIs.at {w : World} {p b : Nat} {S : List (List Int)} (h : SetIs w p b S) : SetAt w (some ⟨p, 0, none⟩) S := .inr ⟨p, rfl, .inr ⟨b, h⟩⟩

theorem erase_ids {m : List Ent} {x : List Int} {i : Nat} {e : Ent} (hn : (m.map Ent.id).Nodup) (h : m[i]? = some e) (he : e.id = x) : (m.eraseIdx i).map Ent.id = (m.map Ent.id).erase x := by
  obtain ⟨hi, rfl⟩ := List.getElem?_eq_some_iff.1 h
  have h1 : (m.map Ent.id).idxOf x = i := by
    have := hn.idxOf_getElem i (by simpa using hi)
    rw [List.getElem_map, he] at this
    exact this
  rw [List.erase_eq_eraseIdx_of_idxOf h1, map_erase]
theorem SetIs.drop {w : World} {p b : Nat} {S : List (List Int)} (h : SetIs w p b S) {x : List Int} (hx : B8 x) (ty : TypeId) :
    ∃ w', (Builtin.delete_ #[93, 31] ty #[.map (some b), .agg (bys x)]).run Try.prog w = .ok (.tuple #[]) w' ∧ SetIs w' p b (S.erase x) ∧ w.grownBy w' (some b) := by
  obtain ⟨m, clk, hp, hm, hS, hv, hB, hnd, hbn, hlt⟩ := h
  have hne : p ≠ b := fun e => by rw [e, hm] at hp; cases hp
  have hr := run_delete keyId Try.underlying93 ty 31 x hx.1 w b m clk hm (fun y hy => (hB y.id (by rw [← hS]; exact List.mem_map_of_mem hy)).1)
  refine ⟨_, hr, ⟨del m x, clk, ?_, putObj_same hm, ?_⟩, ⟨rfl, rfl, rfl, by rw [putObj_size]; exact Nat.le_refl _, fun j _ hj => putObj_other w b _ (fun e => hj (by rw [e]))⟩⟩
  · rw [putObj_other w b _ hne]; exact hp
  · by_cases hin : x ∈ S
    · obtain ⟨j, e, h1, h2, h3⟩ := fnd_some x m 0 (by rw [hS]; exact hin)
      rw [Nat.zero_add] at h1
      have e1 : del m x = m.eraseIdx j := by unfold del; rw [h1]
      have hsub : ∀ y ∈ m.eraseIdx j, y ∈ m := fun y hy => (List.eraseIdx_sublist _ _).subset hy
      rw [e1, erase_ids (by rw [hS]; exact hnd) h2 h3, hS]
      exact ⟨rfl, fun y hy => hv y (hsub y hy), fun y hy => hB y (List.mem_of_mem_erase hy), hnd.erase x, by rw [← map_erase]; exact hbn.eraseIdx j, fun y hy => hlt y (hsub y hy)⟩
    · have h1 := fnd_none x m 0 (by rw [hS]; exact hin)
      have e1 : del m x = m := by unfold del; rw [h1]
      rw [e1, List.erase_of_not_mem hin]
      exact ⟨hS, hv, hB, hnd, hbn, hlt⟩

theorem eq_mapNilS (a : Option Nat) (w : World) : (binOp .eql 93 (.map a) (.map none)).run Try.prog w = .ok (.bool a.isNone) w := by
  have hu := Try.underlying93
  have h0 : ∀ d, (Op.equalIn (d + 1) 93 (.map a) (.map none)).run Try.prog w = .ok a.isNone w := fun d => by
    unfold Op.equalIn
    rw [Sem.run_bind, run_underlying hu]
    cases a <;> rfl
  have h : (Op.equalIn Op.maxDepth 93 (.map a) (.map none)).run Try.prog w = .ok a.isNone w := h0 9999
  simp [binOp, Op.equal, h]

set_option maxRecDepth 100000 in
set_option maxHeartbeats 1000000 in
theorem add_nil (x : List Int) (w : World) :
    Calls Try.prog 32 #[.pointer none, .agg (bys x)] w fun e w' => e = .returned (.bool false) ∧ Below w.heap.size w w' := by
  go_enter Try.func32, Try.ntmps32
  go_wp2
  go_ret
  exact ⟨rfl, (Below.refl _ _).alloc (Nat.le_refl _) _⟩

set_option maxRecDepth 100000 in
set_option maxHeartbeats 1000000 in
theorem add_bare (x : List Int) {w : World} {p : Nat} (h : w.heap[p]? = some (.cells #[.map none] 95 (0, 0))) :
    Calls Try.prog 32 #[.pointer (some ⟨p, 0, none⟩), .agg (bys x)] w fun e w' => e = .returned (.bool false) ∧ Below w.heap.size w w' := by
  have hc : (w.alloc (.cells (bys x) 31)).cell? ⟨p, 0, none⟩ = some (.map none) := by rw [cell_of_row _ _ _ _ _ _ (alloc_keep h _)]; rfl
  have hem := eq_mapNilS none
  go_enter Try.func32, Try.ntmps32
  go_wp2
  go_ret
  exact ⟨rfl, (Below.refl _ _).alloc (Nat.le_refl _) _⟩

set_option maxRecDepth 100000 in
set_option maxHeartbeats 1000000 in
theorem add_set (x : List Int) (hx : B8 x) {w : World} {p b : Nat} {S : List (List Int)} (h : SetIs w p b S) :
    Calls Try.prog 32 #[.pointer (some ⟨p, 0, none⟩), .agg (bys x)] w fun e w' => e = .returned (.bool (decide (x ∉ S))) ∧ SetIs w' p b (ins S x) ∧ Kp (fun k => k = b) w w' := by
  have HX8 : Hid ((bys x).size = 8) := hid (by rw [bys_size, hx.1])
  have HI := hid (info_id x hx)
  have HC := hid (has_set x hx (h.alloc (.cells (bys x) 31)))
  have HS := hid h
  have HXX := hid hx
  have hc : (w.alloc (.cells (bys x) 31)).cell? ⟨p, 0, none⟩ = some (.map (some b)) := (h.alloc _).cell
  clear h hx
  have hem := eq_mapNilS (some b)
  go_enter Try.func32, Try.ntmps32
  by_cases hin : x ∈ S
  · rw [decide_eq_true hin] at HC
    have HD : Hid (decide (x ∉ S) = false) := hid (by simp [hin])
    have HE : Hid (ins S x = S) := hid (by unfold ins; rw [if_pos hin])
    rw [HD.out, HE.out]
    clear hin
    go_wp2_with (first | (refine wpList_load_w rfl 31 _ rfl _ rfl _ _ _ _ (heap_alloc_new _ _) Try.underlying31 rfl HI.out ?_) | (go_at_call 29; refine HC.out.mono ?_; rintro e' w3 ⟨rfl, hb3⟩; have HB3 := hid hb3; clear hb3))
    go_ret
    have hB := ((Below.refl _ w).alloc (Nat.le_refl _) (.cells (bys x) 31)).trans (HB3.out.mono (by simp))
    exact ⟨rfl, HS.out.kept hB, (Kp.refl _ _).below hB⟩
  · rw [decide_eq_false hin] at HC
    have HD : Hid (decide (x ∉ S) = true) := hid (by simp [hin])
    rw [HD.out]
    clear hin
    go_wp2_with (first | (refine wpList_load_w rfl 31 _ rfl _ rfl _ _ _ _ (heap_alloc_new _ _) Try.underlying31 rfl HI.out ?_) | (go_at_call 29; refine HC.out.mono ?_; rintro e' w3 ⟨rfl, hb3⟩; have HB3 := hid hb3; clear hb3))
    obtain ⟨wq, hwq⟩ : ∃ wq, wq = w3.drew := ⟨_, rfl⟩
    have hB : Below w.heap.size w wq := hwq ▸ (((Below.refl _ w).alloc (Nat.le_refl _) _).trans (HB3.out.mono (by simp))).drew
    have HS2 : Hid (SetIs wq p b S) := hid (HS.out.kept hB)
    have HK2 : Hid (wq.heap[w.heap.size]? = some (.cells (bys x) 31 (0, 0))) := hid (by rw [hwq]; show w3.heap[w.heap.size]? = _; exact (HB3.out.block _ (by simp)).trans (heap_alloc_new _ _))
    have HB := hid hB
    have HQ := hid hwq
    clear hwq hB
    have hcell := HS2.out.cell
    obtain ⟨w', hrun, hset', hgr⟩ := HS2.out.add HXX.out
    have HS3 := hid hset'
    have HK3 : Hid (Kp (fun k => k = b) w w') := hid (((Kp.refl _ w).below HB.out).grown hgr (fun k e => by cases e; exact .inl rfl))
    clear hset' hgr
    refine wp_region_tail 6 (by kernel_rfl) (by kernel_rfl) wq HQ.out ?_
    simp only [List.take_succ_cons, List.take_zero, List.drop_succ_cons, List.drop_zero]
    iterate 4 still_step
    refine still_load_row rfl 31 _ rfl _ rfl _ _ _ _ HK2.out Try.underlying31 rfl HI.out ?_
    simp only [Act.put, List.setIfInBounds_toArray, List.set_cons_zero, List.set_cons_succ]
    still_step
    refine wpStill_nil ?_
    go_wp2
    go_ret
    exact ⟨rfl, HS3.out, HK3.out⟩
end Go.Proofs.Ytkaalppmheikgaa
