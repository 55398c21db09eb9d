/- A set of ids in memory: what its blocks hold; the walks of NewSet and Len. -/
import Derived.Test.YtaiepkombpjjgaaRows
import Derived.Test.YtaiepkombpjjgaaMapKit
import Derived.Test.YtaiepkombpjjgaaIdWalk
import Derived.StillTailTactics
namespace Go.Proofs.Ytaiepkombpjjgaa
open Go.RowKit

theorem keyId : KeyOk Try.prog 23 8 5 .u8 := ⟨Try.underlying23, Try.underlying5, by kernel_rfl, by kernel_rfl⟩
theorem keyV_bys (l : List Int) : keyV .u8 l = .agg (bys l) := rfl

/-- The set at p, its map at b, holds S, in the order in which they came. -/
def SetIs (w : World) (p b : Nat) (S : List (List Int)) : Prop :=
  ∃ m clk, w.heap[p]? = some (.cells #[.map (some b)] 67 (0, 0)) ∧ mapAt w .u8 b m clk ∧ m.map Ent.id = S ∧ (∀ e ∈ m, e.val = .agg #[]) ∧ (∀ x ∈ S, B8 x) ∧ S.Nodup ∧
    (m.map Ent.born).Nodup ∧ ∀ e ∈ m, e.born < clk

theorem fnd_none (x : List Int) : ∀ (m : List Ent) (i : Nat), x ∉ m.map Ent.id → fnd x m i = Option.none
  | [], _, _ => rfl
  | e :: m, i, h => by
    simp only [List.map_cons, List.mem_cons, not_or] at h
    unfold fnd
    rw [if_neg h.1]
    exact fnd_none x m (i + 1) h.2
theorem fnd_some (x : List Int) : ∀ (m : List Ent) (i : Nat), x ∈ m.map Ent.id → ∃ j e, fnd x m i = some (i + j, e.val) ∧ m[j]? = some e ∧ e.id = x
  | [], _, h => by cases h
  | e :: m, i, h => by
    unfold fnd
    by_cases hx : x = e.id
    · rw [if_pos hx]; exact ⟨0, e, rfl, rfl, hx.symm⟩
    · rw [if_neg hx]
      have h' : x ∈ m.map Ent.id := by
        rcases List.mem_cons.1 h with h | h
        · exact absurd h hx
        · exact h
      obtain ⟨j, e', h1, h2, h3⟩ := fnd_some x m (i + 1) h'
      exact ⟨j + 1, e', by rw [h1, Nat.add_assoc, Nat.add_comm 1 j], by simpa using h2, h3⟩

/-- One id more. -/
def ins (S : List (List Int)) (x : List Int) : List (List Int) := if x ∈ S then S else S ++ [x]

theorem modify_same {m : List Ent} {i : Nat} {e : Ent} {x : List Int} (h : m[i]? = some e) (hx : e.id = x) (hv : e.val = .agg #[]) : (m.modify i fun e => { e with id := x, val := .agg #[] }) = m := by
  apply List.ext_getElem?
  intro j
  rw [List.getElem?_modify]
  by_cases hj : i = j
  · subst hj
    rw [h]
    simp [← hx, ← hv]
  · simp [hj]

theorem SetIs.add {w : World} {p b : Nat} {S : List (List Int)} (h : SetIs w p b S) {x : List Int} (hx : B8 x) :
    ∃ w', (Instr.mapUpdate 65 (.map (some b)) (.agg (bys x)) (.agg #[])).run Try.prog w = .ok () w' ∧ SetIs w' p b (ins S x) ∧ w.grownBy w' (some b) := by
  obtain ⟨m, clk, hp, hm, hS, hv, hB, hnd, hbn, hlt⟩ := h
  have hne : p ≠ b := fun e => by rw [e, hm] at hp; cases hp
  have hr := run_update keyId Try.underlying65 x hx.1 (.agg #[]) w b m clk hm (fun y hy => (hB y.id (by rw [← hS]; exact List.mem_map_of_mem hy)).1)
  refine ⟨_, hr, ⟨upd m x (.agg #[]) clk, updClk m x clk, ?_, putObj_same hm, ?_⟩, ⟨rfl, rfl, rfl, by rw [putObj_size]; exact Nat.le_refl _, fun j _ hj => putObj_other w b _ (fun e => hj (by rw [e]))⟩⟩
  · rw [putObj_other w b _ hne]; exact hp
  · by_cases hin : x ∈ S
    · obtain ⟨j, e, h1, h2, h3⟩ := fnd_some x m 0 (by rw [hS]; exact hin)
      rw [Nat.zero_add] at h1
      have e1 : upd m x (.agg #[]) clk = m := by
        unfold upd
        rw [h1]
        exact modify_same h2 h3 (hv e (List.mem_of_getElem? h2))
      have e2 : updClk m x clk = clk := by unfold updClk; rw [h1]; rfl
      rw [e1, e2, ins, if_pos hin]
      exact ⟨hS, hv, hB, hnd, hbn, hlt⟩
    · have h1 := fnd_none x m 0 (by rw [hS]; exact hin)
      have e1 : upd m x (.agg #[]) clk = m ++ [⟨x, .agg #[], clk⟩] := by unfold upd; rw [h1]
      have e2 : updClk m x clk = clk + 1 := by unfold updClk; rw [h1]; rfl
      rw [e1, e2, ins, if_neg hin]
      refine ⟨by rw [List.map_append, hS]; rfl, ?_, ?_, ?_, ?_, ?_⟩
      · intro e he
        rcases List.mem_append.1 he with he | he
        · exact hv e he
        · simp at he; rw [he]
      · intro y hy
        rcases List.mem_append.1 hy with hy | hy
        · exact hB y hy
        · simp at hy; rw [hy]; exact hx
      · rw [List.nodup_append]
        refine ⟨hnd, by simp, ?_⟩
        intro a ha c hc
        simp at hc
        subst hc
        exact fun e => hin (e ▸ ha)
      · rw [List.map_append, List.nodup_append]
        refine ⟨hbn, by simp, ?_⟩
        intro a ha c hc
        simp at hc
        obtain ⟨e, he, rfl⟩ := List.mem_map.1 ha
        have := hlt e he
        omega
      · intro e he
        rcases List.mem_append.1 he with he | he
        · have := hlt e he; omega
        · simp at he; rw [he]; show clk < clk + 1; omega

theorem SetIs.kept {w w' : World} {p b : Nat} {S : List (List Int)} (h : SetIs w p b S) (hb : Below w.heap.size w w') : SetIs w' p b S := by
  obtain ⟨m, clk, hp, hm, r⟩ := h
  exact ⟨m, clk, below_keep hb hp, below_keep hb hm, r⟩
theorem SetIs.alloc {w : World} {p b : Nat} {S : List (List Int)} (h : SetIs w p b S) (o : Obj) : SetIs (w.alloc o) p b S := h.kept ((Below.refl _ _).alloc (Nat.le_refl _) _)

theorem SetIs.len {w : World} {p b : Nat} {S : List (List Int)} (h : SetIs w p b S) (ty : TypeId) : (Builtin.len_ #[65] ty #[.map (some b)]).run Try.prog w = .ok (.int .i64 S.length) w := by
  obtain ⟨m, clk, hp, hm, rfl, _⟩ := h
  rw [List.length_map]
  exact run_len_map Try.underlying65 ty w b m clk hm


/-- A slice's first elements are these ids. -/
def IdsAt (w : World) (a : Option Addr) (l : List (List Int)) : Prop :=
  l = [] ∨ ∃ g o cs t fr, a = some ⟨g, o, none⟩ ∧ w.heap[g]? = some (.cells cs t fr) ∧ ∀ i x, l[i]? = some x → o + 8 * i + 8 ≤ cs.size ∧ cs.extract (o + 8 * i) (o + 8 * i + 8) = bys x
theorem IdsAt.kept {w w' : World} {a : Option Addr} {l : List (List Int)} (h : IdsAt w a l) (hb : Below w.heap.size w w') : IdsAt w' a l := by
  rcases h with h | ⟨g, o, cs, t, fr, h1, h2, h3⟩
  · exact .inl h
  · exact .inr ⟨g, o, cs, t, fr, h1, below_keep hb h2, h3⟩

/-- What NewSet makes. -/
def NewSetPost (w : World) (S : List (List Int)) (e : Ending) (w' : World) : Prop :=
  ∃ p b, e = .returned (.pointer (some ⟨p, 0, none⟩)) ∧ SetIs w' p b S ∧ w.heap.size ≤ p ∧ w.heap.size ≤ b ∧ Below w.heap.size w w'
def insAll (S : List (List Int)) (l : List (List Int)) : List (List Int) := l.foldl ins S
theorem insAll_snoc (S l : List (List Int)) (k : Nat) (x : List Int) (h : l[k]? = some x) : insAll S (l.take (k + 1)) = ins (insAll S (l.take k)) x := by
  unfold insAll
  obtain ⟨hk, rfl⟩ := List.getElem?_eq_some_iff.1 h
  rw [List.take_succ_eq_append_getElem hk, List.foldl_append]; rfl

set_option maxRecDepth 100000 in
set_option maxHeartbeats 1000000 in
theorem newSet_any (a : Option Addr) (cap : Nat) (l : List (List Int)) (hB : ∀ x ∈ l, B8 x) (hlen : l.length ≤ 4611686018427387904) (w : World) (hl : IdsAt w a l) :
    Calls Try.prog 23 #[.slice a l.length cap] w (NewSetPost w (insAll [] l)) := by
  have hmm := @run_makeMap Try.prog
  have HBE : Hid (Below w.heap.size w ((w.alloc (.map #[] 0)).alloc (.cells #[.map (some w.heap.size)] 67))) := hid (((Below.refl _ _).alloc (Nat.le_refl _) _).alloc (by simp) _)
  have HL := hid hl
  have HB := hid hB
  have HSN := hid (insAll_snoc [] l)
  clear hl hB
  go_enter Try.func23, Try.ntmps23
  go_wp2
  go_loopw [5, 11] (fun _ i wr => ∃ k : Nat, k ≤ l.length ∧ i = .int .i64 k ∧ SetIs wr (w.heap.size + 1) w.heap.size (insAll [] (l.take k)) ∧ Below w.heap.size w wr) (fun _ i _ => l.length - (intOf i).toNat)
  case atStart => exact ⟨0, by omega, rfl, ⟨[], 0, heap2_new _ _ _ _, by show ((w.alloc (.map #[] 0)).alloc _).heap[w.heap.size]? = _; exact alloc_keep (heap_alloc_new _ _) _, rfl, by simp, by simp [insAll], by simp [insAll], by simp, by simp⟩, HBE.out⟩
  case round =>
    obtain ⟨k, hk, rfl, hset, hbel⟩ := hrel
    have HS := hid hset
    have HW := hid hbel
    clear hset hbel
    by_cases hlt : k < l.length
    · obtain ⟨x, hx⟩ : ∃ x, l[k]? = some x := ⟨l[k], by simp [hlt]⟩
      have hxb := HB.out x (List.mem_of_getElem? hx)
      have HX := hid (HSN.out k x hx)
      obtain ⟨g, o, cs, t, fr, rfl, hrow, hat⟩ := (HL.out.kept HW.out).resolve_left (by intro e; rw [e] at hlt; cases hlt)
      obtain ⟨h1, h2⟩ := hat k x hx
      have HR := hid hrow
      have H1 : Hid (o + k * 8 + 8 ≤ cs.size) := hid (by omega)
      have H2 : Hid (cs.extract (o + k * 8) (o + k * 8 + 8) = bys x) := hid (by rw [← h2, Nat.mul_comm k 8])
      have HI := hid (info_id x hxb)
      have HXB := hid hxb
      clear hrow hat h1 h2 hx hxb
      have hsz : (Try.prog.info? 23).map (·.size) = some 8 := by kernel_rfl
      have HSZ := hid hsz
      clear hsz
      have HLX : Hid ((bys x).size = 8) := hid (by rw [bys_size, HXB.out.1])
      go_wp2_with (first | (refine wpList_load_at rfl 23 _ rfl g _ 8 rfl _ _ _ _ HR.out H1.out Try.underlying23 rfl HSZ.out _ H2.out ?_) | (refine wpList_store_row rfl 23 _ _ rfl _ rfl _ rfl _ _ (heap_alloc_new _ _) (by rw [HLX.out]; rfl) (bys_one _) HI.out _ (setRow_alloc _ _ _ _) ?_))
      obtain ⟨wq, hwq⟩ : ∃ wq, wq = (wr.alloc (.cells (bys x) 23)).drew := ⟨_, rfl⟩
      have HS2 : Hid (SetIs wq (w.heap.size + 1) w.heap.size (insAll [] (l.take k))) := hid (hwq ▸ (HS.out.alloc (.cells (bys x) 23)).kept (Below.refl _ _).drew)
      have HW2 : Hid (Below w.heap.size w wq) := hid (hwq ▸ (HW.out.alloc HW.out.size _).drew)
      have HB2 : Hid (wq.heap[wr.heap.size]? = some (.cells (bys x) 23 (0, 0))) := hid (by rw [hwq]; exact heap_alloc_new _ _)
      have HQ := hid hwq
      clear hwq
      have hcell : wq.cell? ⟨w.heap.size + 1, 0, none⟩ = some (.map (some w.heap.size)) := by
        obtain ⟨m, clk, hp, _⟩ := HS2.out
        rw [cell_of_row _ _ _ _ _ _ hp]; rfl
      obtain ⟨w', hrun, hset', hgr⟩ := HS2.out.add HXB.out
      have HS3 := hid hset'
      have HW3 : Hid (Below w.heap.size w w') := hid (HW2.out.grown hgr HW2.out.size (by intro j hj; cases hj; exact Nat.le_refl _))
      clear hset' hgr
      refine wp_region_tail 6 (by kernel_rfl) (by kernel_rfl) wq HQ.out ?_
      simp only [List.take_succ_cons, List.take_zero, List.drop_succ_cons, List.drop_zero]
      iterate 4 still_step
      refine still_load_row rfl 23 _ rfl _ rfl _ _ _ _ HB2.out Try.underlying23 rfl HI.out ?_
      simp only [Act.put, List.setIfInBounds_toArray, List.set_cons_zero, List.set_cons_succ]
      still_step
      refine wpStill_nil ?_
      go_wp2
      go_roundw
      case rel => exact ⟨k + 1, by omega, by go_num, by rw [HX.out]; exact HS3.out, HW3.out⟩
      case measure => simp [intOf]; omega
    · have e : Hid (l.take k = l) := hid (List.take_of_length_le (by omega))
      go_wp2
      go_ret
      exact ⟨_, _, rfl, e.out ▸ HS.out, by omega, Nat.le_refl _, HW.out⟩

/-- Len. -/
theorem setLen_any (p b : Nat) (S : List (List Int)) (w : World) (h : SetIs w p b S) :
    Calls Try.prog 31 #[.pointer (some ⟨p, 0, none⟩)] w fun e w' => e = .returned (.int .i64 S.length) ∧ w' = w := by
  have hcell : w.cell? ⟨p, 0, none⟩ = some (.map (some b)) := by
    obtain ⟨m, clk, hp, _⟩ := h
    rw [cell_of_row _ _ _ _ _ _ hp]; rfl
  have hlen := fun ty => h.len ty
  clear h
  go_enter Try.func31, Try.ntmps31
  go_wp2
  go_ret
  exact ⟨rfl, rfl⟩

end Go.Proofs.Ytaiepkombpjjgaa
