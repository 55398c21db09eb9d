/- Has, Add, Drop, Len of a set. -/
import Derived.Test.YtaiepkombpjjgaaSetKit
import Derived.Test.YtaiepkombpjjgaaKp
import Derived.OrdersHeld
import Derived.Deep.RegionHeld3
namespace Go.Proofs.Ytaiepkombpjjgaa
open Go.RowKit

/-- What may stand where a set is asked: none; one without a map; a set. -/
def SetAt (w : World) (pp : Option Addr) (S : List (List Int)) : Prop :=
  (pp = none ∧ S = []) ∨ ∃ p, pp = some ⟨p, 0, none⟩ ∧ ((w.heap[p]? = some (.cells #[.map none] 67 (0, 0)) ∧ S = []) ∨ ∃ b, SetIs w p b S)

section
variable {P : Program} {ρ : Operand → Value} {o : Oper} {w : World}
theorem exec_load (ty : TypeId) (x : Operand) (ho : o.op = .load ty x) (g : Nat) (hx : ρ x = .pointer (some ⟨g, 0, none⟩)) {t : TypeId} {cs : Array Value} {fr : Nat × Nat} {d : TypeDesc} (hg : w.heap[g]? = some (.cells cs t fr))
    (hu : P.underlying ty = some d) (hd : (match d with | .struct _ | .array _ _ => true | _ => false) = true) (hi : (P.info? ty).map (·.size) = some cs.size) : (execOp ρ o).run P w = .ok (.value (.agg cs)) w := by
  unfold execOp
  simp only [ho, hx, Instr.loadAt, Instr.sureAddr, Sem.run_bind, Sem.run_pure, Result.andThen_ok, run_loadVar_row w g t ty cs fr d hg hu hd hi]
theorem exec_lookup (T : TypeId) (m x : Operand) (ok : Bool) (ho : o.op = .lookup T m x ok) {mv key v : Value} (hm : ρ m = mv) (hx : ρ x = key) (hr : (Instr.lookup T mv key ok).run P w = .ok v w) : (execOp ρ o).run P w = .ok (.value v) w := by
  unfold execOp
  simp only [ho, hm, hx, Sem.run_bind, Sem.run_pure, Result.andThen_ok, hr]
end
theorem SetIs.cell {w : World} {p b : Nat} {S : List (List Int)} (h : SetIs w p b S) : w.cell? ⟨p, 0, none⟩ = some (.map (some b)) := by
  obtain ⟨m, clk, hp, _⟩ := h
  rw [cell_of_row _ _ _ _ _ _ hp]; rfl
theorem zero_unit (w : World) : (zeroValue 76).run Try.prog w = .ok (.agg #[]) w := by kernel_rfl
theorem SetIs.look {w : World} {p b : Nat} {S : List (List Int)} (h : SetIs w p b S) {x : List Int} (hx : B8 x) :
    (Instr.lookup 65 (.map (some b)) (.agg (bys x)) true).run Try.prog w = .ok (.tuple #[.agg #[], .bool (decide (x ∈ S))]) w := by
  obtain ⟨m, clk, hp, hm, hS, hv, hB, _⟩ := h
  have hr := run_lookup_ok keyId Try.underlying65 x hx.1 w b m clk hm (fun y hy => (hB y.id (by rw [← hS]; exact List.mem_map_of_mem hy)).1) (.agg #[]) (zero_unit w)
  rw [keyV_bys] at hr
  rw [hr]
  by_cases hin : x ∈ S
  · obtain ⟨j, e, h1, h2, h3⟩ := fnd_some x m 0 (by rw [hS]; exact hin)
    rw [h1]
    simp [hin, hv e (List.mem_of_getElem? h2)]
  · rw [fnd_none x m 0 (by rw [hS]; exact hin)]
    simp [hin]

set_option maxRecDepth 100000 in
set_option maxHeartbeats 1000000 in
theorem has_nil (x : List Int) (w : World) :
    Calls Try.prog 32 #[.pointer none, .agg (bys x)] w fun e w' => e = .returned (.bool false) ∧ Below w.heap.size w w' := by
  go_enter Try.func32, Try.ntmps32
  go_wp2
  go_ret
  exact ⟨rfl, (Below.refl _ _).alloc (Nat.le_refl _) _⟩

set_option maxRecDepth 100000 in
set_option maxHeartbeats 1000000 in
theorem has_set (x : List Int) (hx : B8 x) {w : World} {p b : Nat} {S : List (List Int)} (h : SetIs w p b S) :
    Calls Try.prog 32 #[.pointer (some ⟨p, 0, none⟩), .agg (bys x)] w fun e w' => e = .returned (.bool (decide (x ∈ S))) ∧ Below w.heap.size w w' := by
  have HX8 : Hid ((bys x).size = 8) := hid (by rw [bys_size, hx.1])
  have HI := hid (info_id x hx)
  have HS := hid h
  have HLK := hid (fun (w' : World) (h' : SetIs w' p b S) => h'.look hx)
  clear h hx
  go_enter Try.func32, Try.ntmps32
  go_wp2_with fail
  have hS0 : SetIs (w.alloc (.cells (bys x) 23)).drew p b S := (HS.out.alloc _).kept (Below.refl _ _).drew
  have hB0 : Below w.heap.size w (w.alloc (.cells (bys x) 23)).drew := ((Below.refl _ w).alloc (Nat.le_refl _) _).drew
  have hk0 : (w.alloc (.cells (bys x) 23)).drew.heap[w.heap.size]? = some (.cells (bys x) 23 (0, 0)) := heap_alloc_new _ _
  refine wp_region_held_drew (S := (fun w' => SetIs w' p b S ∧ w'.heap[w.heap.size]? = some (.cells (bys x) 23 (0, 0)) ∧ w'.cell? ⟨p, 0, none⟩ = some (.map (some b)))) (by kernel_rfl) ⟨hS0, hk0, hS0.cell⟩ ?_
  intro hHeld
  refine wpAnyH_take (i := 0) (oi := _) (v := ?_) rfl (by kernel_rfl) (by kernel_rfl) (by kernel_rfl) (fun _ _ _ h => h) (Or.inl ⟨by rfl, ?_⟩) (by assumption) ?_
  rotate_left
  · intro w hSw
    try dsimp only at hSw
    first | (go_simp; done) | (go_simp; with_reducible rfl)
  (try simp only [Act.put]); (try simp only [List.setIfInBounds_toArray]); (try simp only [List.set_cons_succ]); (try simp only [List.set_cons_zero])
  refine wpAnyH_take (i := 1) (oi := _) (v := ?_) rfl (by kernel_rfl) (by kernel_rfl) (by kernel_rfl) (fun _ _ _ h => h) (Or.inl ⟨by rfl, ?_⟩) (by assumption) ?_
  rotate_left
  · intro w hSw
    try dsimp only at hSw
    first | (go_simp; done) | (go_simp; with_reducible rfl)
  (try simp only [Act.put]); (try simp only [List.setIfInBounds_toArray]); (try simp only [List.set_cons_succ]); (try simp only [List.set_cons_zero])
  refine wpAnyH_take (i := 2) (oi := _) (v := ?_) rfl (by kernel_rfl) (by kernel_rfl) (by kernel_rfl) (fun _ _ _ h => h) (Or.inl ⟨by rfl, ?_⟩) (by assumption) ?_
  rotate_left
  · intro w hSw
    try dsimp only at hSw
    first | (go_simp; done) | (go_simp; with_reducible rfl)
  (try simp only [Act.put]); (try simp only [List.setIfInBounds_toArray]); (try simp only [List.set_cons_succ]); (try simp only [List.set_cons_zero])
  refine wpAnyH_take (i := 3) (oi := _) (v := ?_) rfl (by kernel_rfl) (by kernel_rfl) (by kernel_rfl) (fun _ _ _ h => h) (Or.inl ⟨by rfl, ?_⟩) (by assumption) ?_
  rotate_left
  · intro w hSw
    try dsimp only at hSw
    first | (go_simp; done) | (go_simp; with_reducible rfl)
  (try simp only [Act.put]); (try simp only [List.setIfInBounds_toArray]); (try simp only [List.set_cons_succ]); (try simp only [List.set_cons_zero])
  refine wpAnyH_take (i := 4) (oi := _) (v := (.agg (bys x))) rfl (by kernel_rfl) (by kernel_rfl) (by kernel_rfl) (fun _ _ _ h => h) (Or.inl ⟨by rfl, ?_⟩) (by assumption) ?_
  · intro w hSw
    exact exec_load 23 _ rfl _ rfl hSw.2.1 Try.underlying23 rfl HI.out
  (try simp only [Act.put]); (try simp only [List.setIfInBounds_toArray]); (try simp only [List.set_cons_succ]); (try simp only [List.set_cons_zero])
  refine wpAnyH_take (i := 5) (oi := _) (v := (.tuple #[.agg #[], .bool (decide (x ∈ S))])) rfl (by kernel_rfl) (by kernel_rfl) (by kernel_rfl) (fun _ _ _ h => h) (Or.inl ⟨by rfl, ?_⟩) (by assumption) ?_
  · intro w hSw
    exact exec_lookup _ _ _ _ rfl rfl rfl (HLK.out w hSw.1)
  (try simp only [Act.put]); (try simp only [List.setIfInBounds_toArray]); (try simp only [List.set_cons_succ]); (try simp only [List.set_cons_zero])
  refine wpAnyH_take (i := 6) (oi := _) (v := ?_) rfl (by kernel_rfl) (by kernel_rfl) (by kernel_rfl) (fun _ _ _ h => h) (Or.inl ⟨by rfl, ?_⟩) (by assumption) ?_
  rotate_left
  · intro w hSw
    try dsimp only at hSw
    first | (go_simp; done) | (go_simp; with_reducible rfl)
  (try simp only [Act.put]); (try simp only [List.setIfInBounds_toArray]); (try simp only [List.set_cons_succ]); (try simp only [List.set_cons_zero])
  refine wpAnyH_take (i := 7) (oi := _) (v := ?_) rfl (by kernel_rfl) (by kernel_rfl) (by kernel_rfl) (fun _ _ _ h => h) (Or.inl ⟨by rfl, ?_⟩) (by assumption) ?_
  rotate_left
  · intro w hSw
    try dsimp only at hSw
    first | (go_simp; done) | (go_simp; with_reducible rfl)
  (try simp only [Act.put]); (try simp only [List.setIfInBounds_toArray]); (try simp only [List.set_cons_succ]); (try simp only [List.set_cons_zero])
  refine wpAnyH_take (i := 8) (oi := _) (v := ?_) rfl (by kernel_rfl) (by kernel_rfl) (by kernel_rfl) (fun _ _ _ h => h) (Or.inl ⟨by rfl, ?_⟩) (by assumption) ?_
  rotate_left
  · intro w hSw
    try dsimp only at hSw
    first | (go_simp; done) | (go_simp; with_reducible rfl)
  (try simp only [Act.put]); (try simp only [List.setIfInBounds_toArray]); (try simp only [List.set_cons_succ]); (try simp only [List.set_cons_zero])
  refine wpAnyH_ready (rs := [9]) (by kernel_rfl) (by simp) ?_
  refine AllReadyH.cons rfl (fun K hK => ?_) AllReadyH.nil
  go_simp
  refine hK.out _ _ ?_ (fun hHeld => ?_)
  · exact ⟨hS0.alloc _, alloc_keep hk0 _, (hS0.alloc _).cell⟩
  clear hK K
  (try simp only [Act.put]); (try simp only [List.setIfInBounds_toArray]); (try simp only [List.set_cons_succ]); (try simp only [List.set_cons_zero])
  refine wpAnyH_ready (rs := [10]) (by kernel_rfl) (by simp) ?_
  refine AllReadyH.cons rfl (fun K hK => ?_) AllReadyH.nil
  go_simp
  refine hK.out _ _ ?_ (fun hHeld => ?_)
  · exact ⟨hS0.alloc _, alloc_keep hk0 _, (hS0.alloc _).cell⟩
  clear hK K
  (try simp only [Act.put]); (try simp only [List.setIfInBounds_toArray]); (try simp only [List.set_cons_succ]); (try simp only [List.set_cons_zero])
  refine wpAnyH_take (i := 11) (oi := _) (v := ?_) rfl (by kernel_rfl) (by kernel_rfl) (by kernel_rfl) (fun _ _ _ h => h) (Or.inl ⟨by rfl, ?_⟩) (by assumption) ?_
  rotate_left
  · intro w hSw
    try dsimp only at hSw
    first | (go_simp; done) | (go_simp; with_reducible rfl)
  (try simp only [Act.put]); (try simp only [List.setIfInBounds_toArray]); (try simp only [List.set_cons_succ]); (try simp only [List.set_cons_zero])
  refine wpAnyH_done (by kernel_rfl) ?_ _
  go_wp2
  go_ret
  exact ⟨rfl, hB0.alloc (by simp) _⟩
set_option maxRecDepth 100000 in
set_option maxHeartbeats 1000000 in
theorem has_bare (x : List Int) (hx : B8 x) {w : World} {p : Nat} (h : w.heap[p]? = some (.cells #[.map none] 67 (0, 0))) :
    Calls Try.prog 32 #[.pointer (some ⟨p, 0, none⟩), .agg (bys x)] w fun e w' => e = .returned (.bool false) ∧ Below w.heap.size w w' := by
  have HX8 : Hid ((bys x).size = 8) := hid (by rw [bys_size, hx.1])
  have HI := hid (info_id x hx)
  have HS := hid h
  have HLK := hid (fun (w' : World) => run_lookup_nil keyId Try.underlying65 x hx.1 w' (.agg #[]) (zero_unit w'))
  clear h hx
  go_enter Try.func32, Try.ntmps32
  go_wp2_with fail
  have hS0 : (w.alloc (.cells (bys x) 23)).drew.heap[p]? = some (.cells #[.map none] 67 (0, 0)) := below_keep (((Below.refl _ w).alloc (Nat.le_refl _) _).drew) HS.out
  have hc0 : ∀ w' : World, w'.heap[p]? = some (.cells #[.map none] 67 (0, 0)) → w'.cell? ⟨p, 0, none⟩ = some (.map none) := fun w' h => by rw [cell_of_row _ _ _ _ _ _ h]; rfl
  have hB0 : Below w.heap.size w (w.alloc (.cells (bys x) 23)).drew := ((Below.refl _ w).alloc (Nat.le_refl _) _).drew
  have hk0 : (w.alloc (.cells (bys x) 23)).drew.heap[w.heap.size]? = some (.cells (bys x) 23 (0, 0)) := heap_alloc_new _ _
  have HC0 := hid hc0
  have HB0 := hid hB0
  refine wp_region_held_drew (S := (fun w' => w'.heap[p]? = some (.cells #[.map none] 67 (0, 0)) ∧ w'.heap[w.heap.size]? = some (.cells (bys x) 23 (0, 0)) ∧ w'.cell? ⟨p, 0, none⟩ = some (.map none))) (by kernel_rfl) ⟨hS0, hk0, hc0 _ hS0⟩ ?_
  clear hc0 hB0
  intro hHeld
  refine wpAnyH_take (i := 0) (oi := _) (v := ?_) rfl (by kernel_rfl) (by kernel_rfl) (by kernel_rfl) (fun _ _ _ h => h) (Or.inl ⟨by rfl, ?_⟩) (by assumption) ?_
  rotate_left
  · intro w hSw
    try dsimp only at hSw
    first | (go_simp; done) | (go_simp; with_reducible rfl)
  (try simp only [Act.put]); (try simp only [List.setIfInBounds_toArray]); (try simp only [List.set_cons_succ]); (try simp only [List.set_cons_zero])
  refine wpAnyH_take (i := 1) (oi := _) (v := ?_) rfl (by kernel_rfl) (by kernel_rfl) (by kernel_rfl) (fun _ _ _ h => h) (Or.inl ⟨by rfl, ?_⟩) (by assumption) ?_
  rotate_left
  · intro w hSw
    try dsimp only at hSw
    first | (go_simp; done) | (go_simp; with_reducible rfl)
  (try simp only [Act.put]); (try simp only [List.setIfInBounds_toArray]); (try simp only [List.set_cons_succ]); (try simp only [List.set_cons_zero])
  refine wpAnyH_take (i := 2) (oi := _) (v := ?_) rfl (by kernel_rfl) (by kernel_rfl) (by kernel_rfl) (fun _ _ _ h => h) (Or.inl ⟨by rfl, ?_⟩) (by assumption) ?_
  rotate_left
  · intro w hSw
    try dsimp only at hSw
    first | (go_simp; done) | (go_simp; with_reducible rfl)
  (try simp only [Act.put]); (try simp only [List.setIfInBounds_toArray]); (try simp only [List.set_cons_succ]); (try simp only [List.set_cons_zero])
  refine wpAnyH_take (i := 3) (oi := _) (v := ?_) rfl (by kernel_rfl) (by kernel_rfl) (by kernel_rfl) (fun _ _ _ h => h) (Or.inl ⟨by rfl, ?_⟩) (by assumption) ?_
  rotate_left
  · intro w hSw
    try dsimp only at hSw
    first | (go_simp; done) | (go_simp; with_reducible rfl)
  (try simp only [Act.put]); (try simp only [List.setIfInBounds_toArray]); (try simp only [List.set_cons_succ]); (try simp only [List.set_cons_zero])
  refine wpAnyH_take (i := 4) (oi := _) (v := (.agg (bys x))) rfl (by kernel_rfl) (by kernel_rfl) (by kernel_rfl) (fun _ _ _ h => h) (Or.inl ⟨by rfl, ?_⟩) (by assumption) ?_
  · intro w hSw
    exact exec_load 23 _ rfl _ rfl hSw.2.1 Try.underlying23 rfl HI.out
  (try simp only [Act.put]); (try simp only [List.setIfInBounds_toArray]); (try simp only [List.set_cons_succ]); (try simp only [List.set_cons_zero])
  refine wpAnyH_take (i := 5) (oi := _) (v := (.tuple #[.agg #[], .bool false])) rfl (by kernel_rfl) (by kernel_rfl) (by kernel_rfl) (fun _ _ _ h => h) (Or.inl ⟨by rfl, ?_⟩) (by assumption) ?_
  · intro w hSw
    exact exec_lookup _ _ _ _ rfl rfl rfl (HLK.out w)
  (try simp only [Act.put]); (try simp only [List.setIfInBounds_toArray]); (try simp only [List.set_cons_succ]); (try simp only [List.set_cons_zero])
  refine wpAnyH_take (i := 6) (oi := _) (v := ?_) rfl (by kernel_rfl) (by kernel_rfl) (by kernel_rfl) (fun _ _ _ h => h) (Or.inl ⟨by rfl, ?_⟩) (by assumption) ?_
  rotate_left
  · intro w hSw
    try dsimp only at hSw
    first | (go_simp; done) | (go_simp; with_reducible rfl)
  (try simp only [Act.put]); (try simp only [List.setIfInBounds_toArray]); (try simp only [List.set_cons_succ]); (try simp only [List.set_cons_zero])
  refine wpAnyH_take (i := 7) (oi := _) (v := ?_) rfl (by kernel_rfl) (by kernel_rfl) (by kernel_rfl) (fun _ _ _ h => h) (Or.inl ⟨by rfl, ?_⟩) (by assumption) ?_
  rotate_left
  · intro w hSw
    try dsimp only at hSw
    first | (go_simp; done) | (go_simp; with_reducible rfl)
  (try simp only [Act.put]); (try simp only [List.setIfInBounds_toArray]); (try simp only [List.set_cons_succ]); (try simp only [List.set_cons_zero])
  refine wpAnyH_take (i := 8) (oi := _) (v := ?_) rfl (by kernel_rfl) (by kernel_rfl) (by kernel_rfl) (fun _ _ _ h => h) (Or.inl ⟨by rfl, ?_⟩) (by assumption) ?_
  rotate_left
  · intro w hSw
    try dsimp only at hSw
    first | (go_simp; done) | (go_simp; with_reducible rfl)
  (try simp only [Act.put]); (try simp only [List.setIfInBounds_toArray]); (try simp only [List.set_cons_succ]); (try simp only [List.set_cons_zero])
  refine wpAnyH_ready (rs := [9]) (by kernel_rfl) (by simp) ?_
  refine AllReadyH.cons rfl (fun K hK => ?_) AllReadyH.nil
  go_simp
  refine hK.out _ _ ?_ (fun hHeld => ?_)
  · exact ⟨alloc_keep hS0 _, alloc_keep hk0 _, HC0.out _ (alloc_keep hS0 _)⟩
  clear hK K
  (try simp only [Act.put]); (try simp only [List.setIfInBounds_toArray]); (try simp only [List.set_cons_succ]); (try simp only [List.set_cons_zero])
  refine wpAnyH_ready (rs := [10]) (by kernel_rfl) (by simp) ?_
  refine AllReadyH.cons rfl (fun K hK => ?_) AllReadyH.nil
  go_simp
  refine hK.out _ _ ?_ (fun hHeld => ?_)
  · exact ⟨alloc_keep hS0 _, alloc_keep hk0 _, HC0.out _ (alloc_keep hS0 _)⟩
  clear hK K
  (try simp only [Act.put]); (try simp only [List.setIfInBounds_toArray]); (try simp only [List.set_cons_succ]); (try simp only [List.set_cons_zero])
  refine wpAnyH_take (i := 11) (oi := _) (v := ?_) rfl (by kernel_rfl) (by kernel_rfl) (by kernel_rfl) (fun _ _ _ h => h) (Or.inl ⟨by rfl, ?_⟩) (by assumption) ?_
  rotate_left
  · intro w hSw
    try dsimp only at hSw
    first | (go_simp; done) | (go_simp; with_reducible rfl)
  (try simp only [Act.put]); (try simp only [List.setIfInBounds_toArray]); (try simp only [List.set_cons_succ]); (try simp only [List.set_cons_zero])
  refine wpAnyH_done (by kernel_rfl) ?_ _
  go_wp2
  go_ret
  exact ⟨rfl, HB0.out.alloc (by simp) _⟩
/-- **Has.** -/
theorem has_any (x : List Int) (hx : B8 x) {w : World} {pp : Option Addr} {S : List (List Int)} (h : SetAt w pp S) :
    Calls Try.prog 32 #[.pointer pp, .agg (bys x)] w fun e w' => e = .returned (.bool (decide (x ∈ S))) ∧ Below w.heap.size w w' := by
  rcases h with ⟨rfl, rfl⟩ | ⟨p, rfl, ⟨h, rfl⟩ | ⟨b, h⟩⟩
  · exact (has_nil x w).mono fun e w' h => by simpa using h
  · exact (has_bare x hx h).mono fun e w' h => by simpa using h
  · exact has_set x hx h
theorem SetAt.kept {w w' : World} {pp : Option Addr} {S : List (List Int)} (h : SetAt w pp S) (hb : Below w.heap.size w w') : SetAt w' pp S := by
  rcases h with h | ⟨p, rfl, ⟨h, rfl⟩ | ⟨b, h⟩⟩
  · exact .inl h
  · exact .inr ⟨p, rfl, .inl ⟨below_keep hb h, rfl⟩⟩
  · exact .inr ⟨p, rfl, .inr ⟨b, h.kept hb⟩⟩
theorem SetIs.at {w : World} {p b : Nat} {S : List (List Int)} (h : SetIs w p b S) : SetAt w (some ⟨p, 0, none⟩) S := .inr ⟨p, rfl, .inr ⟨b, h⟩⟩

theorem erase_ids {m : List Ent} {x : List Int} {i : Nat} {e : Ent} (hn : (m.map Ent.id).Nodup) (h : m[i]? = some e) (he : e.id = x) : (m.eraseIdx i).map Ent.id = (m.map Ent.id).erase x := by
  obtain ⟨hi, rfl⟩ := List.getElem?_eq_some_iff.1 h
  have h1 : (m.map Ent.id).idxOf x = i := by
    have := hn.idxOf_getElem i (by simpa using hi)
    rw [List.getElem_map, he] at this
    exact this
  rw [List.erase_eq_eraseIdx_of_idxOf h1, map_erase]
theorem SetIs.drop {w : World} {p b : Nat} {S : List (List Int)} (h : SetIs w p b S) {x : List Int} (hx : B8 x) (ty : TypeId) :
    ∃ w', (Builtin.delete_ #[65, 23] ty #[.map (some b), .agg (bys x)]).run Try.prog w = .ok (.tuple #[]) w' ∧ SetIs w' p b (S.erase x) ∧ w.grownBy w' (some b) := by
  obtain ⟨m, clk, hp, hm, hS, hv, hB, hnd, hbn, hlt⟩ := h
  have hne : p ≠ b := fun e => by rw [e, hm] at hp; cases hp
  have hr := run_delete keyId Try.underlying65 ty 23 x hx.1 w b m clk hm (fun y hy => (hB y.id (by rw [← hS]; exact List.mem_map_of_mem hy)).1)
  refine ⟨_, hr, ⟨del m x, clk, ?_, putObj_same hm, ?_⟩, ⟨rfl, rfl, rfl, by rw [putObj_size]; exact Nat.le_refl _, fun j _ hj => putObj_other w b _ (fun e => hj (by rw [e]))⟩⟩
  · rw [putObj_other w b _ hne]; exact hp
  · by_cases hin : x ∈ S
    · obtain ⟨j, e, h1, h2, h3⟩ := fnd_some x m 0 (by rw [hS]; exact hin)
      rw [Nat.zero_add] at h1
      have e1 : del m x = m.eraseIdx j := by unfold del; rw [h1]
      have hsub : ∀ y ∈ m.eraseIdx j, y ∈ m := fun y hy => (List.eraseIdx_sublist _ _).subset hy
      rw [e1, erase_ids (by rw [hS]; exact hnd) h2 h3, hS]
      exact ⟨rfl, fun y hy => hv y (hsub y hy), fun y hy => hB y (List.mem_of_mem_erase hy), hnd.erase x, by rw [← map_erase]; exact hbn.eraseIdx j, fun y hy => hlt y (hsub y hy)⟩
    · have h1 := fnd_none x m 0 (by rw [hS]; exact hin)
      have e1 : del m x = m := by unfold del; rw [h1]
      rw [e1, List.erase_of_not_mem hin]
      exact ⟨hS, hv, hB, hnd, hbn, hlt⟩

set_option maxRecDepth 100000 in
set_option maxHeartbeats 1000000 in
theorem drop_none (x : List Int) (hx : B8 x) {w : World} {pp : Option Addr} {S : List (List Int)} (h : SetAt w pp S) (hn : x ∉ S) :
    Calls Try.prog 34 #[.pointer pp, .agg (bys x)] w fun e w' => e = .returned (.bool false) ∧ Below w.heap.size w w' := by
  have HX8 : Hid ((bys x).size = 8) := hid (by rw [bys_size, hx.1])
  have HI := hid (info_id x hx)
  have HC := hid (has_any x hx (h.kept ((Below.refl _ w).alloc (Nat.le_refl _) (.cells (bys x) 23))))
  rw [decide_eq_false hn] at HC
  clear h hx hn
  go_enter Try.func34, Try.ntmps34
  go_wp2_with (first | (refine wpList_load_w rfl 23 _ rfl _ rfl _ _ _ _ (heap_alloc_new _ _) Try.underlying23 rfl HI.out ?_) | (go_at_call 32; refine HC.out.mono ?_; rintro e' w3 ⟨rfl, hb3⟩))
  go_ret
  exact ⟨rfl, ((Below.refl _ w).alloc (Nat.le_refl _) _).trans (hb3.mono (by simp))⟩

set_option maxRecDepth 100000 in
set_option maxHeartbeats 1000000 in
theorem drop_set (x : List Int) (hx : B8 x) {w : World} {p b : Nat} {S : List (List Int)} (h : SetIs w p b S) :
    Calls Try.prog 34 #[.pointer (some ⟨p, 0, none⟩), .agg (bys x)] w fun e w' => e = .returned (.bool (decide (x ∈ S))) ∧ SetIs w' p b (S.erase x) ∧ Kp (fun k => k = b) w w' := by
  by_cases hin : x ∈ S
  · have HX8 : Hid ((bys x).size = 8) := hid (by rw [bys_size, hx.1])
    have HI := hid (info_id x hx)
    have HC := hid (has_set x hx (h.alloc (.cells (bys x) 23)))
    rw [decide_eq_true hin] at HC
    rw [decide_eq_true hin]
    have HS := hid h
    have HXX := hid hx
    clear h hx
    go_enter Try.func34, Try.ntmps34
    go_wp2_with (first | (refine wpList_load_w rfl 23 _ rfl _ rfl _ _ _ _ (heap_alloc_new _ _) Try.underlying23 rfl HI.out ?_) | (go_at_call 32; refine HC.out.mono ?_; rintro e' w3 ⟨rfl, hb3⟩; have HB3 := hid hb3; clear hb3))
    obtain ⟨wq, hwq⟩ : ∃ wq, wq = w3.drew := ⟨_, rfl⟩
    have hB : Below w.heap.size w wq := hwq ▸ (((Below.refl _ w).alloc (Nat.le_refl _) _).trans (HB3.out.mono (by simp))).drew
    have HS2 : Hid (SetIs wq p b S) := hid (HS.out.kept hB)
    have HK2 : Hid (wq.heap[w.heap.size]? = some (.cells (bys x) 23 (0, 0))) := hid (by rw [hwq]; show w3.heap[w.heap.size]? = _; exact (HB3.out.block _ (by simp)).trans (heap_alloc_new _ _))
    have HB := hid hB
    have HQ := hid hwq
    clear hwq hB
    have hcell := HS2.out.cell
    obtain ⟨w', hrun, hset', hgr⟩ := HS2.out.drop HXX.out 0
    have HS3 := hid hset'
    have HK3 : Hid (Kp (fun k => k = b) w w') := hid (((Kp.refl _ w).below HB.out).grown hgr (fun k e => by cases e; exact .inl rfl))
    clear hset' hgr
    refine wp_region_tail 5 (by kernel_rfl) (by kernel_rfl) wq HQ.out ?_
    simp only [List.take_succ_cons, List.take_zero, List.drop_succ_cons, List.drop_zero]
    iterate 4 still_step
    refine still_load_row rfl 23 _ rfl _ rfl _ _ _ _ HK2.out Try.underlying23 rfl HI.out ?_
    simp only [Act.put, List.setIfInBounds_toArray, List.set_cons_zero, List.set_cons_succ]
    refine wpStill_nil ?_
    go_wp2
    go_ret
    exact ⟨rfl, HS3.out, HK3.out⟩
  · rw [decide_eq_false hin, List.erase_of_not_mem hin]
    exact (drop_none x hx h.at hin).mono fun e w' ⟨h1, h2⟩ => ⟨h1, h.kept h2, (Kp.refl _ _).below h2⟩

theorem eq_mapNil (a : Option Nat) (w : World) : (binOp .eql 65 (.map a) (.map none)).run Try.prog w = .ok (.bool a.isNone) w := by
  have hu := Try.underlying65
  have h0 : ∀ d, (Op.equalIn (d + 1) 65 (.map a) (.map none)).run Try.prog w = .ok a.isNone w := fun d => by
    unfold Op.equalIn
    rw [Sem.run_bind, run_underlying hu]
    cases a <;> rfl
  have h : (Op.equalIn Op.maxDepth 65 (.map a) (.map none)).run Try.prog w = .ok a.isNone w := h0 9999
  simp [binOp, Op.equal, h]

set_option maxRecDepth 100000 in
set_option maxHeartbeats 1000000 in
theorem add_nil (x : List Int) (w : World) :
    Calls Try.prog 35 #[.pointer none, .agg (bys x)] w fun e w' => e = .returned (.bool false) ∧ Below w.heap.size w w' := by
  go_enter Try.func35, Try.ntmps35
  go_wp2
  go_ret
  exact ⟨rfl, (Below.refl _ _).alloc (Nat.le_refl _) _⟩

set_option maxRecDepth 100000 in
set_option maxHeartbeats 1000000 in
theorem add_bare (x : List Int) {w : World} {p : Nat} (h : w.heap[p]? = some (.cells #[.map none] 67 (0, 0))) :
    Calls Try.prog 35 #[.pointer (some ⟨p, 0, none⟩), .agg (bys x)] w fun e w' => e = .returned (.bool false) ∧ Below w.heap.size w w' := by
  have hc : (w.alloc (.cells (bys x) 23)).cell? ⟨p, 0, none⟩ = some (.map none) := by rw [cell_of_row _ _ _ _ _ _ (alloc_keep h _)]; rfl
  have hem := eq_mapNil none
  go_enter Try.func35, Try.ntmps35
  go_wp2
  go_ret
  exact ⟨rfl, (Below.refl _ _).alloc (Nat.le_refl _) _⟩

set_option maxRecDepth 100000 in
set_option maxHeartbeats 1000000 in
theorem add_set (x : List Int) (hx : B8 x) {w : World} {p b : Nat} {S : List (List Int)} (h : SetIs w p b S) :
    Calls Try.prog 35 #[.pointer (some ⟨p, 0, none⟩), .agg (bys x)] w fun e w' => e = .returned (.bool (decide (x ∉ S))) ∧ SetIs w' p b (ins S x) ∧ Kp (fun k => k = b) w w' := by
  have HX8 : Hid ((bys x).size = 8) := hid (by rw [bys_size, hx.1])
  have HI := hid (info_id x hx)
  have HC := hid (has_set x hx (h.alloc (.cells (bys x) 23)))
  have HS := hid h
  have HXX := hid hx
  have hc : (w.alloc (.cells (bys x) 23)).cell? ⟨p, 0, none⟩ = some (.map (some b)) := (h.alloc _).cell
  clear h hx
  have hem := eq_mapNil (some b)
  go_enter Try.func35, Try.ntmps35
  by_cases hin : x ∈ S
  · rw [decide_eq_true hin] at HC
    have HD : Hid (decide (x ∉ S) = false) := hid (by simp [hin])
    have HE : Hid (ins S x = S) := hid (by unfold ins; rw [if_pos hin])
    rw [HD.out, HE.out]
    clear hin
    go_wp2_with (first | (refine wpList_load_w rfl 23 _ rfl _ rfl _ _ _ _ (heap_alloc_new _ _) Try.underlying23 rfl HI.out ?_) | (go_at_call 32; refine HC.out.mono ?_; rintro e' w3 ⟨rfl, hb3⟩; have HB3 := hid hb3; clear hb3))
    go_ret
    have hB := ((Below.refl _ w).alloc (Nat.le_refl _) (.cells (bys x) 23)).trans (HB3.out.mono (by simp))
    exact ⟨rfl, HS.out.kept hB, (Kp.refl _ _).below hB⟩
  · rw [decide_eq_false hin] at HC
    have HD : Hid (decide (x ∉ S) = true) := hid (by simp [hin])
    rw [HD.out]
    clear hin
    go_wp2_with (first | (refine wpList_load_w rfl 23 _ rfl _ rfl _ _ _ _ (heap_alloc_new _ _) Try.underlying23 rfl HI.out ?_) | (go_at_call 32; refine HC.out.mono ?_; rintro e' w3 ⟨rfl, hb3⟩; have HB3 := hid hb3; clear hb3))
    obtain ⟨wq, hwq⟩ : ∃ wq, wq = w3.drew := ⟨_, rfl⟩
    have hB : Below w.heap.size w wq := hwq ▸ (((Below.refl _ w).alloc (Nat.le_refl _) _).trans (HB3.out.mono (by simp))).drew
    have HS2 : Hid (SetIs wq p b S) := hid (HS.out.kept hB)
    have HK2 : Hid (wq.heap[w.heap.size]? = some (.cells (bys x) 23 (0, 0))) := hid (by rw [hwq]; show w3.heap[w.heap.size]? = _; exact (HB3.out.block _ (by simp)).trans (heap_alloc_new _ _))
    have HB := hid hB
    have HQ := hid hwq
    clear hwq hB
    have hcell := HS2.out.cell
    obtain ⟨w', hrun, hset', hgr⟩ := HS2.out.add HXX.out
    have HS3 := hid hset'
    have HK3 : Hid (Kp (fun k => k = b) w w') := hid (((Kp.refl _ w).below HB.out).grown hgr (fun k e => by cases e; exact .inl rfl))
    clear hset' hgr
    refine wp_region_tail 6 (by kernel_rfl) (by kernel_rfl) wq HQ.out ?_
    simp only [List.take_succ_cons, List.take_zero, List.drop_succ_cons, List.drop_zero]
    iterate 4 still_step
    refine still_load_row rfl 23 _ rfl _ rfl _ _ _ _ HK2.out Try.underlying23 rfl HI.out ?_
    simp only [Act.put, List.setIfInBounds_toArray, List.set_cons_zero, List.set_cons_succ]
    still_step
    refine wpStill_nil ?_
    go_wp2
    go_ret
    exact ⟨rfl, HS3.out, HK3.out⟩

set_option maxRecDepth 100000 in
set_option maxHeartbeats 1000000 in
theorem len_nil (w : World) : Calls Try.prog 31 #[.pointer none] w fun e w' => e = .returned (.int .i64 0) ∧ w' = w := by
  go_enter Try.func31, Try.ntmps31
  go_wp2
  go_ret
  exact ⟨rfl, rfl⟩

set_option maxRecDepth 100000 in
set_option maxHeartbeats 1000000 in
theorem len_bare {w : World} {p : Nat} (h : w.heap[p]? = some (.cells #[.map none] 67 (0, 0))) : Calls Try.prog 31 #[.pointer (some ⟨p, 0, none⟩)] w fun e w' => e = .returned (.int .i64 0) ∧ w' = w := by
  have hc : w.cell? ⟨p, 0, none⟩ = some (.map none) := by rw [cell_of_row _ _ _ _ _ _ h]; rfl
  go_enter Try.func31, Try.ntmps31
  go_wp2
  go_ret
  exact ⟨rfl, rfl⟩
/-- **Len.** -/
theorem len_any {w : World} {pp : Option Addr} {S : List (List Int)} (h : SetAt w pp S) : Calls Try.prog 31 #[.pointer pp] w fun e w' => e = .returned (.int .i64 S.length) ∧ w' = w := by
  rcases h with ⟨rfl, rfl⟩ | ⟨p, rfl, ⟨h, rfl⟩ | ⟨b, h⟩⟩
  · exact len_nil w
  · exact len_bare h
  · exact setLen_any p b S w h
end Go.Proofs.Ytaiepkombpjjgaa
