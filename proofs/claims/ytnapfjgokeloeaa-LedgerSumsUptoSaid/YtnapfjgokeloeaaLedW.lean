/- The ledger's walks: New, there, book. -/
import Derived.Test.YtnapfjgokeloeaaLedSt
namespace Go.Proofs.Ytnapfjgokeloeaa
open Go.RowKit

set_option maxRecDepth 100000 in
set_option maxHeartbeats 2000000 in
theorem there_nil (w : World) : Calls Try.prog 32 #[.pointer none] w fun e w' => e = .returned (.bool false) ∧ w' = w := by
  go_enter Try.func32, Try.ntmps32
  go_wp2
  go_ret
  exact ⟨rfl, rfl⟩
set_option maxRecDepth 100000 in
set_option maxHeartbeats 2000000 in
theorem there_any {w : World} {p b : Nat} {T : List (Id8 × Ac)} {v : Value} {E : List En} (h : LedAt w p b T v E) : Calls Try.prog 32 #[.pointer (some ⟨p, 0, none⟩)] w fun e w' => e = .returned (.bool true) ∧ w' = w := by
  have hc := h.cell0
  have hem := eq_mapNil (some b)
  clear h
  go_enter Try.func32, Try.ntmps32
  go_wp2
  go_ret
  exact ⟨rfl, rfl⟩
set_option maxRecDepth 100000 in
set_option maxHeartbeats 2000000 in
theorem new_any (w : World) : Calls Try.prog 23 #[] w fun e w' => e = .returned (.pointer (some ⟨w.heap.size + 1, 0, none⟩)) ∧ LedAt w' (w.heap.size + 1) w.heap.size [] (.slice none 0 0) [] ∧ Below w.heap.size w w' := by
  have hmm := @run_makeMap Try.prog
  go_enter Try.func23, Try.ntmps23
  go_wp2
  go_ret
  refine ⟨rfl, ⟨heap2_new _ _ _ _, (MapIs.new w).same (Below.heap_alloc _ _ _ (by simp)), Row.nil _ _ _ _⟩, ((Below.refl _ _).alloc (Nat.le_refl _) _).alloc (by simp) _⟩
set_option maxRecDepth 100000 in
set_option maxHeartbeats 2000000 in
theorem book_any (x : Id8) (n : Int) {w : World} {p b : Nat} {T : List (Id8 × Ac)} {v : Value} {E : List En} (h : LedAt w p b T v E) (hb : -9223372036854775808 ≤ (acOf T x).bal + n ∧ (acOf T x).bal + n ≤ 9223372036854775807) :
    Calls Try.prog 35 #[.pointer (some ⟨p, 0, none⟩), .agg (bys x.1), .int .i64 n] w fun e w' => (∃ r, e = .returned r) ∧ LedAt w' p b (putM T x ⟨(acOf T x).bal + n, (acOf T x).lim⟩) v E ∧ Kp (fun k => k = b) w w' := by
  have HL := hid h
  have hw := IntWalk.i64_in ((acOf T x).bal + n) (by omega)
  clear h
  go_enter Try.func35, Try.ntmps35
  go_wp2_with fail
  have hB0 : Below w.heap.size w (w.alloc (.cells (bys x.1) 33)).drew := ((Below.refl _ w).alloc (Nat.le_refl _) _).drew
  have hL0 := HL.out.kept hB0
  obtain ⟨kb, hkb⟩ : ∃ kb, kb = w.heap.size := ⟨_, rfl⟩
  have hk0 : (w.alloc (.cells (bys x.1) 33)).drew.heap[kb]? = some (.cells (bys x.1) 33 (0, 0)) := by rw [hkb]; exact heap_alloc_new _ _
  rw [← hkb]
  have HK := hid (fun cs : Array Value => (⟨HL.out.kept ((((Below.refl _ w).alloc (Nat.le_refl _) (.cells (bys x.1) 33)).alloc (by simp) (.cells cs 62)).drew), by rw [hkb]; exact heap2_old _ _ _ _, (HL.out.kept ((((Below.refl _ w).alloc (Nat.le_refl _) (.cells (bys x.1) 33)).alloc (by simp) (.cells cs 62)).drew)).cell0⟩ :
    LedAt ((w.alloc (.cells (bys x.1) 33)).alloc (.cells cs 62)).drew p b T v E ∧ ((w.alloc (.cells (bys x.1) 33)).alloc (.cells cs 62)).drew.heap[kb]? = some (.cells (bys x.1) 33 (0, 0)) ∧ ((w.alloc (.cells (bys x.1) 33)).alloc (.cells cs 62)).drew.cell? ⟨p, 0, none⟩ = some (.map (some b))))
  refine wp_region_held_drew (S := (fun w' => LedAt w' p b T v E ∧ w'.heap[kb]? = some (.cells (bys x.1) 33 (0, 0)) ∧ w'.cell? ⟨p, 0, none⟩ = some (.map (some b)))) (by kernel_rfl) ⟨hL0, hk0, hL0.cell0⟩ ?_
  intro hHeld
  refine wpAnyH_take (i := 0) (oi := _) (v := ?_) rfl (by kernel_rfl) (by kernel_rfl) (by kernel_rfl) (fun _ _ _ h => h) (Or.inl ⟨by rfl, ?_⟩) (by assumption) ?_
  rotate_left
  · intro w hSw
    try dsimp only at hSw
    first | (go_simp; done) | (go_simp; with_reducible rfl)
  (try simp only [Act.put]); (try simp only [List.setIfInBounds_toArray]); (try simp only [List.set_cons_succ]); (try simp only [List.set_cons_zero])
  refine wpAnyH_take (i := 1) (oi := _) (v := ?_) rfl (by kernel_rfl) (by kernel_rfl) (by kernel_rfl) (fun _ _ _ h => h) (Or.inl ⟨by rfl, ?_⟩) (by assumption) ?_
  rotate_left
  · intro w hSw
    try dsimp only at hSw
    first | (go_simp; done) | (go_simp; with_reducible rfl)
  (try simp only [Act.put]); (try simp only [List.setIfInBounds_toArray]); (try simp only [List.set_cons_succ]); (try simp only [List.set_cons_zero])
  refine wpAnyH_take (i := 2) (oi := _) (v := ?_) rfl (by kernel_rfl) (by kernel_rfl) (by kernel_rfl) (fun _ _ _ h => h) (Or.inl ⟨by rfl, ?_⟩) (by assumption) ?_
  rotate_left
  · intro w hSw
    try dsimp only at hSw
    first | (go_simp; done) | (go_simp; with_reducible rfl)
  (try simp only [Act.put]); (try simp only [List.setIfInBounds_toArray]); (try simp only [List.set_cons_succ]); (try simp only [List.set_cons_zero])
  refine wpAnyH_take (i := 3) (oi := _) (v := ?_) rfl (by kernel_rfl) (by kernel_rfl) (by kernel_rfl) (fun _ _ _ h => h) (Or.inl ⟨by rfl, ?_⟩) (by assumption) ?_
  rotate_left
  · intro w hSw
    try dsimp only at hSw
    first | (go_simp; done) | (go_simp; with_reducible rfl)
  (try simp only [Act.put]); (try simp only [List.setIfInBounds_toArray]); (try simp only [List.set_cons_succ]); (try simp only [List.set_cons_zero])
  refine wpAnyH_take (i := 4) (oi := _) (v := (.agg (bys x.1))) rfl (by kernel_rfl) (by kernel_rfl) (by kernel_rfl) (fun _ _ _ h => h) (Or.inl ⟨by rfl, ?_⟩) (by assumption) ?_
  · intro w hSw
    exact exec_load 33 _ rfl _ rfl hSw.2.1 Try.underlying33 rfl (idV_info x)
  (try simp only [Act.put]); (try simp only [List.setIfInBounds_toArray]); (try simp only [List.set_cons_succ]); (try simp only [List.set_cons_zero])
  refine wpAnyH_take (i := 5) (oi := _) (v := (.agg #[.int .i64 (acOf T x).bal, .int .i64 (acOf T x).lim])) rfl (by kernel_rfl) (by kernel_rfl) (by kernel_rfl) (fun _ _ _ h => h) (Or.inl ⟨by rfl, ?_⟩) (by assumption) ?_
  · intro w hSw
    exact exec_lookup _ _ _ _ rfl rfl rfl (hSw.1.look x)
  (try simp only [Act.put]); (try simp only [List.setIfInBounds_toArray]); (try simp only [List.set_cons_succ]); (try simp only [List.set_cons_zero])
  refine wpAnyH_ready (rs := [6]) (by kernel_rfl) (by simp) ?_
  refine AllReadyH.cons rfl (fun K hK => ?_) AllReadyH.nil
  go_simp
  refine hK.out _ _ ?_ (fun hHeld => ?_)
  · exact HK.out _
  clear hK K
  (try simp only [Act.put]); (try simp only [List.setIfInBounds_toArray]); (try simp only [List.set_cons_succ]); (try simp only [List.set_cons_zero])
  refine wpAnyH_ready (rs := [7]) (by kernel_rfl) (by simp) ?_
  refine AllReadyH.cons rfl (fun K hK => ?_) AllReadyH.nil
  go_simp
  refine hK.out _ _ ?_ (fun hHeld => ?_)
  · exact HK.out _
  clear hK K
  (try simp only [Act.put]); (try simp only [List.setIfInBounds_toArray]); (try simp only [List.set_cons_succ]); (try simp only [List.set_cons_zero])
  refine wpAnyH_done (by kernel_rfl) ?_ _
  go_wp2_with fail
  obtain ⟨hL1, hk1, hc1⟩ := HK.out #[.int .i64 ((acOf T x).bal + n), .int .i64 (acOf T x).lim]
  obtain ⟨wq, hwq⟩ : ∃ wq, wq = ((w.alloc (.cells (bys x.1) 33)).alloc (.cells #[.int .i64 ((acOf T x).bal + n), .int .i64 (acOf T x).lim] 62)).drew.drew := ⟨_, rfl⟩
  have HLQ : Hid (LedAt wq p b T v E) := hid (hwq ▸ hL1.kept (Below.refl _ _).drew)
  have HKQ : Hid (wq.heap[w.heap.size]? = some (.cells (bys x.1) 33 (0, 0))) := hid (by rw [hwq, ← hkb]; exact hk1)
  have HAQ : Hid (wq.heap[w.heap.size + 1]? = some (.cells (acV ⟨(acOf T x).bal + n, (acOf T x).lim⟩) 62 (0, 0))) := hid (by rw [hwq]; exact heap2_new _ _ _ _)
  have HBQ : Hid (Below w.heap.size w wq) := hid (hwq ▸ ((((Below.refl _ w).alloc (Nat.le_refl _) _).alloc (by simp) _).drew.drew))
  have HQ := hid hwq
  have hcell := HLQ.out.cell0
  obtain ⟨w', hrun, hl', hgr⟩ := HLQ.out.put x ⟨(acOf T x).bal + n, (acOf T x).lim⟩
  have HL3 := hid hl'
  have HK3 : Hid (Kp (fun k => k = b) w w') := hid (((Kp.refl _ w).below HBQ.out).grown hgr (fun k e => by cases e; exact .inl rfl))
  clear hl' hgr hL1 hk1 hc1 hwq
  refine wp_region_tail 6 (by kernel_rfl) (by kernel_rfl) wq HQ.out ?_
  simp only [List.take_succ_cons, List.take_zero, List.drop_succ_cons, List.drop_zero]
  iterate 4 still_step
  refine still_load_row rfl 33 _ rfl _ rfl _ _ _ _ HKQ.out Try.underlying33 rfl (idV_info x) ?_
  simp only [Act.put, List.setIfInBounds_toArray, List.set_cons_zero, List.set_cons_succ]
  refine still_load_row rfl 62 _ rfl _ rfl _ _ _ _ HAQ.out Try.underlying62 rfl (acc_info _) ?_
  simp only [Act.put, List.setIfInBounds_toArray, List.set_cons_zero, List.set_cons_succ]
  refine wpStill_nil ?_
  go_wp2
  refine bodyPost_end (results_none rfl _ _ _) rfl ?_
  exact ⟨⟨_, rfl⟩, HL3.out, HK3.out⟩
end Go.Proofs.Ytnapfjgokeloeaa
