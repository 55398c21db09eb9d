/- The ledger's walks: Balance, Credit. -/
import Derived.Test.YtnapfjgokeloeaaLedW
namespace Go.Proofs.Ytnapfjgokeloeaa
open Go.RowKit

theorem field_bal (x y : Int) (w : World) : (Instr.field 62 (.agg #[.int .i64 x, .int .i64 y]) 0).run Try.prog w = .ok (.int .i64 x) w := by kernel_rfl
def maxN : Int := 4611686018427387903
/-- An account as it may be. -/
def AcOk (a : Ac) : Prop := -4611686018427387903 ≤ a.bal ∧ a.bal ≤ 4611686018427387903 ∧ 0 ≤ a.lim ∧ a.lim ≤ 4611686018427387903 ∧ -a.lim ≤ a.bal
def OkT (T : List (Id8 × Ac)) : Prop := ∀ x, AcOk (acOf T x)
theorem OkT.nil : OkT [] := fun x => by unfold acOf lkp ac0 AcOk; simp
theorem acOf_put (T : List (Id8 × Ac)) (x y : Id8) (a : Ac) : acOf (putM T x a) y = if x = y then a else acOf T y := by
  unfold acOf
  rw [lkp_putM]
  by_cases h : x = y
  · rw [if_pos h, if_pos h]; rfl
  · rw [if_neg h, if_neg h]
theorem OkT.put {T : List (Id8 × Ac)} (h : OkT T) (x : Id8) {a : Ac} (ha : AcOk a) : OkT (putM T x a) := fun y => by
  rw [acOf_put]
  by_cases e : x = y
  · rw [if_pos e]; exact ha
  · rw [if_neg e]; exact h y

set_option maxRecDepth 100000 in
set_option maxHeartbeats 4000000 in
theorem balance_nil (x : Id8) (w : World) : Calls Try.prog 13 #[.pointer none, .agg (bys x.1)] w fun e w' => e = .returned (.int .i64 0) ∧ Below w.heap.size w w' := by
  go_enter Try.func13, Try.ntmps13
  go_wp2_with (go_at_call 32; refine (there_nil _).mono ?_; rintro e w2 ⟨rfl, rfl⟩)
  go_ret
  exact ⟨rfl, (Below.refl _ _).alloc (Nat.le_refl _) _⟩
set_option maxRecDepth 100000 in
set_option maxHeartbeats 4000000 in
theorem balance_any (x : Id8) {w : World} {p b : Nat} {T : List (Id8 × Ac)} {v : Value} {E : List En} (h : LedAt w p b T v E) :
    Calls Try.prog 13 #[.pointer (some ⟨p, 0, none⟩), .agg (bys x.1)] w fun e w' => e = .returned (.int .i64 (acOf T x).bal) ∧ Below w.heap.size w w' := by
  have HL := hid h
  have KT := hid (there_any (h.kept ((Below.refl w.heap.size w).alloc (Nat.le_refl _) (.cells (bys x.1) 33))))
  have hfl := field_bal
  clear h
  go_enter Try.func13, Try.ntmps13
  go_wp2_with (go_at_call 32; refine KT.out.mono ?_; rintro e w2 ⟨rfl, rfl⟩)
  have hB0 : Below w.heap.size w (w.alloc (.cells (bys x.1) 33)).drew := ((Below.refl _ w).alloc (Nat.le_refl _) _).drew
  have hL0 := HL.out.kept hB0
  obtain ⟨kb, hkb⟩ : ∃ kb, kb = w.heap.size := ⟨_, rfl⟩
  have hk0 : (w.alloc (.cells (bys x.1) 33)).drew.heap[kb]? = some (.cells (bys x.1) 33 (0, 0)) := by rw [hkb]; exact heap_alloc_new _ _
  rw [← hkb]
  refine wp_region_held_drew (S := (fun w' => LedAt w' p b T v E ∧ w'.heap[kb]? = some (.cells (bys x.1) 33 (0, 0)) ∧ w'.cell? ⟨p, 0, none⟩ = some (.map (some b)))) (by kernel_rfl) ⟨hL0, hk0, hL0.cell0⟩ ?_
  intro hHeld
  refine wpAnyH_take (i := 0) (oi := _) (v := ?_) rfl (by kernel_rfl) (by kernel_rfl) (by kernel_rfl) (fun _ _ _ h => h) (Or.inl ⟨by rfl, ?_⟩) (by assumption) ?_
  rotate_left
  · intro w hSw
    try dsimp only at hSw
    first | (go_simp; done) | (go_simp; with_reducible rfl)
  (try simp only [Act.put, List.getElem_toArray, List.getElem_cons_zero]); (try simp only [List.setIfInBounds_toArray]); (try simp only [List.set_cons_succ]); (try simp only [List.set_cons_zero])
  refine wpAnyH_take (i := 1) (oi := _) (v := ?_) rfl (by kernel_rfl) (by kernel_rfl) (by kernel_rfl) (fun _ _ _ h => h) (Or.inl ⟨by rfl, ?_⟩) (by assumption) ?_
  rotate_left
  · intro w hSw
    try dsimp only at hSw
    first | (go_simp; done) | (go_simp; with_reducible rfl)
  (try simp only [Act.put, List.getElem_toArray, List.getElem_cons_succ, List.getElem_cons_zero]); (try simp only [List.setIfInBounds_toArray]); (try simp only [List.set_cons_succ]); (try simp only [List.set_cons_zero])
  refine wpAnyH_take (i := 2) (oi := _) (v := ?_) rfl (by kernel_rfl) (by kernel_rfl) (by kernel_rfl) (fun _ _ _ h => h) (Or.inl ⟨by rfl, ?_⟩) (by assumption) ?_
  rotate_left
  · intro w hSw
    try dsimp only at hSw
    first | (go_simp; done) | (go_simp; with_reducible rfl)
  (try simp only [Act.put, List.getElem_toArray, List.getElem_cons_succ, List.getElem_cons_zero]); (try simp only [List.setIfInBounds_toArray]); (try simp only [List.set_cons_succ]); (try simp only [List.set_cons_zero])
  refine wpAnyH_take (i := 3) (oi := _) (v := ?_) rfl (by kernel_rfl) (by kernel_rfl) (by kernel_rfl) (fun _ _ _ h => h) (Or.inl ⟨by rfl, ?_⟩) (by assumption) ?_
  rotate_left
  · intro w hSw
    try dsimp only at hSw
    first | (go_simp; done) | (go_simp; with_reducible rfl)
  (try simp only [Act.put, List.getElem_toArray, List.getElem_cons_succ, List.getElem_cons_zero]); (try simp only [List.setIfInBounds_toArray]); (try simp only [List.set_cons_succ]); (try simp only [List.set_cons_zero])
  refine wpAnyH_take (i := 4) (oi := _) (v := (.agg (bys x.1))) rfl (by kernel_rfl) (by kernel_rfl) (by kernel_rfl) (fun _ _ _ h => h) (Or.inl ⟨by rfl, ?_⟩) (by assumption) ?_
  · intro w hSw
    exact exec_load 33 _ rfl _ rfl hSw.2.1 Try.underlying33 rfl (idV_info x)
  (try simp only [Act.put, List.getElem_toArray, List.getElem_cons_succ, List.getElem_cons_zero]); (try simp only [List.setIfInBounds_toArray]); (try simp only [List.set_cons_succ]); (try simp only [List.set_cons_zero])
  refine wpAnyH_take (i := 5) (oi := _) (v := (.agg #[.int .i64 (acOf T x).bal, .int .i64 (acOf T x).lim])) rfl (by kernel_rfl) (by kernel_rfl) (by kernel_rfl) (fun _ _ _ h => h) (Or.inl ⟨by rfl, ?_⟩) (by assumption) ?_
  · intro w hSw
    exact exec_lookup _ _ _ _ rfl rfl rfl (hSw.1.look x)
  (try simp only [Act.put, List.getElem_toArray, List.getElem_cons_succ, List.getElem_cons_zero]); (try simp only [List.setIfInBounds_toArray]); (try simp only [List.set_cons_succ]); (try simp only [List.set_cons_zero])
  refine wpAnyH_take (i := 6) (oi := _) (v := ?_) rfl (by kernel_rfl) (by kernel_rfl) (by kernel_rfl) (fun _ _ _ h => h) (Or.inl ⟨by rfl, ?_⟩) (by assumption) ?_
  rotate_left
  · intro w hSw
    try dsimp only at hSw
    first | (go_simp; done) | (go_simp; with_reducible rfl)
  (try simp only [Act.put, List.getElem_toArray, List.getElem_cons_succ, List.getElem_cons_zero]); (try simp only [List.setIfInBounds_toArray]); (try simp only [List.set_cons_succ]); (try simp only [List.set_cons_zero])
  refine wpAnyH_take (i := 7) (oi := _) (v := ?_) rfl (by kernel_rfl) (by kernel_rfl) (by kernel_rfl) (fun _ _ _ h => h) (Or.inl ⟨by rfl, ?_⟩) (by assumption) ?_
  rotate_left
  · intro w hSw
    try dsimp only at hSw
    first | (go_simp; done) | (go_simp; with_reducible rfl)
  (try simp only [Act.put, List.getElem_toArray, List.getElem_cons_succ, List.getElem_cons_zero]); (try simp only [List.setIfInBounds_toArray]); (try simp only [List.set_cons_succ]); (try simp only [List.set_cons_zero])
  refine wpAnyH_done (by kernel_rfl) ?_ _
  go_wp2
  go_ret
  exact ⟨rfl, hB0⟩
/-- What Credit answers. -/
def credE (T : List (Id8 × Ac)) (x : Id8) (n : Int) : Int := if n < 0 ∨ 4611686018427387903 < n then 1 else if (acOf T x).bal < -n then 230 else 0
def credT (T : List (Id8 × Ac)) (x : Id8) (n : Int) : List (Id8 × Ac) := if credE T x n = 0 then putM T x ⟨(acOf T x).bal, n⟩ else T
set_option maxRecDepth 100000 in
set_option maxHeartbeats 4000000 in
theorem credit_any (x : Id8) (n : Int) (hn : -9223372036854775808 ≤ n ∧ n ≤ 9223372036854775807) {w : World} {p b : Nat} {T : List (Id8 × Ac)} {v : Value} {E : List En} (h : LedAt w p b T v E) (hok : OkT T) :
    Calls Try.prog 24 #[.pointer (some ⟨p, 0, none⟩), .agg (bys x.1), .int .i64 n] w fun e w' => e = .returned (.int .i64 (credE T x n)) ∧ LedAt w' p b (credT T x n) v E ∧ Kp (fun k => k = b) w w' := by
  have HL := hid h
  have KT := hid (there_any (h.kept ((Below.refl w.heap.size w).alloc (Nat.le_refl _) (.cells (bys x.1) 33))))
  have hax := hok x
  obtain ⟨e0, he0⟩ : ∃ e0, e0 = credE T x n := ⟨_, rfl⟩
  obtain ⟨T0, hT0⟩ : ∃ T0, T0 = credT T x n := ⟨_, rfl⟩
  rw [← he0, ← hT0]
  have HE := hid he0
  have HTT := hid hT0
  clear h hok he0 hT0
  unfold AcOk at hax
  go_enter Try.func24, Try.ntmps24
  have hb0 := (Below.refl w.heap.size w).alloc (Nat.le_refl _) (.cells (bys x.1) 33)
  by_cases h1 : n < 0
  · have HV : Hid (e0 = 1) := hid (by rw [HE.out]; unfold credE; rw [if_pos (.inl h1)])
    have HV2 : Hid (T0 = T) := hid (by rw [HTT.out]; unfold credT; rw [← HE.out, HV.out]; rfl)
    go_wp2_with (go_at_call 32; refine KT.out.mono ?_; rintro e w2 ⟨rfl, rfl⟩)
    go_ret
    exact ⟨by rw [HV.out]; rfl, by rw [HV2.out]; exact HL.out.kept hb0, (Kp.refl _ _).below hb0⟩
  by_cases h2 : 4611686018427387903 < n
  · have HV : Hid (e0 = 1) := hid (by rw [HE.out]; unfold credE; rw [if_pos (.inr h2)])
    have HV2 : Hid (T0 = T) := hid (by rw [HTT.out]; unfold credT; rw [← HE.out, HV.out]; rfl)
    go_wp2_with (go_at_call 32; refine KT.out.mono ?_; rintro e w2 ⟨rfl, rfl⟩)
    go_ret
    exact ⟨by rw [HV.out]; rfl, by rw [HV2.out]; exact HL.out.kept hb0, (Kp.refl _ _).below hb0⟩
  have hw := IntWalk.i64_in (-n) (by omega)
  go_wp2_with (go_at_call 32; refine KT.out.mono ?_; rintro e w2 ⟨rfl, rfl⟩)
  have hL0 := HL.out.kept hb0.drew
  obtain ⟨kb, hkb⟩ : ∃ kb, kb = w.heap.size := ⟨_, rfl⟩
  have hk0 : (w.alloc (.cells (bys x.1) 33)).drew.heap[kb]? = some (.cells (bys x.1) 33 (0, 0)) := by rw [hkb]; exact heap_alloc_new _ _
  rw [← hkb]
  have HK := hid (fun cs : Array Value => (⟨HL.out.kept ((((Below.refl _ w).alloc (Nat.le_refl _) (.cells (bys x.1) 33)).alloc (by simp) (.cells cs 62)).drew), by rw [hkb]; exact heap2_old _ _ _ _, (HL.out.kept ((((Below.refl _ w).alloc (Nat.le_refl _) (.cells (bys x.1) 33)).alloc (by simp) (.cells cs 62)).drew)).cell0⟩ :
    LedAt ((w.alloc (.cells (bys x.1) 33)).alloc (.cells cs 62)).drew p b T v E ∧ ((w.alloc (.cells (bys x.1) 33)).alloc (.cells cs 62)).drew.heap[kb]? = some (.cells (bys x.1) 33 (0, 0)) ∧ ((w.alloc (.cells (bys x.1) 33)).alloc (.cells cs 62)).drew.cell? ⟨p, 0, none⟩ = some (.map (some b))))
  refine wp_region_held_drew (S := (fun w' => LedAt w' p b T v E ∧ w'.heap[kb]? = some (.cells (bys x.1) 33 (0, 0)) ∧ w'.cell? ⟨p, 0, none⟩ = some (.map (some b)))) (by kernel_rfl) ⟨hL0, hk0, hL0.cell0⟩ ?_
  intro hHeld
  refine wpAnyH_take (i := 0) (oi := _) (v := ?_) rfl (by kernel_rfl) (by kernel_rfl) (by kernel_rfl) (fun _ _ _ h => h) (Or.inl ⟨by rfl, ?_⟩) (by assumption) ?_
  rotate_left
  · intro w hSw
    try dsimp only at hSw
    first | (go_simp; done) | (go_simp; with_reducible rfl)
  (try simp only [Act.put, List.getElem_toArray, List.getElem_cons_zero]); (try simp only [List.setIfInBounds_toArray]); (try simp only [List.set_cons_succ]); (try simp only [List.set_cons_zero])
  refine wpAnyH_take (i := 1) (oi := _) (v := ?_) rfl (by kernel_rfl) (by kernel_rfl) (by kernel_rfl) (fun _ _ _ h => h) (Or.inl ⟨by rfl, ?_⟩) (by assumption) ?_
  rotate_left
  · intro w hSw
    try dsimp only at hSw
    first | (go_simp; done) | (go_simp; with_reducible rfl)
  (try simp only [Act.put, List.getElem_toArray, List.getElem_cons_succ, List.getElem_cons_zero]); (try simp only [List.setIfInBounds_toArray]); (try simp only [List.set_cons_succ]); (try simp only [List.set_cons_zero])
  refine wpAnyH_take (i := 2) (oi := _) (v := ?_) rfl (by kernel_rfl) (by kernel_rfl) (by kernel_rfl) (fun _ _ _ h => h) (Or.inl ⟨by rfl, ?_⟩) (by assumption) ?_
  rotate_left
  · intro w hSw
    try dsimp only at hSw
    first | (go_simp; done) | (go_simp; with_reducible rfl)
  (try simp only [Act.put, List.getElem_toArray, List.getElem_cons_succ, List.getElem_cons_zero]); (try simp only [List.setIfInBounds_toArray]); (try simp only [List.set_cons_succ]); (try simp only [List.set_cons_zero])
  refine wpAnyH_take (i := 3) (oi := _) (v := ?_) rfl (by kernel_rfl) (by kernel_rfl) (by kernel_rfl) (fun _ _ _ h => h) (Or.inl ⟨by rfl, ?_⟩) (by assumption) ?_
  rotate_left
  · intro w hSw
    try dsimp only at hSw
    first | (go_simp; done) | (go_simp; with_reducible rfl)
  (try simp only [Act.put, List.getElem_toArray, List.getElem_cons_succ, List.getElem_cons_zero]); (try simp only [List.setIfInBounds_toArray]); (try simp only [List.set_cons_succ]); (try simp only [List.set_cons_zero])
  refine wpAnyH_take (i := 4) (oi := _) (v := (.agg (bys x.1))) rfl (by kernel_rfl) (by kernel_rfl) (by kernel_rfl) (fun _ _ _ h => h) (Or.inl ⟨by rfl, ?_⟩) (by assumption) ?_
  · intro w hSw
    exact exec_load 33 _ rfl _ rfl hSw.2.1 Try.underlying33 rfl (idV_info x)
  (try simp only [Act.put, List.getElem_toArray, List.getElem_cons_succ, List.getElem_cons_zero]); (try simp only [List.setIfInBounds_toArray]); (try simp only [List.set_cons_succ]); (try simp only [List.set_cons_zero])
  refine wpAnyH_take (i := 5) (oi := _) (v := (.agg #[.int .i64 (acOf T x).bal, .int .i64 (acOf T x).lim])) rfl (by kernel_rfl) (by kernel_rfl) (by kernel_rfl) (fun _ _ _ h => h) (Or.inl ⟨by rfl, ?_⟩) (by assumption) ?_
  · intro w hSw
    exact exec_lookup _ _ _ _ rfl rfl rfl (hSw.1.look x)
  (try simp only [Act.put, List.getElem_toArray, List.getElem_cons_succ, List.getElem_cons_zero]); (try simp only [List.setIfInBounds_toArray]); (try simp only [List.set_cons_succ]); (try simp only [List.set_cons_zero])
  refine wpAnyH_ready (rs := [6]) (by kernel_rfl) (by simp) ?_
  refine AllReadyH.cons rfl (fun K hK => ?_) AllReadyH.nil
  go_simp
  refine hK.out _ _ ?_ (fun hHeld => ?_)
  · exact HK.out _
  clear hK K
  (try simp only [Act.put, List.getElem_toArray, List.getElem_cons_succ, List.getElem_cons_zero]); (try simp only [List.setIfInBounds_toArray]); (try simp only [List.set_cons_succ]); (try simp only [List.set_cons_zero])
  refine wpAnyH_ready (rs := [7]) (by kernel_rfl) (by simp) ?_
  refine AllReadyH.cons rfl (fun K hK => ?_) AllReadyH.nil
  go_simp
  refine hK.out _ _ ?_ (fun hHeld => ?_)
  · exact HK.out _
  clear hK K
  (try simp only [Act.put, List.getElem_toArray, List.getElem_cons_succ, List.getElem_cons_zero]); (try simp only [List.setIfInBounds_toArray]); (try simp only [List.set_cons_succ]); (try simp only [List.set_cons_zero])
  refine wpAnyH_done (by kernel_rfl) ?_ _
  clear hHeld hL0 hk0
  by_cases h3 : (acOf T x).bal < -n
  · have HV : Hid (e0 = 230) := hid (by rw [HE.out]; unfold credE; rw [if_neg (by omega), if_pos h3])
    have HV2 : Hid (T0 = T) := hid (by rw [HTT.out]; unfold credT; rw [← HE.out, HV.out]; rfl)
    go_wp2
    go_ret
    have hbb := ((hb0.alloc (by simp) (.cells #[.int .i64 (acOf T x).bal, .int .i64 (acOf T x).lim] 62)).drew)
    exact ⟨by rw [HV.out]; rfl, by rw [HV2.out]; exact HL.out.kept hbb, (Kp.refl _ _).below hbb⟩
  · have HV : Hid (e0 = 0) := hid (by rw [HE.out]; unfold credE; rw [if_neg (by omega), if_neg h3])
    have HV2 : Hid (T0 = putM T x ⟨(acOf T x).bal, n⟩) := hid (by rw [HTT.out]; unfold credT; rw [← HE.out, HV.out]; rfl)
    go_wp2_with fail
    obtain ⟨hL1, hk1, hc1⟩ := HK.out #[.int .i64 (acOf T x).bal, .int .i64 n]
    obtain ⟨wq, hwq⟩ : ∃ wq, wq = ((w.alloc (.cells (bys x.1) 33)).alloc (.cells #[.int .i64 (acOf T x).bal, .int .i64 n] 62)).drew.drew := ⟨_, rfl⟩
    have HLQ : Hid (LedAt wq p b T v E) := hid (hwq ▸ hL1.kept (Below.refl _ _).drew)
    have HKQ : Hid (wq.heap[w.heap.size]? = some (.cells (bys x.1) 33 (0, 0))) := hid (by rw [hwq, ← hkb]; exact hk1)
    have HAQ : Hid (wq.heap[w.heap.size + 1]? = some (.cells (acV ⟨(acOf T x).bal, n⟩) 62 (0, 0))) := hid (by rw [hwq]; exact heap2_new _ _ _ _)
    have HBQ : Hid (Below w.heap.size w wq) := hid (hwq ▸ ((((Below.refl _ w).alloc (Nat.le_refl _) _).alloc (by simp) _).drew.drew))
    have HQ := hid hwq
    have hcell := HLQ.out.cell0
    obtain ⟨w', hrun, hl', hgr⟩ := HLQ.out.put x ⟨(acOf T x).bal, n⟩
    have HL3 := hid hl'
    have HK3 : Hid (Kp (fun k => k = b) w w') := hid (((Kp.refl _ w).below HBQ.out).grown hgr (fun k e => by cases e; exact .inl rfl))
    clear hl' hgr hL1 hk1 hc1 hwq
    refine wp_region_tail 6 (by kernel_rfl) (by kernel_rfl) wq HQ.out ?_
    simp only [List.take_succ_cons, List.take_zero, List.drop_succ_cons, List.drop_zero]
    iterate 4 still_step
    refine still_load_row rfl 33 _ rfl _ rfl _ _ _ _ HKQ.out Try.underlying33 rfl (idV_info x) ?_
    simp only [Act.put, List.setIfInBounds_toArray, List.set_cons_zero, List.set_cons_succ]
    refine still_load_row rfl 62 _ rfl _ rfl _ _ _ _ HAQ.out Try.underlying62 rfl (acc_info _) ?_
    simp only [Act.put, List.setIfInBounds_toArray, List.set_cons_zero, List.set_cons_succ]
    refine wpStill_nil ?_
    go_wp2
    go_ret
    exact ⟨by rw [HV.out]; rfl, by rw [HV2.out]; exact HL3.out, HK3.out⟩
end Go.Proofs.Ytnapfjgokeloeaa
