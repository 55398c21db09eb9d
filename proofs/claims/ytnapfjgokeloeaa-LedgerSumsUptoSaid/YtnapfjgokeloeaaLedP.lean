/- The ledger's walk: Pay. -/
import Derived.Test.YtnapfjgokeloeaaLedQ
namespace Go.Proofs.Ytnapfjgokeloeaa
open Go.RowKit

set_option maxRecDepth 100000 in
set_option maxHeartbeats 8000000 in
theorem pay_any (f t : Id8) (n : Int) (hn : -9223372036854775808 ≤ n ∧ n ≤ 9223372036854775807) {w : World} {p b : Nat} {T : List (Id8 × Ac)} {v : Value} {E : List En} (h : LedAt w p b T v E) (hok : OkT T) (hE : E.length ≤ 4398046511104) :
    Calls Try.prog 21 #[.pointer (some ⟨p, 0, none⟩), .agg (bys f.1), .agg (bys t.1), .int .i64 n] w fun e w' => e = .returned (.int .i64 (payE T f t n)) ∧ LedPost w w' p b v (payT T f t n) (payN T E f t n) := by
  have HL := hid h
  have hb0 := ((Below.refl w.heap.size w).alloc (Nat.le_refl _) (.cells (bys f.1) 33)).alloc (by simp) (.cells (bys t.1) 33)
  have KT := hid (there_any (h.kept hb0))
  have hf := hok f
  have ht := hok t
  have HOK := hid hok
  obtain ⟨e0, he0⟩ : ∃ e0, e0 = payE T f t n := ⟨_, rfl⟩
  obtain ⟨T0, hT0⟩ : ∃ T0, T0 = payT T f t n := ⟨_, rfl⟩
  obtain ⟨E0, hE0⟩ : ∃ E0, E0 = payN T E f t n := ⟨_, rfl⟩
  rw [← he0, ← hT0, ← hE0]
  have HE := hid he0
  have HT2 := hid hT0
  have HE2 := hid hE0
  have HX : Hid (e0 ≠ 0 → T0 = T ∧ E0 = E) := hid (fun h => ⟨by rw [HT2.out]; unfold payT; rw [← HE.out, if_neg h], by rw [HE2.out]; unfold payN; rw [← HE.out, if_neg h]⟩)
  have HF0 := hid (heap2_old w (bys f.1) 33 (.cells (bys t.1) 33))
  have HT0 := hid (heap2_new w (.cells (bys f.1) 33) (bys t.1) 33)
  have heq := fun w => eq_ids f.1 t.1 f.2 t.2 w
  rw [show decide (f.1 = t.1) = decide (f = t) by rw [decide_eq_decide]; exact Subtype.ext_iff.symm] at heq
  clear h hok he0 hT0 hE0
  unfold AcOk at hf ht
  go_enter Try.func21, Try.ntmps21
  by_cases h1 : n < 1
  · have HV : Hid (e0 = 1) := hid (by rw [HE.out]; unfold payE; rw [if_pos (.inl h1)])
    have HV2 := hid (HX.out (by rw [HV.out]; decide))
    clear hf ht heq
    go_wp2_with (first | (refine wpList_load_w rfl 33 _ rfl _ rfl _ _ _ _ HF0.out Try.underlying33 rfl (idV_info f) ?_) | (refine wpList_load_w rfl 33 _ rfl _ rfl _ _ _ _ HT0.out Try.underlying33 rfl (idV_info t) ?_) | (go_at_call 32; refine KT.out.mono ?_; rintro e w2 ⟨rfl, rfl⟩))
    go_ret
    exact ⟨by rw [HV.out]; rfl, _, by rw [HV2.out.1, HV2.out.2]; exact HL.out.kept hb0, (Kp.refl _ _).below hb0, fun k hk => .inl hk⟩
  by_cases h2 : 4611686018427387903 < n
  · have HV : Hid (e0 = 1) := hid (by rw [HE.out]; unfold payE; rw [if_pos (.inr (.inl h2))])
    have HV2 := hid (HX.out (by rw [HV.out]; decide))
    clear hf ht heq
    go_wp2_with (first | (refine wpList_load_w rfl 33 _ rfl _ rfl _ _ _ _ HF0.out Try.underlying33 rfl (idV_info f) ?_) | (refine wpList_load_w rfl 33 _ rfl _ rfl _ _ _ _ HT0.out Try.underlying33 rfl (idV_info t) ?_) | (go_at_call 32; refine KT.out.mono ?_; rintro e w2 ⟨rfl, rfl⟩))
    go_ret
    exact ⟨by rw [HV.out]; rfl, _, by rw [HV2.out.1, HV2.out.2]; exact HL.out.kept hb0, (Kp.refl _ _).below hb0, fun k hk => .inl hk⟩
  have hd1 : decide (n < 1) = false := decide_eq_false h1
  have hd2 : decide (4611686018427387903 < n) = false := decide_eq_false h2
  by_cases h3 : f = t
  · have HV : Hid (e0 = 1) := hid (by rw [HE.out]; unfold payE; rw [if_pos (.inr (.inr h3))])
    have HV2 := hid (HX.out (by rw [HV.out]; decide))
    rw [decide_eq_true h3] at heq
    clear hf ht h3
    go_wp2_with (first | (refine wpList_load_w rfl 33 _ rfl _ rfl _ _ _ _ HF0.out Try.underlying33 rfl (idV_info f) ?_) | (refine wpList_load_w rfl 33 _ rfl _ rfl _ _ _ _ HT0.out Try.underlying33 rfl (idV_info t) ?_) | (go_at_call 32; refine KT.out.mono ?_; rintro e w2 ⟨rfl, rfl⟩))
    go_ret
    exact ⟨by rw [HV.out]; rfl, _, by rw [HV2.out.1, HV2.out.2]; exact HL.out.kept hb0, (Kp.refl _ _).below hb0, fun k hk => .inl hk⟩
  rw [decide_eq_false h3] at heq
  have hw1 := IntWalk.i64_in ((acOf T f).bal - n) (by omega)
  have hw2 := IntWalk.i64_in (-(acOf T f).lim) (by omega)
  have hw3 := IntWalk.i64_in (-n) (by omega)
  go_wp2_with (first | (refine wpList_load_w rfl 33 _ rfl _ rfl _ _ _ _ HF0.out Try.underlying33 rfl (idV_info f) ?_) | (refine wpList_load_w rfl 33 _ rfl _ rfl _ _ _ _ HT0.out Try.underlying33 rfl (idV_info t) ?_) | (go_at_call 32; refine KT.out.mono ?_; rintro e w2 ⟨rfl, rfl⟩))
  obtain ⟨W, hW⟩ : ∃ W, W = (w.alloc (.cells (bys f.1) 33)).alloc (.cells (bys t.1) 33) := ⟨_, rfl⟩
  have hsz : W.heap.size = w.heap.size + 2 := by rw [hW]; simp
  have hwf : W.heap[w.heap.size]? = _ := hW ▸ HF0.out
  have hwt : W.heap[w.heap.size + 1]? = _ := hW ▸ HT0.out
  have HLW := hid (HL.out.kept (hW ▸ hb0))
  have HBW : Hid (Below w.heap.size w W) := hid (hW ▸ hb0)
  have HNE := hid h3
  rw [← hW]
  clear KT HF0 HT0 heq hW hb0 h3
  obtain ⟨kf, hkf⟩ : ∃ kf, kf = w.heap.size := ⟨_, rfl⟩
  obtain ⟨kt, hkt⟩ : ∃ kt, kt = w.heap.size + 1 := ⟨_, rfl⟩
  rw [← hkf] at hwf
  rw [← hkt] at hwt
  rw [← hkt, ← hkf]
  have HKF := hid hkf
  have HKT := hid hkt
  clear hkf hkt
  have HWF := hid hwf
  have HWT := hid hwt
  have HWB := hid (fun cs : Array Value => ((Below.refl W.heap.size W).alloc (Nat.le_refl _) (.cells cs 62)).drew)
  have hfl := field_bal
  refine wp_region_held_drew (S := (fun w' => LedAt w' p b T v E ∧ w'.heap[kf]? = some (.cells (bys f.1) 33 (0, 0)) ∧ w'.cell? ⟨p, 0, none⟩ = some (.map (some b)))) (by kernel_rfl) ⟨HLW.out.kept (Below.refl _ _).drew, hwf, (HLW.out.kept (Below.refl _ _).drew).cell0⟩ ?_
  intro hHeld
  refine wpAnyH_take (i := 0) (oi := _) (v := ?_) rfl (by kernel_rfl) (by kernel_rfl) (by kernel_rfl) (fun _ _ _ h => h) (Or.inl ⟨by rfl, ?_⟩) (by assumption) ?_
  rotate_left
  · intro w hSw
    try dsimp only at hSw
    first | (go_simp; done) | (go_simp; with_reducible rfl)
  (try simp only [Act.put, List.getElem_toArray, List.getElem_cons_zero]); (try simp only [List.setIfInBounds_toArray]); (try simp only [List.set_cons_succ]); (try simp only [List.set_cons_zero])
  refine wpAnyH_take (i := 1) (oi := _) (v := ?_) rfl (by kernel_rfl) (by kernel_rfl) (by kernel_rfl) (fun _ _ _ h => h) (Or.inl ⟨by rfl, ?_⟩) (by assumption) ?_
  rotate_left
  · intro w hSw
    try dsimp only at hSw
    first | (go_simp; done) | (go_simp; with_reducible rfl)
  (try simp only [Act.put, List.getElem_toArray, List.getElem_cons_succ, List.getElem_cons_zero]); (try simp only [List.setIfInBounds_toArray]); (try simp only [List.set_cons_succ]); (try simp only [List.set_cons_zero])
  refine wpAnyH_take (i := 2) (oi := _) (v := ?_) rfl (by kernel_rfl) (by kernel_rfl) (by kernel_rfl) (fun _ _ _ h => h) (Or.inl ⟨by rfl, ?_⟩) (by assumption) ?_
  rotate_left
  · intro w hSw
    try dsimp only at hSw
    first | (go_simp; done) | (go_simp; with_reducible rfl)
  (try simp only [Act.put, List.getElem_toArray, List.getElem_cons_succ, List.getElem_cons_zero]); (try simp only [List.setIfInBounds_toArray]); (try simp only [List.set_cons_succ]); (try simp only [List.set_cons_zero])
  refine wpAnyH_take (i := 3) (oi := _) (v := ?_) rfl (by kernel_rfl) (by kernel_rfl) (by kernel_rfl) (fun _ _ _ h => h) (Or.inl ⟨by rfl, ?_⟩) (by assumption) ?_
  rotate_left
  · intro w hSw
    try dsimp only at hSw
    first | (go_simp; done) | (go_simp; with_reducible rfl)
  (try simp only [Act.put, List.getElem_toArray, List.getElem_cons_succ, List.getElem_cons_zero]); (try simp only [List.setIfInBounds_toArray]); (try simp only [List.set_cons_succ]); (try simp only [List.set_cons_zero])
  refine wpAnyH_take (i := 4) (oi := _) (v := (.agg (bys f.1))) rfl (by kernel_rfl) (by kernel_rfl) (by kernel_rfl) (fun _ _ _ h => h) (Or.inl ⟨by rfl, ?_⟩) (by assumption) ?_
  · intro w hSw
    exact exec_load 33 _ rfl _ rfl hSw.2.1 Try.underlying33 rfl (idV_info f)
  (try simp only [Act.put, List.getElem_toArray, List.getElem_cons_succ, List.getElem_cons_zero]); (try simp only [List.setIfInBounds_toArray]); (try simp only [List.set_cons_succ]); (try simp only [List.set_cons_zero])
  refine wpAnyH_take (i := 5) (oi := _) (v := (.agg #[.int .i64 (acOf T f).bal, .int .i64 (acOf T f).lim])) rfl (by kernel_rfl) (by kernel_rfl) (by kernel_rfl) (fun _ _ _ h => h) (Or.inl ⟨by rfl, ?_⟩) (by assumption) ?_
  · intro w hSw
    exact exec_lookup _ _ _ _ rfl rfl rfl (hSw.1.look f)
  (try simp only [Act.put, List.getElem_toArray, List.getElem_cons_succ, List.getElem_cons_zero]); (try simp only [List.setIfInBounds_toArray]); (try simp only [List.set_cons_succ]); (try simp only [List.set_cons_zero])
  refine wpAnyH_ready (rs := [6]) (by kernel_rfl) (by simp) ?_
  refine AllReadyH.cons rfl (fun K hK => ?_) AllReadyH.nil
  go_simp
  refine hK.out _ _ ?_ (fun hHeld => ?_)
  · exact ⟨HLW.out.kept (HWB.out _), below_keep (HWB.out _) HWF.out, (HLW.out.kept (HWB.out _)).cell0⟩
  clear hK K
  (try simp only [Act.put, List.getElem_toArray, List.getElem_cons_succ, List.getElem_cons_zero]); (try simp only [List.setIfInBounds_toArray]); (try simp only [List.set_cons_succ]); (try simp only [List.set_cons_zero])
  refine wpAnyH_ready (rs := [7]) (by kernel_rfl) (by simp) ?_
  refine AllReadyH.cons rfl (fun K hK => ?_) AllReadyH.nil
  go_simp
  refine hK.out _ _ ?_ (fun hHeld => ?_)
  · exact ⟨HLW.out.kept (HWB.out _), below_keep (HWB.out _) HWF.out, (HLW.out.kept (HWB.out _)).cell0⟩
  clear hK K
  (try simp only [Act.put, List.getElem_toArray, List.getElem_cons_succ, List.getElem_cons_zero]); (try simp only [List.setIfInBounds_toArray]); (try simp only [List.set_cons_succ]); (try simp only [List.set_cons_zero])
  refine wpAnyH_done (by kernel_rfl) ?_ _
  clear hHeld
  by_cases h4 : (acOf T f).bal - n < -(acOf T f).lim
  · have HV : Hid (e0 = 230) := hid (by rw [HE.out]; unfold payE; rw [if_neg (by rintro (h | h | h); omega; omega; exact HNE.out h), if_pos h4])
    have HV2 := hid (HX.out (by rw [HV.out]; decide))
    go_wp2
    go_ret
    have hbb := HBW.out.trans ((HWB.out #[.int .i64 (acOf T f).bal, .int .i64 (acOf T f).lim]).mono HBW.out.size)
    exact ⟨by rw [HV.out]; rfl, _, by rw [HV2.out.1, HV2.out.2]; exact HL.out.kept hbb, (Kp.refl _ _).below hbb, fun k hk => .inl hk⟩
  have H4 := hid h4
  go_wp2_with fail
  obtain ⟨W2, hW2⟩ : ∃ W2, W2 = (W.alloc (.cells #[.int .i64 (acOf T f).bal, .int .i64 (acOf T f).lim] 62)).drew := ⟨_, rfl⟩
  have hb2 : Below W.heap.size W W2 := hW2 ▸ HWB.out _
  have HL2 := hid (HLW.out.kept hb2)
  have HWT2 := hid (below_keep hb2 HWT.out)
  have HWF2 := hid (below_keep hb2 HWF.out)
  have HB2 := hid (HBW.out.trans (hb2.mono HBW.out.size))
  rw [← hW2]
  clear hW2 hb2 hwf hwt
  have KA := hid (add_any (acOf T t).bal n (by omega) (by omega))
  refine wp_region_held_drew (S := (fun w' => LedAt w' p b T v E ∧ w'.heap[kt]? = some (.cells (bys t.1) 33 (0, 0)) ∧ w'.cell? ⟨p, 0, none⟩ = some (.map (some b)))) (by kernel_rfl) ⟨HL2.out.kept (Below.refl _ _).drew, HWT2.out, (HL2.out.kept (Below.refl _ _).drew).cell0⟩ ?_
  intro hHeld
  refine wpAnyH_take (i := 0) (oi := _) (v := ?_) rfl (by kernel_rfl) (by kernel_rfl) (by kernel_rfl) (fun _ _ _ h => h) (Or.inl ⟨by rfl, ?_⟩) (by assumption) ?_
  rotate_left
  · intro w hSw
    try dsimp only at hSw
    first | (go_simp; done) | (go_simp; with_reducible rfl)
  (try simp only [Act.put, List.getElem_toArray, List.getElem_cons_zero]); (try simp only [List.setIfInBounds_toArray]); (try simp only [List.set_cons_succ]); (try simp only [List.set_cons_zero])
  refine wpAnyH_take (i := 1) (oi := _) (v := ?_) rfl (by kernel_rfl) (by kernel_rfl) (by kernel_rfl) (fun _ _ _ h => h) (Or.inl ⟨by rfl, ?_⟩) (by assumption) ?_
  rotate_left
  · intro w hSw
    try dsimp only at hSw
    first | (go_simp; done) | (go_simp; with_reducible rfl)
  (try simp only [Act.put, List.getElem_toArray, List.getElem_cons_succ, List.getElem_cons_zero]); (try simp only [List.setIfInBounds_toArray]); (try simp only [List.set_cons_succ]); (try simp only [List.set_cons_zero])
  refine wpAnyH_take (i := 2) (oi := _) (v := ?_) rfl (by kernel_rfl) (by kernel_rfl) (by kernel_rfl) (fun _ _ _ h => h) (Or.inl ⟨by rfl, ?_⟩) (by assumption) ?_
  rotate_left
  · intro w hSw
    try dsimp only at hSw
    first | (go_simp; done) | (go_simp; with_reducible rfl)
  (try simp only [Act.put, List.getElem_toArray, List.getElem_cons_succ, List.getElem_cons_zero]); (try simp only [List.setIfInBounds_toArray]); (try simp only [List.set_cons_succ]); (try simp only [List.set_cons_zero])
  refine wpAnyH_take (i := 3) (oi := _) (v := ?_) rfl (by kernel_rfl) (by kernel_rfl) (by kernel_rfl) (fun _ _ _ h => h) (Or.inl ⟨by rfl, ?_⟩) (by assumption) ?_
  rotate_left
  · intro w hSw
    try dsimp only at hSw
    first | (go_simp; done) | (go_simp; with_reducible rfl)
  (try simp only [Act.put, List.getElem_toArray, List.getElem_cons_succ, List.getElem_cons_zero]); (try simp only [List.setIfInBounds_toArray]); (try simp only [List.set_cons_succ]); (try simp only [List.set_cons_zero])
  refine wpAnyH_take (i := 4) (oi := _) (v := (.agg (bys t.1))) rfl (by kernel_rfl) (by kernel_rfl) (by kernel_rfl) (fun _ _ _ h => h) (Or.inl ⟨by rfl, ?_⟩) (by assumption) ?_
  · intro w hSw
    exact exec_load 33 _ rfl _ rfl hSw.2.1 Try.underlying33 rfl (idV_info t)
  (try simp only [Act.put, List.getElem_toArray, List.getElem_cons_succ, List.getElem_cons_zero]); (try simp only [List.setIfInBounds_toArray]); (try simp only [List.set_cons_succ]); (try simp only [List.set_cons_zero])
  refine wpAnyH_take (i := 5) (oi := _) (v := (.agg #[.int .i64 (acOf T t).bal, .int .i64 (acOf T t).lim])) rfl (by kernel_rfl) (by kernel_rfl) (by kernel_rfl) (fun _ _ _ h => h) (Or.inl ⟨by rfl, ?_⟩) (by assumption) ?_
  · intro w hSw
    exact exec_lookup _ _ _ _ rfl rfl rfl (hSw.1.look t)
  (try simp only [Act.put, List.getElem_toArray, List.getElem_cons_succ, List.getElem_cons_zero]); (try simp only [List.setIfInBounds_toArray]); (try simp only [List.set_cons_succ]); (try simp only [List.set_cons_zero])
  refine wpAnyH_take (i := 6) (oi := _) (v := ?_) rfl (by kernel_rfl) (by kernel_rfl) (by kernel_rfl) (fun _ _ _ h => h) (Or.inl ⟨by rfl, ?_⟩) (by assumption) ?_
  rotate_left
  · intro w hSw
    try dsimp only at hSw
    first | (go_simp; done) | (go_simp; with_reducible rfl)
  (try simp only [Act.put, List.getElem_toArray, List.getElem_cons_succ, List.getElem_cons_zero]); (try simp only [List.setIfInBounds_toArray]); (try simp only [List.set_cons_succ]); (try simp only [List.set_cons_zero])
  refine wpAnyH_take (i := 7) (oi := _) (v := ?_) rfl (by kernel_rfl) (by kernel_rfl) (by kernel_rfl) (fun _ _ _ h => h) (Or.inl ⟨by rfl, ?_⟩) (by assumption) ?_
  rotate_left
  · intro w hSw
    try dsimp only at hSw
    first | (go_simp; done) | (go_simp; with_reducible rfl)
  (try simp only [Act.put, List.getElem_toArray, List.getElem_cons_succ, List.getElem_cons_zero]); (try simp only [List.setIfInBounds_toArray]); (try simp only [List.set_cons_succ]); (try simp only [List.set_cons_zero])
  refine wpAnyH_ready (rs := [8]) (by kernel_rfl) (by simp) ?_
  refine AllReadyH.cons rfl (fun K hK => ?_) AllReadyH.nil
  (go_simp; go_at_call 34; refine (KA.out _).mono ?_; rintro e1 w9 ⟨rfl, rfl⟩)
  refine hK.out _ _ ?_ (fun hHeld => ?_)
  · exact hHeld
  clear hK K
  (try simp only [Act.put, List.getElem_toArray, List.getElem_cons_succ, List.getElem_cons_zero]); (try simp only [List.setIfInBounds_toArray]); (try simp only [List.set_cons_succ]); (try simp only [List.set_cons_zero])
  refine wpAnyH_take (i := 9) (oi := _) (v := ?_) rfl (by kernel_rfl) (by kernel_rfl) (by kernel_rfl) (fun _ _ _ h => h) (Or.inl ⟨by rfl, ?_⟩) (by assumption) ?_
  rotate_left
  · intro w hSw
    try dsimp only at hSw
    first | (go_simp; done) | (go_simp; with_reducible rfl)
  (try simp only [Act.put, List.getElem_toArray, List.getElem_cons_succ, List.getElem_cons_zero]); (try simp only [List.setIfInBounds_toArray]); (try simp only [List.set_cons_succ]); (try simp only [List.set_cons_zero])
  refine wpAnyH_take (i := 10) (oi := _) (v := ?_) rfl (by kernel_rfl) (by kernel_rfl) (by kernel_rfl) (fun _ _ _ h => h) (Or.inl ⟨by rfl, ?_⟩) (by assumption) ?_
  rotate_left
  · intro w hSw
    try dsimp only at hSw
    first | (go_simp; done) | (go_simp; with_reducible rfl)
  (try simp only [Act.put, List.getElem_toArray, List.getElem_cons_succ, List.getElem_cons_zero]); (try simp only [List.setIfInBounds_toArray]); (try simp only [List.set_cons_succ]); (try simp only [List.set_cons_zero])
  refine wpAnyH_take (i := 11) (oi := _) (v := ?_) rfl (by kernel_rfl) (by kernel_rfl) (by kernel_rfl) (fun _ _ _ h => h) (Or.inl ⟨by rfl, ?_⟩) (by assumption) ?_
  rotate_left
  · intro w hSw
    try dsimp only at hSw
    first | (go_simp; done) | (go_simp; with_reducible rfl)
  (try simp only [Act.put, List.getElem_toArray, List.getElem_cons_succ, List.getElem_cons_zero]); (try simp only [List.setIfInBounds_toArray]); (try simp only [List.set_cons_succ]); (try simp only [List.set_cons_zero])
  refine wpAnyH_take (i := 12) (oi := _) (v := ?_) rfl (by kernel_rfl) (by kernel_rfl) (by kernel_rfl) (fun _ _ _ h => h) (Or.inl ⟨by rfl, ?_⟩) (by assumption) ?_
  rotate_left
  · intro w hSw
    try dsimp only at hSw
    first | (go_simp; done) | (go_simp; with_reducible rfl)
  (try simp only [Act.put, List.getElem_toArray, List.getElem_cons_succ, List.getElem_cons_zero]); (try simp only [List.setIfInBounds_toArray]); (try simp only [List.set_cons_succ]); (try simp only [List.set_cons_zero])
  refine wpAnyH_take (i := 13) (oi := _) (v := ?_) rfl (by kernel_rfl) (by kernel_rfl) (by kernel_rfl) (fun _ _ _ h => h) (Or.inl ⟨by rfl, ?_⟩) (by assumption) ?_
  rotate_left
  · intro w hSw
    try dsimp only at hSw
    first | (go_simp; done) | (go_simp; with_reducible rfl)
  (try simp only [Act.put, List.getElem_toArray, List.getElem_cons_succ, List.getElem_cons_zero]); (try simp only [List.setIfInBounds_toArray]); (try simp only [List.set_cons_succ]); (try simp only [List.set_cons_zero])
  refine wpAnyH_done (by kernel_rfl) ?_ _
  clear hHeld
  by_cases h5 : 4611686018427387903 < (acOf T t).bal + n
  · have HV : Hid (e0 = 3) := hid (by rw [HE.out]; unfold payE; rw [if_neg (by rintro (h | h | h); omega; omega; exact HNE.out h), if_neg (by have := H4.out; omega), if_pos h5])
    have HV2 := hid (HX.out (by rw [HV.out]; decide))
    have hd5 : decide ((acOf T t).bal + n ≤ 4611686018427387903) = false := decide_eq_false (by omega)
    go_wp2
    go_ret
    have hbb := HB2.out.drew
    exact ⟨by rw [HV.out]; rfl, _, by rw [HV2.out.1, HV2.out.2]; exact HL.out.kept hbb, (Kp.refl _ _).below hbb, fun k hk => .inl hk⟩
  have HV : Hid (e0 = 0) := hid (by rw [HE.out]; unfold payE; rw [if_neg (by rintro (h | h | h); omega; omega; exact HNE.out h), if_neg (by have := H4.out; omega), if_neg h5])
  have HTV : Hid (T0 = putM (putM T f ⟨(acOf T f).bal + -n, (acOf T f).lim⟩) t ⟨(acOf T t).bal + n, (acOf T t).lim⟩) := hid (by rw [HT2.out]; unfold payT; rw [← HE.out, if_pos HV.out])
  have HEV : Hid (E0 = E ++ [⟨f, t, n⟩]) := hid (by rw [HE2.out]; unfold payN; rw [← HE.out, if_pos HV.out])
  have hd5 : decide ((acOf T t).bal + n ≤ 4611686018427387903) = true := decide_eq_true (by omega)
  obtain ⟨W3, hW3⟩ : ∃ W3, W3 = W2.drew := ⟨_, rfl⟩
  have HL3 : Hid (LedAt W3 p b T v E) := hid (by rw [hW3]; exact HL2.out.kept (Below.refl _ _).drew)
  have HWF3 : Hid (W3.heap[kf]? = some (.cells (bys f.1) 33 (0, 0))) := hid (by rw [hW3]; exact HWF2.out)
  have HWT3 : Hid (W3.heap[kt]? = some (.cells (bys t.1) 33 (0, 0))) := hid (by rw [hW3]; exact HWT2.out)
  have HB3 : Hid (Below w.heap.size w W3) := hid (by rw [hW3]; exact HB2.out.drew)
  rw [← hW3]
  clear hW3
  have hac : acOf (putM T f ⟨(acOf T f).bal + -n, (acOf T f).lim⟩) t = acOf T t := by rw [acOf_put, if_neg HNE.out]
  have hbw : b < w.heap.size := HL.out.acc.lt
  have K1 := hid (book_any f (-n) HL3.out (by omega))
  have K2 := hid (fun (w' : World) (h : LedAt w' p b (putM T f ⟨(acOf T f).bal + -n, (acOf T f).lim⟩) v E) => book_any t n h (by rw [hac]; omega))
  rw [hac] at K2
  have Ua := hid trivial
  have hkb1 : kf ≠ b := by have := HKF.out; omega
  have hkb2 : kt ≠ b := by have := HKT.out; omega
  clear hac
  go_wp2_with (first | (refine wpList_load_w rfl 33 _ rfl _ rfl _ _ _ _ HWF3.out Try.underlying33 rfl (idV_info f) ?_) | (refine wpList_load_w rfl 33 _ rfl _ rfl _ _ _ _ HWT4.out Try.underlying33 rfl (idV_info t) ?_) | (go_at_call 35; clear Ua; refine K1.out.mono ?_; rintro e4 W4 ⟨⟨r4, rfl⟩, hl4, hk4⟩; have HL4 := hid hl4; have HWF4 := hid (hk4.keep HWF3.out hkb1); have HWT4 := hid (hk4.keep HWT3.out hkb2); have HK4 := hid hk4; clear hl4 hk4) | (go_at_call 35; refine (K2.out W4 HL4.out).mono ?_; rintro e5 W5 ⟨⟨r5, rfl⟩, hl5, hk5⟩; have HL5 := hid hl5; have HWF5 := hid (hk5.keep HWF4.out hkb1); have HWT5 := hid (hk5.keep HWT4.out hkb2); have HK5 := hid (HK4.out.trans hk5 (fun _ _ h => h)); clear hl5 hk5))
  obtain ⟨W6, hW6⟩ : ∃ W6, W6 = W5.drew := ⟨_, rfl⟩
  have hb56 : Below W5.heap.size W5 W6 := hW6 ▸ (Below.refl _ W5).drew
  have HL6 := hid (HL5.out.kept hb56)
  have HWF6 := hid (below_keep hb56 HWF5.out)
  have HWT6 := hid (below_keep hb56 HWT5.out)
  have hbx := fun o : Obj => (Below.refl W6.heap.size W6).alloc (Nat.le_refl _) o
  have hKW := fun o : Obj => ((((Kp.refl (LOwn p b v) w).below HB3.out).trans HK5.out (fun _ _ h => .inr (.inl h))).below hb56).below (hbx o)
  obtain ⟨ob, hob⟩ : ∃ ob : Obj, ob = .cells (enE ⟨f, t, n⟩) 35 := ⟨_, rfl⟩
  obtain ⟨W7, hW7⟩ : ∃ W7, W7 = W6.alloc ob := ⟨_, rfl⟩
  have HL7 := hid (hW7 ▸ HL6.out.kept (hbx ob))
  have HWF7 := hid (hW7 ▸ below_keep (hbx ob) HWF6.out)
  have HWT7 := hid (hW7 ▸ below_keep (hbx ob) HWT6.out)
  have HN7 : Hid (W7.heap[W6.heap.size]? = some (.cells (enE ⟨f, t, n⟩) 35 (0, 0))) := hid (by rw [hW7, hob]; exact heap_alloc_new _ _)
  have HSB : Hid (W7.heap[kf]? = some (.cells (bys f.1) 33 (0, 0)) ∧ W7.heap[kt]? = some (.cells (bys t.1) 33 (0, 0))) := hid ⟨HWF7.out, HWT7.out⟩
  have HSA : Hid (∀ w5, W7.grownBy w5 v.ownBlock → w5.heap[kf]? = some (.cells (bys f.1) 33 (0, 0)) ∧ w5.heap[kt]? = some (.cells (bys t.1) 33 (0, 0))) := hid (fun w5 hg => ⟨(hg.block kf (heap_lt HWF7.out) (ent_id HL7.out HWF7.out)).trans HWF7.out, (hg.block kt (heap_lt HWT7.out) (ent_id HL7.out HWT7.out)).trans HWT7.out⟩)
  have hkp : kf ≠ p ∧ kt ≠ p := ⟨fun e => (by have h1 := HWF7.out; rw [e, HL7.out.blk] at h1; injection h1 with h1; injection h1 with _ h2; exact absurd h2 (by decide)), fun e => (by have h1 := HWT7.out; rw [e, HL7.out.blk] at h1; injection h1 with h1; injection h1 with _ h2; exact absurd h2 (by decide))⟩
  have HSC : Hid (∀ (w5 : World) (v5 : Value), (w5.heap[kf]? = some (.cells (bys f.1) 33 (0, 0)) ∧ w5.heap[kt]? = some (.cells (bys t.1) 33 (0, 0))) → ((w5.setCell ⟨p, 1, none⟩ v5).heap[kf]? = some (.cells (bys f.1) 33 (0, 0)) ∧ (w5.setCell ⟨p, 1, none⟩ v5).heap[kt]? = some (.cells (bys t.1) 33 (0, 0)))) := hid (fun w5 v5 h => ⟨by rw [heap_setCell_ne hkp.1]; exact h.1, by rw [heap_setCell_ne hkp.2]; exact h.2⟩)
  have HC5 := hid (fun w5 (hg : W7.grownBy w5 v.ownBlock) => HL7.out.far1 hg)
  have HRW := hid HL7.out.ent
  have HFIN : Hid (∀ v5 w5, Row w5 0 35 17 v5 (E.length + 1) (fl enE E ++ (enE ⟨f, t, n⟩).toList) → W7.grownBy w5 v.ownBlock → (v5.ownBlock = v.ownBlock ∨ ∀ g, v5.ownBlock = some g → W7.heap.size ≤ g) → LedPost w (w5.setCell ⟨p, 1, none⟩ v5) p b v T0 E0) :=
    hid (fun v5 w5 h1 h2 h3 => by rw [HTV.out, HEV.out]; exact (led_append HL7.out ⟨f, t, n⟩ h1 h2 h3).after (by rw [hW7]; exact hKW ob))
  have hc6 := HL6.out.cell1
  have hc7 := HL7.out.cell1
  obtain ⟨av, cv, hv⟩ := HL6.out.ent.shape
  have HV6 := hid hv
  have HS6 : Hid (W6.heap[kf]? = some (.cells (bys f.1) 33 (0, 0)) ∧ W6.heap[kt]? = some (.cells (bys t.1) 33 (0, 0))) := hid ⟨HWF6.out, HWT6.out⟩
  have HW7 := hid hW7
  have HOB := hid hob
  rw [hob] at hW7
  clear hbx hKW hb56 hkp hob
  obtain ⟨i0, hi, hz0, hz1, hz2⟩ := entry_info
  refine wp_region_held_drew (S := fun w' => w'.heap[kf]? = some (.cells (bys f.1) 33 (0, 0)) ∧ w'.heap[kt]? = some (.cells (bys t.1) 33 (0, 0))) (by kernel_rfl) (hW6 ▸ HS6.out) ?_
  rw [← hW6]
  intro hHeld
  clear hW6 hW7 hv
  refine wpAnyH_take (i := 0) (oi := _) (v := ?_) rfl (by kernel_rfl) (by kernel_rfl) (by kernel_rfl) (fun _ _ _ h => h) (Or.inl ⟨by rfl, ?_⟩) (by assumption) ?_
  rotate_left
  · intro w hSw
    try dsimp only at hSw
    first | (go_simp; done) | (go_simp; with_reducible rfl)
  (try simp only [Act.put, List.getElem_toArray, List.getElem_cons_zero]); (try simp only [List.setIfInBounds_toArray]); (try simp only [List.set_cons_succ]); (try simp only [List.set_cons_zero])
  refine wpAnyH_take (i := 1) (oi := _) (v := ?_) rfl (by kernel_rfl) (by kernel_rfl) (by kernel_rfl) (fun _ _ _ h => h) (Or.inl ⟨by rfl, ?_⟩) (by assumption) ?_
  rotate_left
  · intro w hSw
    try dsimp only at hSw
    first | (go_simp; done) | (go_simp; with_reducible rfl)
  (try simp only [Act.put, List.getElem_toArray, List.getElem_cons_succ, List.getElem_cons_zero]); (try simp only [List.setIfInBounds_toArray]); (try simp only [List.set_cons_succ]); (try simp only [List.set_cons_zero])
  refine wpAnyH_take (i := 2) (oi := _) (v := ?_) rfl (by kernel_rfl) (by kernel_rfl) (by kernel_rfl) (fun _ _ _ h => h) (Or.inl ⟨by rfl, ?_⟩) (by assumption) ?_
  rotate_left
  · intro w hSw
    try dsimp only at hSw
    first | (go_simp; done) | (go_simp; with_reducible rfl)
  (try simp only [Act.put, List.getElem_toArray, List.getElem_cons_succ, List.getElem_cons_zero]); (try simp only [List.setIfInBounds_toArray]); (try simp only [List.set_cons_succ]); (try simp only [List.set_cons_zero])
  refine wpAnyH_take (i := 3) (oi := _) (v := ?_) rfl (by kernel_rfl) (by kernel_rfl) (by kernel_rfl) (fun _ _ _ h => h) (Or.inl ⟨by rfl, ?_⟩) (by assumption) ?_
  rotate_left
  · intro w hSw
    try dsimp only at hSw
    first | (go_simp; done) | (go_simp; with_reducible rfl)
  (try simp only [Act.put, List.getElem_toArray, List.getElem_cons_succ, List.getElem_cons_zero]); (try simp only [List.setIfInBounds_toArray]); (try simp only [List.set_cons_succ]); (try simp only [List.set_cons_zero])
  refine wpAnyH_take (i := 5) (oi := _) (v := (.agg (bys f.1))) rfl (by kernel_rfl) (by kernel_rfl) (by kernel_rfl) (fun _ _ _ h => h) (Or.inl ⟨by rfl, ?_⟩) (by assumption) ?_
  · intro w hSw
    exact exec_load 33 _ rfl _ rfl hSw.1 Try.underlying33 rfl (idV_info f)
  (try simp only [Act.put, List.getElem_toArray, List.getElem_cons_succ, List.getElem_cons_zero]); (try simp only [List.setIfInBounds_toArray]); (try simp only [List.set_cons_succ]); (try simp only [List.set_cons_zero])
  refine wpAnyH_take (i := 6) (oi := _) (v := (.agg (bys t.1))) rfl (by kernel_rfl) (by kernel_rfl) (by kernel_rfl) (fun _ _ _ h => h) (Or.inl ⟨by rfl, ?_⟩) (by assumption) ?_
  · intro w hSw
    exact exec_load 33 _ rfl _ rfl hSw.2 Try.underlying33 rfl (idV_info t)
  (try simp only [Act.put, List.getElem_toArray, List.getElem_cons_succ, List.getElem_cons_zero]); (try simp only [List.setIfInBounds_toArray]); (try simp only [List.set_cons_succ]); (try simp only [List.set_cons_zero])
  refine wpAnyH_take (i := 7) (oi := _) (v := ?_) rfl (by kernel_rfl) (by kernel_rfl) (by kernel_rfl) (fun _ _ _ h => h) (Or.inl ⟨by rfl, ?_⟩) (by assumption) ?_
  rotate_left
  · intro w hSw
    try dsimp only at hSw
    first | (go_simp; done) | (go_simp; with_reducible rfl)
  (try simp only [Act.put, List.getElem_toArray, List.getElem_cons_succ, List.getElem_cons_zero]); (try simp only [List.setIfInBounds_toArray]); (try simp only [List.set_cons_succ]); (try simp only [List.set_cons_zero])
  refine wpAnyH_take (i := 8) (oi := _) (v := (.agg (enE ⟨f, t, n⟩))) rfl (by kernel_rfl) (by kernel_rfl) (by kernel_rfl) (fun _ _ _ h => h) (Or.inl ⟨by rfl, ?_⟩) (by assumption) ?_
  · intro w hSw
    refine exec_build _ _ rfl ?_; simp only [List.map_toArray, List.map_cons, List.map_nil]; exact build_entry f t n w
  (try simp only [Act.put, List.getElem_toArray, List.getElem_cons_succ, List.getElem_cons_zero]); (try simp only [List.setIfInBounds_toArray]); (try simp only [List.set_cons_succ]); (try simp only [List.set_cons_zero])
  refine wpAnyH_ready (rs := [4, 9]) (by kernel_rfl) (by simp) ?_
  refine AllReadyH.cons rfl (fun K hK => ?_) (AllReadyH.cons rfl (fun K hK => ?_) AllReadyH.nil)
  · go_simp
    refine hK.out _ _ ?_ (fun hHeld => ?_)
    · exact HS6.out
    clear hK K
    (try simp only [Act.put, List.getElem_toArray, List.getElem_cons_succ, List.getElem_cons_zero]); (try simp only [List.setIfInBounds_toArray]); (try simp only [List.set_cons_succ]); (try simp only [List.set_cons_zero])
    refine wpAnyH_ready (rs := [9]) (by kernel_rfl) (by simp) ?_
    refine AllReadyH.cons rfl (fun K hK => ?_) AllReadyH.nil
    (refine step_build1 rfl 25 35 _ (by rfl) (enE ⟨f, t, n⟩) (by rfl) i0 _ Try.underlying25 hi hz0 (by rw [hz1, enE_size]) (by rw [enE_size]; decide) (by rw [enE_size]; decide) ?_); rw [← HOB.out, ← HW7.out]
    refine hK.out _ _ ?_ (fun hHeld => ?_)
    · first | exact HS6.out | exact HSB.out | exact HS5.out | exact HSC.out _ _ HS5.out
    clear hK K
    (try simp only [Act.put, List.getElem_toArray, List.getElem_cons_succ, List.getElem_cons_zero]); (try simp only [List.setIfInBounds_toArray]); (try simp only [List.set_cons_succ]); (try simp only [List.set_cons_zero])
    refine wpAnyH_ready (rs := [10]) (by kernel_rfl) (by simp) ?_
    refine AllReadyH.cons rfl (fun K hK => ?_) AllReadyH.nil
    (refine step_append_row rfl _ _ 25 (by rfl) 0 35 i0 _ 17 24 Try.underlying25 hi hz0 hz1 hz2 (by rfl) (by decide) _ _ _ (by rfl) HRW.out ⟨_, 0, none⟩ 1 1 (enE ⟨f, t, n⟩).toList (by rfl) (by rw [Array.length_toList, enE_size]) (cells_at HN7.out) (enE_ones _) (by unfold maxLen; omega) (by omega) (Nat.zero_le _) ?_; intro v5 w5 hr5 hg5 ho5; have HS5 := hid (HSA.out w5 hg5); have HR5 := hid hr5; have HO5 := hid ho5; have HG5 := hid hg5; obtain ⟨a5, c5, rfl⟩ := hr5.shape; have hc5 := (HC5.out w5 hg5).1; have hf5 := (HC5.out w5 hg5).2; clear hr5 hg5 ho5)
    refine hK.out _ _ ?_ (fun hHeld => ?_)
    · first | exact HS6.out | exact HSB.out | exact HS5.out | exact HSC.out _ _ HS5.out
    clear hK K
    (try simp only [Act.put, List.getElem_toArray, List.getElem_cons_succ, List.getElem_cons_zero]); (try simp only [List.setIfInBounds_toArray]); (try simp only [List.set_cons_succ]); (try simp only [List.set_cons_zero])
    refine wpAnyH_take (i := 11) (oi := _) (v := ?_) rfl (by kernel_rfl) (by kernel_rfl) (by kernel_rfl) (fun _ _ _ h => h) (Or.inl ⟨by rfl, ?_⟩) (by assumption) ?_
    rotate_left
    · intro w hSw
      try dsimp only at hSw
      first | (go_simp; done) | (go_simp; with_reducible rfl)
    (try simp only [Act.put, List.getElem_toArray, List.getElem_cons_succ, List.getElem_cons_zero]); (try simp only [List.setIfInBounds_toArray]); (try simp only [List.set_cons_succ]); (try simp only [List.set_cons_zero])
    refine wpAnyH_take (i := 12) (oi := _) (v := ?_) rfl (by kernel_rfl) (by kernel_rfl) (by kernel_rfl) (fun _ _ _ h => h) (Or.inl ⟨by rfl, ?_⟩) (by assumption) ?_
    rotate_left
    · intro w hSw
      try dsimp only at hSw
      first | (go_simp; done) | (go_simp; with_reducible rfl)
    (try simp only [Act.put, List.getElem_toArray, List.getElem_cons_succ, List.getElem_cons_zero]); (try simp only [List.setIfInBounds_toArray]); (try simp only [List.set_cons_succ]); (try simp only [List.set_cons_zero])
    refine wpAnyH_ready (rs := [13]) (by kernel_rfl) (by simp) ?_
    refine AllReadyH.cons rfl (fun K hK => ?_) AllReadyH.nil
    go_simp
    refine hK.out _ _ ?_ (fun hHeld => ?_)
    · first | exact HS6.out | exact HSB.out | exact HS5.out | exact HSC.out _ _ HS5.out
    clear hK K
    (try simp only [Act.put, List.getElem_toArray, List.getElem_cons_succ, List.getElem_cons_zero]); (try simp only [List.setIfInBounds_toArray]); (try simp only [List.set_cons_succ]); (try simp only [List.set_cons_zero])
    refine wpAnyH_done (by kernel_rfl) ?_ _
    clear hHeld
    go_wp2
    go_ret
    exact ⟨by rw [HV.out]; rfl, HFIN.out _ _ HR5.out HG5.out HO5.out⟩
  · (refine step_build1 rfl 25 35 _ (by rfl) (enE ⟨f, t, n⟩) (by rfl) i0 _ Try.underlying25 hi hz0 (by rw [hz1, enE_size]) (by rw [enE_size]; decide) (by rw [enE_size]; decide) ?_); rw [← HOB.out, ← HW7.out]
    refine hK.out _ _ ?_ (fun hHeld => ?_)
    · exact HSB.out
    clear hK K
    (try simp only [Act.put, List.getElem_toArray, List.getElem_cons_succ, List.getElem_cons_zero]); (try simp only [List.setIfInBounds_toArray]); (try simp only [List.set_cons_succ]); (try simp only [List.set_cons_zero])
    refine wpAnyH_ready (rs := [4]) (by kernel_rfl) (by simp) ?_
    refine AllReadyH.cons rfl (fun K hK => ?_) AllReadyH.nil
    go_simp
    refine hK.out _ _ ?_ (fun hHeld => ?_)
    · first | exact HS6.out | exact HSB.out | exact HS5.out | exact HSC.out _ _ HS5.out
    clear hK K
    (try simp only [Act.put, List.getElem_toArray, List.getElem_cons_succ, List.getElem_cons_zero]); (try simp only [List.setIfInBounds_toArray]); (try simp only [List.set_cons_succ]); (try simp only [List.set_cons_zero])
    refine wpAnyH_ready (rs := [10]) (by kernel_rfl) (by simp) ?_
    refine AllReadyH.cons rfl (fun K hK => ?_) AllReadyH.nil
    (refine step_append_row rfl _ _ 25 (by rfl) 0 35 i0 _ 17 24 Try.underlying25 hi hz0 hz1 hz2 (by rfl) (by decide) _ _ _ (by rfl) HRW.out ⟨_, 0, none⟩ 1 1 (enE ⟨f, t, n⟩).toList (by rfl) (by rw [Array.length_toList, enE_size]) (cells_at HN7.out) (enE_ones _) (by unfold maxLen; omega) (by omega) (Nat.zero_le _) ?_; intro v5 w5 hr5 hg5 ho5; have HS5 := hid (HSA.out w5 hg5); have HR5 := hid hr5; have HO5 := hid ho5; have HG5 := hid hg5; obtain ⟨a5, c5, rfl⟩ := hr5.shape; have hc5 := (HC5.out w5 hg5).1; have hf5 := (HC5.out w5 hg5).2; clear hr5 hg5 ho5)
    refine hK.out _ _ ?_ (fun hHeld => ?_)
    · first | exact HS6.out | exact HSB.out | exact HS5.out | exact HSC.out _ _ HS5.out
    clear hK K
    (try simp only [Act.put, List.getElem_toArray, List.getElem_cons_succ, List.getElem_cons_zero]); (try simp only [List.setIfInBounds_toArray]); (try simp only [List.set_cons_succ]); (try simp only [List.set_cons_zero])
    refine wpAnyH_take (i := 11) (oi := _) (v := ?_) rfl (by kernel_rfl) (by kernel_rfl) (by kernel_rfl) (fun _ _ _ h => h) (Or.inl ⟨by rfl, ?_⟩) (by assumption) ?_
    rotate_left
    · intro w hSw
      try dsimp only at hSw
      first | (go_simp; done) | (go_simp; with_reducible rfl)
    (try simp only [Act.put, List.getElem_toArray, List.getElem_cons_succ, List.getElem_cons_zero]); (try simp only [List.setIfInBounds_toArray]); (try simp only [List.set_cons_succ]); (try simp only [List.set_cons_zero])
    refine wpAnyH_take (i := 12) (oi := _) (v := ?_) rfl (by kernel_rfl) (by kernel_rfl) (by kernel_rfl) (fun _ _ _ h => h) (Or.inl ⟨by rfl, ?_⟩) (by assumption) ?_
    rotate_left
    · intro w hSw
      try dsimp only at hSw
      first | (go_simp; done) | (go_simp; with_reducible rfl)
    (try simp only [Act.put, List.getElem_toArray, List.getElem_cons_succ, List.getElem_cons_zero]); (try simp only [List.setIfInBounds_toArray]); (try simp only [List.set_cons_succ]); (try simp only [List.set_cons_zero])
    refine wpAnyH_ready (rs := [13]) (by kernel_rfl) (by simp) ?_
    refine AllReadyH.cons rfl (fun K hK => ?_) AllReadyH.nil
    go_simp
    refine hK.out _ _ ?_ (fun hHeld => ?_)
    · first | exact HS6.out | exact HSB.out | exact HS5.out | exact HSC.out _ _ HS5.out
    clear hK K
    (try simp only [Act.put, List.getElem_toArray, List.getElem_cons_succ, List.getElem_cons_zero]); (try simp only [List.setIfInBounds_toArray]); (try simp only [List.set_cons_succ]); (try simp only [List.set_cons_zero])
    refine wpAnyH_done (by kernel_rfl) ?_ _
    clear hHeld
    go_wp2
    go_ret
    exact ⟨by rw [HV.out]; rfl, HFIN.out _ _ HR5.out HG5.out HO5.out⟩
end Go.Proofs.Ytnapfjgokeloeaa
