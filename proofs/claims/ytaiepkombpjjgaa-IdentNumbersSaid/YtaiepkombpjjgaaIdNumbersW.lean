/- The walk of IdentNumbers: it returns true, and lays new blocks only. -/
import Derived.Test.YtaiepkombpjjgaaIdWalk
namespace Go.Proofs.Ytaiepkombpjjgaa
open Go.RowKit

set_option maxRecDepth 100000 in
set_option maxHeartbeats 1000000 in
theorem identNumbers_any (a b : List Int) (n : Int) (ha : B8 a) (hb : B8 b) (hn0 : 0 ≤ n) (hn1 : n < 18446744073709551616) (w : World) :
    Calls Try.prog 3 #[.agg (bys a), .agg (bys b), .int .u64 n] w fun e w' => e = .returned (.bool true) ∧ Below w.heap.size w w' := by
  have IA := hid (info_id a ha)
  have IB := hid (info_id b hb)
  have hxb : B8 (nextL a).1 := by unfold nextL; split; exact zs_B8; exact ofK_B8 _
  have IX := hid (info_id _ hxb)
  have IL := hid hxb.1
  have C1 := hid (fun w => next_any a ha w)
  have C2 := hid (fun w => refNext_any a ha w)
  have C3 := hid (fun w => of_any n hn0 hn1 w)
  have C4 := hid (fun w => refOf_any n hn0 hn1 w)
  have C5 := hid (fun w => number_any a ha w)
  have C6 := hid (fun w => refNumber_any a ha w)
  have C7 := hid (fun w => cmp_any a b ha hb w)
  have C8 := hid (fun w => refCmp_any a b ha hb w)
  have C9 := hid (fun w => cmp_any b a hb ha w)
  have C10 := hid (fun w => refCmp_any b a hb ha w)
  have C11 := hid (fun w => cmp_any a a ha ha w)
  have e1 := fun w => eq_ids (ofK 8 n) (ofK 8 n) (ofK_B8 _) (ofK_B8 _) w
  have e2 := fun w => eq_ids (nextL a).1 (nextL a).1 hxb hxb w
  have hz : cmpN (num a) (num a) = 0 := by simp [cmpN]
  clear ha hb hxb hn0 hn1
  generalize (nextL a).1 = x at *
  generalize (nextL a).2 = q at *
  go_enter Try.func3, Try.ntmps3
  go_wp2_with (refine wpList_load_row rfl 23 _ rfl _ rfl _ _ _ _ (heap2_old _ _ _ _) Try.underlying23 rfl (IA.out) ?_)
  refine (C1.out _).mono ?_
  rintro e w1 ⟨rfl, hb1⟩
  have HA1 := hid (below_row hb1 _ _ _ _ (heap2_old _ _ _ _))
  have HB1 := hid (below_row hb1 _ _ _ _ (heap2_new _ _ _ _))
  have HW1 : Hid (Below w.heap.size w w1) := hid ((((Below.refl _ _).alloc (Nat.le_refl _) _).alloc (by simp) _).trans (hb1.mono (by simp; omega)))
  clear hb1
  go_wp2_with (first | (refine wpList_store_row rfl 23 _ _ rfl _ rfl _ rfl _ _ (heap_alloc_new _ _) (by rw [bys_size, IL.out]; rfl) (bys_one _) IX.out _ (setRow_alloc _ _ _ _) ?_) | (refine wpList_load_row rfl 23 _ rfl _ rfl _ _ _ _ (alloc_keep HA1.out _) Try.underlying23 rfl (IA.out) ?_))
  refine (C2.out _).mono ?_
  rintro e w2 ⟨rfl, hb2⟩
  have HA2 := hid (below_keep hb2 (alloc_keep HA1.out _))
  have HB2 := hid (below_keep hb2 (alloc_keep HB1.out _))
  have HX2 := hid (below_keep hb2 (heap_alloc_new _ _))
  have HW2 : Hid (Below w.heap.size w w2) := hid ((HW1.out.alloc HW1.out.size _).trans (hb2.mono (by have := HW1.out.size; simp; omega)))
  clear hb2
  generalize w1.heap.size = gx at *
  clear HA1 HB1 HW1
  go_wp2_with (refine wpList_store_row rfl 23 _ _ rfl _ rfl _ rfl _ _ (heap_alloc_new _ _) (by rw [bys_size, IL.out]; rfl) (bys_one _) IX.out _ (setRow_alloc _ _ _ _) ?_)
  refine wp_region_bw (by kernel_rfl) (by kernel_rfl) ?_
  (go_big_quiet_step (fail))
  (go_big_quiet_want; go_big_quiet_op; go_big_quiet_call ((go_at_call 12; exact Calls.bw (C3.out _))))
  (go_big_quiet_step (fail))
  (go_big_quiet_want; go_big_quiet_op; go_big_quiet_call ((go_at_call 13; exact Calls.bw (C4.out _))))
  iterate 2 (go_big_quiet_step (fail))
  (go_big_quiet_want; refine quiet_load_row 23 _ rfl _ rfl _ _ _ _ (alloc_keep HA2.out _) Try.underlying23 rfl (IA.out) ?_; simp only [Act.put, List.setIfInBounds_toArray, List.set_cons_zero, List.set_cons_succ]; go_big_quiet_on)
  (go_big_quiet_want; go_big_quiet_op; go_big_quiet_call ((go_at_call 14; exact Calls.bw (C5.out _))))
  (go_big_quiet_want; refine quiet_load_row 23 _ rfl _ rfl _ _ _ _ (alloc_keep HA2.out _) Try.underlying23 rfl (IA.out) ?_; simp only [Act.put, List.setIfInBounds_toArray, List.set_cons_zero, List.set_cons_succ]; go_big_quiet_on)
  (go_big_quiet_want; go_big_quiet_op; go_big_quiet_call ((go_at_call 15; exact Calls.bw (C6.out _))))
  iterate 3 (go_big_quiet_step (fail))
  (go_big_quiet_want; refine quiet_load_row 23 _ rfl _ rfl _ _ _ _ (alloc_keep HX2.out _) Try.underlying23 rfl (IX.out) ?_; simp only [Act.put, List.setIfInBounds_toArray, List.set_cons_zero, List.set_cons_succ]; go_big_quiet_on)
  (go_big_quiet_want; refine quiet_load_row 23 _ rfl _ rfl _ _ _ _ (heap_alloc_new _ _) Try.underlying23 rfl (IX.out) ?_; simp only [Act.put, List.setIfInBounds_toArray, List.set_cons_zero, List.set_cons_succ]; go_big_quiet_on)
  iterate 7 (go_big_quiet_step (fail))
  refine wpQuiet_nil ?_; rintro w' ⟨X, rfl⟩
  have HA3 := hid (below_keep X.2 (alloc_keep HA2.out _))
  have HB3 := hid (below_keep X.2 (alloc_keep HB2.out _))
  have HW3 : Hid (Below w.heap.size w X.1) := hid ((HW2.out.alloc HW2.out.size _).trans (X.2.mono (by have := HW2.out.size; simp; omega)))
  generalize X.1 = w3 at *
  clear X HX2 HA2 HB2 HW2
  go_wp2
  refine wp_region_bw (by kernel_rfl) (by kernel_rfl) ?_
  (go_big_quiet_want; refine quiet_load_row 23 _ rfl _ rfl _ _ _ _ (HA3.out) Try.underlying23 rfl (IA.out) ?_; simp only [Act.put, List.setIfInBounds_toArray, List.set_cons_zero, List.set_cons_succ]; go_big_quiet_on)
  (go_big_quiet_want; refine quiet_load_row 23 _ rfl _ rfl _ _ _ _ (HB3.out) Try.underlying23 rfl (IB.out) ?_; simp only [Act.put, List.setIfInBounds_toArray, List.set_cons_zero, List.set_cons_succ]; go_big_quiet_on)
  (go_big_quiet_want; go_big_quiet_op; go_big_quiet_call ((go_at_call 16; exact Calls.bw (C7.out _))))
  (go_big_quiet_want; refine quiet_load_row 23 _ rfl _ rfl _ _ _ _ (HA3.out) Try.underlying23 rfl (IA.out) ?_; simp only [Act.put, List.setIfInBounds_toArray, List.set_cons_zero, List.set_cons_succ]; go_big_quiet_on)
  (go_big_quiet_want; refine quiet_load_row 23 _ rfl _ rfl _ _ _ _ (HB3.out) Try.underlying23 rfl (IB.out) ?_; simp only [Act.put, List.setIfInBounds_toArray, List.set_cons_zero, List.set_cons_succ]; go_big_quiet_on)
  (go_big_quiet_want; go_big_quiet_op; go_big_quiet_call ((go_at_call 17; exact Calls.bw (C8.out _))))
  iterate 2 (go_big_quiet_step (fail))
  (go_big_quiet_want; refine quiet_load_row 23 _ rfl _ rfl _ _ _ _ (HB3.out) Try.underlying23 rfl (IB.out) ?_; simp only [Act.put, List.setIfInBounds_toArray, List.set_cons_zero, List.set_cons_succ]; go_big_quiet_on)
  (go_big_quiet_want; refine quiet_load_row 23 _ rfl _ rfl _ _ _ _ (HA3.out) Try.underlying23 rfl (IA.out) ?_; simp only [Act.put, List.setIfInBounds_toArray, List.set_cons_zero, List.set_cons_succ]; go_big_quiet_on)
  (go_big_quiet_want; go_big_quiet_op; go_big_quiet_call ((go_at_call 16; exact Calls.bw (C9.out _))))
  (go_big_quiet_want; refine quiet_load_row 23 _ rfl _ rfl _ _ _ _ (HB3.out) Try.underlying23 rfl (IB.out) ?_; simp only [Act.put, List.setIfInBounds_toArray, List.set_cons_zero, List.set_cons_succ]; go_big_quiet_on)
  (go_big_quiet_want; refine quiet_load_row 23 _ rfl _ rfl _ _ _ _ (HA3.out) Try.underlying23 rfl (IA.out) ?_; simp only [Act.put, List.setIfInBounds_toArray, List.set_cons_zero, List.set_cons_succ]; go_big_quiet_on)
  (go_big_quiet_want; go_big_quiet_op; go_big_quiet_call ((go_at_call 17; exact Calls.bw (C10.out _))))
  iterate 3 (go_big_quiet_step (fail))
  (go_big_quiet_want; refine quiet_load_row 23 _ rfl _ rfl _ _ _ _ (HA3.out) Try.underlying23 rfl (IA.out) ?_; simp only [Act.put, List.setIfInBounds_toArray, List.set_cons_zero, List.set_cons_succ]; go_big_quiet_on)
  (go_big_quiet_want; refine quiet_load_row 23 _ rfl _ rfl _ _ _ _ (HA3.out) Try.underlying23 rfl (IA.out) ?_; simp only [Act.put, List.setIfInBounds_toArray, List.set_cons_zero, List.set_cons_succ]; go_big_quiet_on)
  (go_big_quiet_want; go_big_quiet_op; go_big_quiet_call ((go_at_call 16; exact Calls.bw (C11.out _))))
  iterate 3 (go_big_quiet_step (fail))
  refine wpQuiet_nil ?_; rintro w' ⟨X, rfl⟩
  have HW4 : Hid (Below w.heap.size w X.1) := hid (HW3.out.trans (X.2.mono HW3.out.size))
  go_wp2
  go_ret
  exact ⟨rfl, HW4.out⟩

end Go.Proofs.Ytaiepkombpjjgaa
