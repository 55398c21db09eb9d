/- The walk of IdentForms: it returns true, and lays new blocks only. -/
import Derived.Test.YtaiepkombpjjgaaIdTxWalk
namespace Go.Proofs.Ytaiepkombpjjgaa
open Go.RowKit

set_option maxRecDepth 100000 in
set_option maxHeartbeats 1000000 in
theorem identForms_any (a : List Int) (s : ByteArray) (ha : B8 a) (w : World) :
    Calls Try.prog 4 #[.agg (bys a), .string s] w fun e w' => e = .returned (.bool true) ∧ Below w.heap.size w w' := by
  have IA := hid (info_id a ha)
  have hxb := readRes_B8 (nums s)
  have IX := hid (info_id _ hxb)
  have IL := hid hxb.1
  have C1 := hid (fun w => read_any s w)
  have C2 := hid (fun w => refRead_any s w)
  have C3 := hid (fun w => show_any a ha w)
  have C4 := hid (fun w => refShow_any a ha w)
  have e2 := fun w => eq_ids (readRes (nums s)).1 (readRes (nums s)).1 hxb hxb w
  clear ha hxb
  generalize (readRes (nums s)).1 = x at *
  generalize (readRes (nums s)).2 = q at *
  go_enter Try.func4, Try.ntmps4
  go_wp2_with fail
  refine (C1.out _).mono ?_
  rintro e w1 ⟨rfl, hb1⟩
  have HA1 := hid (below_keep hb1 (heap_alloc_new _ _))
  have HW1 : Hid (Below w.heap.size w w1) := hid (((Below.refl _ _).alloc (Nat.le_refl _) _).trans (hb1.mono (by simp)))
  clear hb1
  go_wp2_with (refine wpList_store_row rfl 23 _ _ rfl _ rfl _ rfl _ _ (heap_alloc_new _ _) (by rw [bys_size, IL.out]; rfl) (bys_one _) IX.out _ (setRow_alloc _ _ _ _) ?_)
  refine (C2.out _).mono ?_
  rintro e w2 ⟨rfl, hb2⟩
  have HA2 := hid (below_keep hb2 (alloc_keep HA1.out _))
  have HX2 := hid (below_keep hb2 (heap_alloc_new _ _))
  have HW2 : Hid (Below w.heap.size w w2) := hid ((HW1.out.alloc HW1.out.size _).trans (hb2.mono (by have := HW1.out.size; simp; omega)))
  clear hb2
  generalize w1.heap.size = gx at *
  clear HA1 HW1
  go_wp2_with (refine wpList_store_row rfl 23 _ _ rfl _ rfl _ rfl _ _ (heap_alloc_new _ _) (by rw [bys_size, IL.out]; rfl) (bys_one _) IX.out _ (setRow_alloc _ _ _ _) ?_)
  refine wp_region_bw (by kernel_rfl) (by kernel_rfl) ?_
  (go_big_quiet_want; refine quiet_load_row 23 _ rfl _ rfl _ _ _ _ (alloc_keep HA2.out _) Try.underlying23 rfl (IA.out) ?_; simp only [Act.put, List.setIfInBounds_toArray, List.set_cons_zero, List.set_cons_succ]; go_big_quiet_on)
  (go_big_quiet_want; go_big_quiet_op; go_big_quiet_call ((go_at_call 20; exact Calls.bw (C3.out _))))
  (go_big_quiet_want; refine quiet_load_row 23 _ rfl _ rfl _ _ _ _ (alloc_keep HA2.out _) Try.underlying23 rfl (IA.out) ?_; simp only [Act.put, List.setIfInBounds_toArray, List.set_cons_zero, List.set_cons_succ]; go_big_quiet_on)
  (go_big_quiet_want; go_big_quiet_op; go_big_quiet_call ((go_at_call 21; exact Calls.bw (C4.out _))))
  iterate 2 (first | go_big_quiet_step (fail) | (go_big_quiet_want; go_simp; go_big_quiet_on))
  (go_big_quiet_want; refine quiet_load_row 23 _ rfl _ rfl _ _ _ _ (alloc_keep HX2.out _) Try.underlying23 rfl (IX.out) ?_; simp only [Act.put, List.setIfInBounds_toArray, List.set_cons_zero, List.set_cons_succ]; go_big_quiet_on)
  (go_big_quiet_want; refine quiet_load_row 23 _ rfl _ rfl _ _ _ _ (heap_alloc_new _ _) Try.underlying23 rfl (IX.out) ?_; simp only [Act.put, List.setIfInBounds_toArray, List.set_cons_zero, List.set_cons_succ]; go_big_quiet_on)
  iterate 8 (first | go_big_quiet_step (fail) | (go_big_quiet_want; go_simp; go_big_quiet_on))
  refine wpQuiet_nil ?_; rintro w' ⟨X, rfl⟩
  have HW4 : Hid (Below w.heap.size w X.1) := hid ((HW2.out.alloc HW2.out.size _).trans (X.2.mono (by have := HW2.out.size; simp; omega)))
  go_wp2
  go_ret
  exact ⟨rfl, HW4.out⟩

end Go.Proofs.Ytaiepkombpjjgaa
