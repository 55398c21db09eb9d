/- The walk of IdentText: it returns true, and lays new blocks only. -/
import Derived.Test.YtaiepkombpjjgaaIdAlive
namespace Go.Proofs.Ytaiepkombpjjgaa
open Go.RowKit

theorem text_back (a : List Int) (ha : B8 a) : readRes (nums (strOfNums (showL a))) = (a, 0) := by
  rw [nums_strOf _ (showL_bytes a ha.2)]
  exact readRes_good _ _ (readId_show a ha)
theorem text_read (s : ByteArray) (l : List Int) (h : readId (nums s) = some l) : strOfNums (showL l) = s := by
  rw [show_readId _ _ h, strOf_nums]

set_option maxRecDepth 100000 in
set_option maxHeartbeats 1000000 in
theorem identText_any (a : List Int) (s : ByteArray) (ha : B8 a) (w : World) :
    Calls Try.prog 5 #[.agg (bys a), .string s] w fun e w' => e = .returned (.bool true) ∧ Below w.heap.size w w' := by
  have IA := hid (info_id a ha)
  have LA := hid ha.1
  have hxb := readRes_B8 (nums s)
  have IX := hid (info_id _ hxb)
  have IL := hid hxb.1
  have C1 := hid (fun w => show_any a ha w)
  have C2 := hid (fun w => read_any (strOfNums (showL a)) w)
  have R2 := hid (text_back a ha)
  have C3 := hid (fun w => read_any s w)
  have C4 := hid (fun w => alive_any w)
  have C5 := hid (fun w => show_any _ hxb w)
  have hsz : (strOfNums (showL a)).size = 16 := by rw [strOfNums_size, showL_length, ha.1]
  have e1 := fun w => eq_ids a a ha ha w
  have e2 : ∀ w, (Op.equalIn 10000 23 (.agg (bys (zs 8))) (.agg #[.int .u8 0, .int .u8 0, .int .u8 0, .int .u8 0, .int .u8 0, .int .u8 0, .int .u8 0, .int .u8 0])).run Try.prog w = .ok true w := fun w => eq_ids _ _ zs_B8 zs_B8 w
  clear ha hxb
  go_enter Try.func5, Try.ntmps5
  go_wp2_with (refine wpList_load_w rfl 23 _ rfl _ rfl _ _ _ _ (heap_alloc_new _ _) Try.underlying23 rfl (IA.out) ?_)
  refine (C1.out _).mono ?_
  rintro e w1 ⟨rfl, hb1⟩
  have HA1 := hid (below_keep hb1 (heap_alloc_new _ _))
  have HW1 : Hid (Below w.heap.size w w1) := hid (((Below.refl _ _).alloc (Nat.le_refl _) _).trans (hb1.mono (by simp)))
  clear hb1
  go_wp2_with fail
  refine (C2.out _).mono ?_
  rw [R2.out]
  rintro e w2 ⟨rfl, hb2⟩
  have HA2 := hid (below_keep hb2 HA1.out)
  have HW2 : Hid (Below w.heap.size w w2) := hid (HW1.out.trans (hb2.mono HW1.out.size))
  clear hb2 HA1 HW1
  go_wp2_with (refine wpList_store_row rfl 23 _ _ rfl _ rfl _ rfl _ _ (heap_alloc_new _ _) (by rw [bys_size, LA.out]; rfl) (bys_one _) (IA.out) _ (setRow_alloc _ _ _ _) ?_)
  refine (C3.out _).mono ?_
  rintro e w3 ⟨rfl, hb3⟩
  have HA3 := hid (below_keep hb3 (alloc_keep HA2.out _))
  have HX3 := hid (below_keep hb3 (heap_alloc_new _ _))
  have HW3 : Hid (Below w.heap.size w w3) := hid ((HW2.out.alloc HW2.out.size _).trans (hb3.mono (by have := HW2.out.size; simp; omega)))
  clear hb3
  generalize w2.heap.size = g2 at *
  clear HA2 HW2
  go_wp2_with (refine wpList_store_row rfl 23 _ _ rfl _ rfl _ rfl _ _ (heap_alloc_new _ _) (by rw [bys_size, IL.out]; rfl) (bys_one _) (IX.out) _ (setRow_alloc _ _ _ _) ?_)
  refine (C4.out _).mono ?_
  rintro e w4 ⟨rfl, hb4⟩
  have HA4 := hid (below_keep hb4 (alloc_keep HA3.out _))
  have HX4 := hid (below_keep hb4 (alloc_keep HX3.out _))
  have HY4 := hid (below_keep hb4 (heap_alloc_new _ _))
  have HW4 : Hid (Below w.heap.size w w4) := hid ((HW3.out.alloc HW3.out.size _).trans (hb4.mono (by have := HW3.out.size; simp; omega)))
  clear hb4
  generalize w3.heap.size = g3 at *
  clear HA3 HW3 HX3
  cases hr : readId (nums s) with
  | none =>
    have hq : readRes (nums s) = (zs 8, 21) := readRes_bad _ hr
    rw [hq] at HY4 IX ⊢
    clear hq
    go_wp2_with (first | (refine wpList_load_w rfl 23 _ rfl _ rfl _ _ _ _ (HX4.out) Try.underlying23 rfl (IA.out) ?_) | (refine wpList_load_w rfl 23 _ rfl _ rfl _ _ _ _ (HA4.out) Try.underlying23 rfl (IA.out) ?_) | (refine wpList_load_w rfl 23 _ rfl _ rfl _ _ _ _ (HY4.out) Try.underlying23 rfl (IX.out) ?_))
    go_ret
    exact ⟨rfl, HW4.out⟩
  | some l =>
    have HS := hid (text_read s l hr)
    have hq := readRes_good _ _ hr
    rw [hq] at HY4 IX C5 ⊢
    clear hq hr
    go_wp2_with (first | (refine wpList_load_w rfl 23 _ rfl _ rfl _ _ _ _ (HX4.out) Try.underlying23 rfl (IA.out) ?_) | (refine wpList_load_w rfl 23 _ rfl _ rfl _ _ _ _ (HA4.out) Try.underlying23 rfl (IA.out) ?_) | (refine wpList_load_w rfl 23 _ rfl _ rfl _ _ _ _ (HY4.out) Try.underlying23 rfl (IX.out) ?_))
    refine (C5.out _).mono ?_
    rw [HS.out]
    rintro e w5 ⟨rfl, hb5⟩
    have HW5 : Hid (Below w.heap.size w w5) := hid (HW4.out.trans (hb5.mono HW4.out.size))
    clear hb5
    go_wp2
    go_ret
    exact ⟨rfl, HW5.out⟩

end Go.Proofs.Ytaiepkombpjjgaa
