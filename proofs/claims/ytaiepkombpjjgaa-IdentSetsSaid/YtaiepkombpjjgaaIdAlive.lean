/- The walk of alive (layer 4): the examples hold. -/
import Derived.Test.YtaiepkombpjjgaaIdTxWalk
import Derived.Test.YtaiepkombpjjgaaSetKit
namespace Go.Proofs.Ytaiepkombpjjgaa
open Go.RowKit

def exL : List Int := [0, 1, 2, 171, 205, 239, 254, 255]
theorem exL_B8 : B8 exL := by refine ⟨rfl, ?_⟩; decide
theorem l3_B8 : B8 [0, 0, 0, 0, 0, 0, 0, 3] := by refine ⟨rfl, ?_⟩; decide
theorem l1_B8 : B8 [0, 0, 0, 0, 0, 0, 0, 1] := by refine ⟨rfl, ?_⟩; decide
theorem l255_B8 : B8 [0, 0, 0, 0, 0, 0, 0, 255] := by refine ⟨rfl, ?_⟩; decide
theorem l10_B8 : B8 [0, 0, 0, 0, 0, 0, 1, 0] := by refine ⟨rfl, ?_⟩; decide
theorem l12_B8 : B8 [0, 0, 0, 0, 0, 0, 1, 2] := by refine ⟨rfl, ?_⟩; decide
def exS : ByteArray := ⟨#[48, 48, 48, 49, 48, 50, 97, 98, 99, 100, 101, 102, 102, 101, 102, 102]⟩
theorem exS_list : exS.toList = [48, 48, 48, 49, 48, 50, 97, 98, 99, 100, 101, 102, 102, 101, 102, 102] := by rw [ByteArray.toList_eq]; rfl
theorem exS_read : readRes (nums exS) = (exL, 0) := by decide
theorem exS_show : strOfNums (showL exL) = exS := by decide
theorem ex_next : nextL [0, 0, 0, 0, 0, 0, 0, 255] = ([0, 0, 0, 0, 0, 0, 1, 0], true) := by decide
theorem ex_of : ofK 8 258 = [0, 0, 0, 0, 0, 0, 1, 2] := by decide
theorem ex_num : num [0, 0, 0, 0, 0, 0, 1, 2] = 258 := by decide
theorem ex_set : (insAll [] [[0, 0, 0, 0, 0, 0, 0, 3], [0, 0, 0, 0, 0, 0, 0, 1]]).length = 2 := by decide

theorem two_ids (w : World) (x y : List Int) (hx : B8 x) (hy : B8 y) (c : Array Value) (hc : c = (bys x) ++ (bys y)) (t : TypeId) : IdsAt (w.alloc (.cells c t)) (some ⟨w.heap.size, 0, none⟩) [x, y] := by
  refine .inr ⟨w.heap.size, 0, c, t, (0, 0), rfl, heap_alloc_new _ _, ?_⟩
  have s1 : (bys x).size = 8 := by rw [bys_size, hx.1]
  have s2 : (bys y).size = 8 := by rw [bys_size, hy.1]
  intro i z hz
  subst hc
  match i, hz with
  | 0, hz =>
    simp at hz; subst hz
    refine ⟨by simp [s1], ?_⟩
    simp [Array.extract_append, s1]
  | 1, hz =>
    simp at hz; subst hz
    refine ⟨by rw [Array.size_append, s1, s2]; exact Nat.le_refl _, ?_⟩
    have e2 : (bys y).extract 0 8 = bys y := by rw [← s2]; simp
    simp only [Array.extract_append, s1]
    show (bys x).extract 8 16 ++ (bys y).extract 0 8 = bys y
    rw [e2]
    have e3 : (bys x).extract 8 16 = #[] := by apply Array.eq_empty_of_size_eq_zero; rw [Array.size_extract, s1]; rfl
    rw [e3]; simp
  | i + 2, hz => simp at hz

set_option maxRecDepth 100000 in
set_option maxHeartbeats 1000000 in
theorem alive_any (w : World) :
    Calls Try.prog 22 #[] w fun e w' => e = .returned (.bool true) ∧ Below w.heap.size w w' := by
  have C1 := hid (fun w => read_any exS w)
  have R1 := hid exS_read
  have I1 := hid (info_id exL exL_B8)
  have L1 : Hid ((bys exL).size = 8) := hid rfl
  have C2 : Hid (∀ (w : World) (g : Nat), g = w.heap.size → Calls Try.prog 23 #[.slice (some ⟨g, 0, Option.none⟩) 2 2] (w.alloc (.cells #[.int .u8 0, .int .u8 0, .int .u8 0, .int .u8 0, .int .u8 0, .int .u8 0, .int .u8 0, .int .u8 3, .int .u8 0, .int .u8 0, .int .u8 0, .int .u8 0, .int .u8 0, .int .u8 0, .int .u8 0, .int .u8 1] 23)) (NewSetPost (w.alloc (.cells #[.int .u8 0, .int .u8 0, .int .u8 0, .int .u8 0, .int .u8 0, .int .u8 0, .int .u8 0, .int .u8 3, .int .u8 0, .int .u8 0, .int .u8 0, .int .u8 0, .int .u8 0, .int .u8 0, .int .u8 0, .int .u8 1] 23)) (insAll [] [[0, 0, 0, 0, 0, 0, 0, 3], [0, 0, 0, 0, 0, 0, 0, 1]]))) := hid (fun w g hg => hg ▸ newSet_any (some ⟨w.heap.size, 0, Option.none⟩) 2 [[0, 0, 0, 0, 0, 0, 0, 3], [0, 0, 0, 0, 0, 0, 0, 1]] (by intro x hx; rcases List.mem_cons.1 hx with rfl | hx; exact l3_B8; rcases List.mem_cons.1 hx with rfl | hx; exact l1_B8; cases hx) (by decide)
    (w.alloc (.cells #[.int .u8 0, .int .u8 0, .int .u8 0, .int .u8 0, .int .u8 0, .int .u8 0, .int .u8 0, .int .u8 3, .int .u8 0, .int .u8 0, .int .u8 0, .int .u8 0, .int .u8 0, .int .u8 0, .int .u8 0, .int .u8 1] 23))
    (two_ids w _ _ l3_B8 l1_B8 _ rfl _))
  have C3 := hid (fun w => next_any _ l255_B8 w)
  have R3 := hid ex_next
  have I3 := hid (info_id _ l10_B8)
  have L3 : Hid ((bys [0, 0, 0, 0, 0, 0, 1, 0]).size = 8) := hid rfl
  have C4 := hid (fun w => show_any exL exL_B8 w)
  have R4 := hid exS_show
  have C5 := hid (fun w => of_any 258 (by decide) (by decide) w)
  have R5 := hid ex_of
  have C6 := hid (fun w => number_any _ l12_B8 w)
  have R6 := hid ex_num
  have e1 : ∀ w, (Op.equalIn 10000 23 (.agg (bys exL)) (.agg #[.int .u8 0, .int .u8 1, .int .u8 2, .int .u8 171, .int .u8 205, .int .u8 239, .int .u8 254, .int .u8 255])).run Try.prog w = .ok true w := fun w => eq_ids exL exL exL_B8 exL_B8 w
  have e2 : ∀ w, (Op.equalIn 10000 23 (.agg (bys [0, 0, 0, 0, 0, 0, 1, 0])) (.agg #[.int .u8 0, .int .u8 0, .int .u8 0, .int .u8 0, .int .u8 0, .int .u8 0, .int .u8 1, .int .u8 0])).run Try.prog w = .ok true w := fun w => eq_ids _ _ l10_B8 l10_B8 w
  have e3 : ∀ w, (Op.equalIn 10000 23 (.agg (bys [0, 0, 0, 0, 0, 0, 1, 2])) (.agg #[.int .u8 0, .int .u8 0, .int .u8 0, .int .u8 0, .int .u8 0, .int .u8 0, .int .u8 1, .int .u8 2])).run Try.prog w = .ok true w := fun w => eq_ids _ _ l12_B8 l12_B8 w
  go_enter Try.func22, Try.ntmps22
  go_wp2_with fail
  refine (C1.out _).mono ?_
  rw [R1.out]
  rintro e w1 ⟨rfl, hb1⟩
  have HW1 := hid hb1
  clear hb1
  go_wp2_with (refine wpList_store_row rfl 23 _ _ rfl _ rfl _ rfl _ _ (heap_alloc_new _ _) (by rw [L1.out]; rfl) (bys_one _) (I1.out) _ (setRow_alloc _ _ _ _) ?_)
  refine (C2.out _ _ (by simp)).mono ?_
  rintro e w2 ⟨p, b, rfl, hset, _, _, hb2⟩
  have HS2 := hid hset
  have HA2 := hid (below_keep hb2 (alloc_keep (heap_alloc_new w1 (.cells (bys exL) 23)) _))
  have HW2 : Hid (Below w.heap.size w w2) := hid (((HW1.out.alloc HW1.out.size _).alloc (by have := HW1.out.size; simp; omega) _).trans (hb2.mono (by have := HW1.out.size; simp; omega)))
  clear hset hb2
  go_wp2_with fail
  refine (C3.out _).mono ?_
  rw [R3.out]
  rintro e w3 ⟨rfl, hb3⟩
  have HS3 := hid (HS2.out.kept hb3)
  have HA3 := hid (below_keep hb3 HA2.out)
  have HW3 : Hid (Below w.heap.size w w3) := hid (HW2.out.trans (hb3.mono HW2.out.size))
  clear hb3 HS2 HA2
  generalize w1.heap.size = g1 at *
  go_wp2_with (first | (refine wpList_store_row rfl 23 _ _ rfl _ rfl _ rfl _ _ (heap_alloc_new _ _) (by rw [L3.out]; rfl) (bys_one _) (I3.out) _ (setRow_alloc _ _ _ _) ?_) | (refine wpList_load_w rfl 23 _ rfl _ rfl _ _ _ _ (alloc_keep HA3.out _) Try.underlying23 rfl (I1.out) ?_))
  refine (setLen_any p b _ _ (HS3.out.alloc _)).mono ?_
  rw [ex_set]
  rintro e w4 ⟨rfl, rfl⟩
  go_wp2_with (first | (refine wpList_load_w rfl 23 _ rfl _ rfl _ _ _ _ (heap_alloc_new _ _) Try.underlying23 rfl (I3.out) ?_) | (refine wpList_load_w rfl 23 _ rfl _ rfl _ _ _ _ (alloc_keep HA3.out _) Try.underlying23 rfl (I1.out) ?_))
  refine (C4.out _).mono ?_
  rw [R4.out]
  rintro e w4 ⟨rfl, hb4⟩
  have HW4 : Hid (Below w.heap.size w w4) := hid ((HW3.out.alloc HW3.out.size _).trans (hb4.mono (by have := HW3.out.size; simp; omega)))
  clear hb4
  have hs : exS.toList = [48, 48, 48, 49, 48, 50, 97, 98, 99, 100, 101, 102, 102, 101, 102, 102] := exS_list
  go_wp2_with fail
  refine (C5.out _).mono ?_
  rw [R5.out]
  rintro e w5 ⟨rfl, hb5⟩
  have HW5 : Hid (Below w.heap.size w w5) := hid (HW4.out.trans (hb5.mono HW4.out.size))
  clear hb5
  go_wp2_with fail
  refine (C6.out _).mono ?_
  rw [R6.out]
  rintro e w6 ⟨rfl, hb6⟩
  have HW6 : Hid (Below w.heap.size w w6) := hid (HW5.out.trans (hb6.mono HW5.out.size))
  clear hb6
  go_wp2
  go_ret
  exact ⟨rfl, HW6.out⟩

end Go.Proofs.Ytaiepkombpjjgaa
