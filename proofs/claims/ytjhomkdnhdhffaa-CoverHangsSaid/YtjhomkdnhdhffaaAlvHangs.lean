/- The walks of alive (some answers that are fixed) and of refused. -/
import Derived.Test.YtjhomkdnhdhffaaBrHangs
namespace Go.Proofs.Ytjhomkdnhdhffaa.PCoverHangs
open Go.RowKit Go.Proofs.Ytjhomkdnhdhffaa Go.Proofs.YtjhomkdnhdhffaaW.PrintWords Go.Proofs.YtjhomkdnhdhffaaW.PrintLast Go.Proofs.YtjhomkdnhdhffaaW.PrintMore

def pathG : Gr := ⟨3, 3, [⟨0, 1, 1⟩, ⟨1, 1, 1⟩, ⟨1, 2, 1⟩, ⟨2, 2, 1⟩]⟩
def PathPost (w : World) (e : Ending) (w' : World) : Prop :=
  ∃ A c, e = .returned (grV pathG A c) ∧ GrOk pathG c ∧ RowsAt 3 edV w' A pathG.es ∧ Below w.heap.size w w'
theorem cap_ok {w : World} {base n : Nat} {e : TypeId} {size : Nat} {A : Option Addr} {m c : Nat} {xs : List Value} (h : w.ownsRow base e size (.slice A m c) n xs) : c ≤ 9223372036854775807 := by
  obtain ⟨_, ⟨h1, _⟩ | ⟨g, cap, cur, h1, _, _, _, h2, _⟩⟩ := h
  · injection h1 with _ _ h3; omega
  · injection h1 with _ _ h3; subst h3; unfold maxLen at h2; omega
theorem path_any (w : World) : Calls Try.prog 23 #[] w (PathPost w) := by
  refine (cabstandlaw19_path.calls 3 3 _ w rfl).mono ?_
  rintro e w1 ⟨v2, rfl, hR, hb⟩
  obtain ⟨A, c, rfl, hle, hC⟩ := Kd.R_reads hR
  obtain ⟨_, inner, ho, _⟩ := hR
  have hcap := cap_ok ho
  refine ⟨A, c, rfl, ⟨by simp [I64, pathG], by simp [I64, pathG], ?_, hle, hcap⟩, rows_of_C hC, hb⟩
  intro x hx
  simp [pathG] at hx
  rcases hx with rfl | rfl | rfl | rfl <;> simp [EdOk, I64]
theorem chk_path : chk pathG = true := by decide +kernel
theorem most_path : (mostAt pathG pathG.rows.toNat).l = [(0, 1), (1, 2)] := by decide +kernel
theorem rows_path : coverRows pathG = [] := by decide +kernel
theorem cols_path : coverCols pathG = [1, 2] := by decide +kernel
theorem parts_path : parts pathG = [[0, 1, 2]] := by decide +kernel

set_option maxRecDepth 100000 in
set_option maxHeartbeats 4000000 in
theorem alive_any (w : World) : Calls Try.prog 7 #[] w fun e w' => e = .returned (.bool true) ∧ Below w.heap.size w w' := by
  go_enter Try.func7, Try.ntmps7
  go_wp2_with fail
  refine (path_any w).mono ?_
  rintro e w1 ⟨A1, c1, rfl, hok1, hr1, hb1⟩
  have HB1 := hid hb1
  have CM := hid (most_any pathG A1 c1 hok1 w1 hr1)
  clear hok1 hr1 hb1
  unfold grV at *
  go_wp2_with fail
  refine CM.out.mono ?_
  rintro e w2 ⟨hb2, h2⟩
  obtain ⟨_, v2, rfl, ho2⟩ := h2.resolve_left (fun h => by rw [chk_path] at h; cases h.1)
  rw [most_path] at ho2
  obtain ⟨M1, k1, rfl, hle1, hC1⟩ := C_pairs ho2
  have HB2 := hid (HB1.out.trans (hb2.mono HB1.out.size))
  have HC1 := hid hC1
  clear h2 ho2 hb2 hC1 CM
  go_wp2_with fail
  refine (path_any w2).mono ?_
  rintro e w3 ⟨A3, c3, rfl, hok3, hr3, hb3⟩
  have HB3 := hid (HB2.out.trans (hb3.mono HB2.out.size))
  have HC1 := hid (Kd.C_below HC1.out hb3)
  have CM := hid (cover_any pathG A3 c3 hok3 w3 hr3)
  clear hok3 hr3 hb3
  unfold grV at *
  go_wp2_with fail
  refine CM.out.mono ?_
  rintro e w4 ⟨hb4, h4⟩
  obtain ⟨_, v4, v5, rfl, ho4, ho5, _⟩ := h4.resolve_left (fun h => by rw [chk_path] at h; cases h.1)
  rw [rows_path] at ho4
  rw [cols_path] at ho5
  obtain ⟨M2, k2, rfl, hle2, hC2⟩ := C_ints (l := []) ho4
  obtain ⟨M3, k3, rfl, hle3, hC3⟩ := C_ints (l := [1, 2]) ho5
  have HB4 := hid (HB3.out.trans (hb4.mono HB3.out.size))
  have HC1 := hid (Kd.C_below HC1.out hb4)
  have HC3 := hid hC3
  clear h4 ho4 ho5 hb4 hC2 hC3 CM
  go_wp2_with fail
  refine (path_any w4).mono ?_
  rintro e w5 ⟨A5, c5, rfl, hok5, hr5, hb5⟩
  have HB5 := hid (HB4.out.trans (hb5.mono HB4.out.size))
  have HC1 := hid (Kd.C_below HC1.out hb5)
  have HC3 := hid (Kd.C_below HC3.out hb5)
  have CM := hid (parts_any pathG A5 c5 hok5 w5 hr5)
  clear hok5 hr5 hb5
  unfold grV at *
  go_wp2_with fail
  refine CM.out.mono ?_
  rintro e w6 ⟨v6, vs6, rfl, hl6, hb6⟩
  rw [if_pos chk_path, parts_path] at hl6
  obtain ⟨M4, k4, rfl, hle4, hC4⟩ := C_lists hl6
  have hV : chkV pathG = 0 := by unfold chkV; rw [if_pos chk_path]
  rw [hV]
  have HB6 := hid (HB5.out.trans (hb6.mono HB5.out.size))
  have HC1 := hid (Kd.C_below HC1.out hb6)
  have HC3 := hid (Kd.C_below HC3.out hb6)
  have HC4 := hid hC4
  clear hl6 hb6 hC4 hV CM
  go_wp2_with fail
  have HN := C_new_pairs w6 [(0, 1), (1, 2)] (by decide)
  have hb6 : Below w6.heap.size w6 (w6.alloc (.cells (pairV [(0, 1), (1, 2)]).toArray 42)) := (Below.refl _ _).alloc (Nat.le_refl _) _
  refine (cabstandlaw01_SamePairs.calls 3 M1 k1 ([(0, 1), (1, 2)].map toP) (some ⟨w6.heap.size, 0, none⟩) 2 ([(0, 1), (1, 2)].map toP) true _ (Kd.C_below HC1.out hb6) hle1 HN (Nat.le_refl _) (samePairs_self _ (by decide))).mono ?_
  rintro e w7 ⟨rfl, hd7⟩
  have hb7 := hb6.trans (hd7.below.mono hb6.size)
  have HB7 := hid (HB6.out.trans (hb7.mono HB6.out.size))
  have HC3 := hid (Kd.C_below HC3.out hb7)
  have HC4 := hid (Kd.C_below HC4.out hb7)
  clear hb7 hb6 hd7 HN HC1 HB6 HB5 HB4 HB3 HB2 HB1
  go_wp2_with fail
  have HN := C_new_ints w7 [1, 2] (by decide)
  have hb7 : Below w7.heap.size w7 (w7.alloc (.cells (intV [1, 2]).toArray 3)) := (Below.refl _ _).alloc (Nat.le_refl _) _
  refine (cabstandlaw01_SameInts.calls 3 M3 k3 [1, 2] (some ⟨w7.heap.size, 0, none⟩) 2 [1, 2] true _ (Kd.C_below HC3.out hb7) hle3 HN (Nat.le_refl _) (sameInts_self _ (by decide))).mono ?_
  rintro e w8 ⟨rfl, hd8⟩
  have hb8 := hb7.trans (hd8.below.mono hb7.size)
  have HB8 := hid (HB7.out.trans (hb8.mono HB7.out.size))
  have HC4 := hid (Kd.C_below HC4.out hb8)
  clear hb8 hb7 hd8 HN HC3 HB7
  go_wp2_with fail
  have HN := C_new_lists w8 [0, 1, 2] (by decide)
  have hb8 : Below w8.heap.size w8 ((w8.alloc (.cells (intV [0, 1, 2]).toArray 3)).alloc (.cells #[.slice (some ⟨w8.heap.size, 0, none⟩) 3 3] 34)) := ((Below.refl _ _).alloc (Nat.le_refl _) _).alloc (by simp) _
  refine (cabstandlaw01_SameIntLists.calls 8 M4 k4 [[0, 1, 2]] (some ⟨w8.heap.size + 1, 0, none⟩) 1 [[0, 1, 2]] true _ (Kd.C_below HC4.out hb8) hle4 HN (Nat.le_refl _) (sameIntLists_self _ 3 (by decide) (by decide) (by simp))).mono ?_
  rintro e w9 ⟨rfl, hd9⟩
  have hb9 := hb8.trans (hd9.below.mono hb8.size)
  have HB9 := hid (HB8.out.trans (hb9.mono HB8.out.size))
  clear hb9 hb8 hd9 HN HC4 HB8
  go_wp2_with fail
  go_ret
  exact ⟨rfl, HB9.out⟩

set_option maxRecDepth 100000 in
set_option maxHeartbeats 4000000 in
theorem refused_any (g : Gr) (a : Option Addr) (cap : Nat) (hok : GrOk g cap) (hc : chk g = false) (w : World) (hr : RowsAt 3 edV w a g.es) :
    Calls Try.prog 11 #[grV g a cap] w fun e w' => e = .returned (.bool true) ∧ Below w.heap.size w w' := by
  have CM := hid (fun w hr => most_any g a cap hok w hr)
  have CC := hid (fun w hr => cover_any g a cap hok w hr)
  have CP := hid (fun w hr => parts_any g a cap hok w hr)
  have HR := hid hr
  have HC := hid hc
  clear hok hr hc
  unfold grV at *
  go_enter Try.func11, Try.ntmps11
  go_wp2_with (refine wpList_load_w rfl 24 _ rfl _ rfl _ _ _ _ (heap_alloc_new _ _) Try.underlying24 rfl (info_gr) ?_)
  refine (CM.out _ (HR.out.alloc _)).mono ?_
  rintro e w1 ⟨hb1, h1⟩
  obtain ⟨_, rfl⟩ := h1.resolve_right (fun h => by rw [HC.out] at h; cases h.1)
  have HG := hid (below_keep hb1 (heap_alloc_new _ _))
  have HB : Hid (Below w.heap.size w w1) := hid (((Below.refl _ _).alloc (Nat.le_refl _) _).trans (hb1.mono (by simp)))
  clear h1 hb1
  go_wp2_with (refine wpList_load_w rfl 24 _ rfl _ rfl _ _ _ _ (HG.out) Try.underlying24 rfl (info_gr) ?_)
  refine (CC.out _ (HR.out.kept HB.out)).mono ?_
  rintro e w2 ⟨hb2, h2⟩
  obtain ⟨_, rfl⟩ := h2.resolve_right (fun h => by rw [HC.out] at h; cases h.1)
  have HG := hid (below_keep hb2 HG.out)
  have HB := hid (HB.out.trans (hb2.mono HB.out.size))
  clear h2 hb2
  go_wp2_with (refine wpList_load_w rfl 24 _ rfl _ rfl _ _ _ _ (HG.out) Try.underlying24 rfl (info_gr) ?_)
  refine (CP.out _ (HR.out.kept HB.out)).mono ?_
  rintro e w3 ⟨v3, vs3, rfl, hl3, hb3⟩
  have hV : chkV g = 170 := by unfold chkV; rw [if_neg (by rw [HC.out]; simp)]
  rw [hV]
  rw [if_neg (by rw [HC.out]; simp)] at hl3
  obtain ⟨A3, c3, rfl⟩ := ownsRow_shape hl3.out
  have HB := hid (HB.out.trans (hb3.mono HB.out.size))
  have e0 : (([] : List (List Int)).length) = 0 := rfl
  rw [e0]
  clear hl3 hb3 hV e0
  go_wp2
  go_ret
  exact ⟨rfl, HB.out⟩
end Go.Proofs.Ytjhomkdnhdhffaa.PCoverHangs
