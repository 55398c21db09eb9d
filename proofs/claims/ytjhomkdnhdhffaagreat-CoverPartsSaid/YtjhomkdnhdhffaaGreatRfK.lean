/- The walk of the reference's Check of a graph. -/
import Derived.Test.YtjhomkdnhdhffaaGreatGrCheck
namespace Go.Proofs.YtjhomkdnhdhffaaGreat
open Go.RowKit

theorem CellsAt.alloc' {w : World} {g o : Nat} {cs : Array Value} (h : CellsAt w g o cs) (ob : Obj) : CellsAt (w.alloc ob) g o cs := fun j u hj => by
  have h1 := h j u hj
  rw [World.cell?_alloc_lt _ _ _ (World.block_lt_of_cell? w _ h1)]; exact h1
set_option maxRecDepth 100000 in
set_option maxHeartbeats 40000000 in
theorem rcheck_any (g : Gr) (a : Option Addr) (cap : Nat) (hok : GrOk g cap) (w : World) (hr : RowsAt 3 edV w a g.es) :
    Calls Tryz.prog 24 #[grV g a cap] w fun e w' => e = .returned (.int .i64 (chkV g)) ∧ Below w.heap.size w w' := by
  have HOK := hid hok
  have HR := hid hr
  have hlen : g.es.length ≤ 9223372036854775807 := by have := hok.len; have := hok.cap; omega
  clear hok hr
  unfold grV
  go_enter Tryz.func24, Tryz.ntmps24
  go_upto_region 1 with fail
  have HG1 := hid (heap_alloc_new w (.cells #[.int .i64 g.rows, .int .i64 g.cols, .slice a g.es.length cap] 24))
  have HB1 : Hid (Below w.heap.size w (w.alloc (.cells #[.int .i64 g.rows, .int .i64 g.cols, .slice a g.es.length cap] 24))) := hid ((Below.refl _ _).alloc (Nat.le_refl _) _)
  generalize w.alloc (.cells #[.int .i64 g.rows, .int .i64 g.cols, .slice a g.es.length cap] 24) = w1 at *
  obtain ⟨gb, hgb⟩ : ∃ gb, gb = w.heap.size := ⟨_, rfl⟩
  rw [← hgb] at HG1 ⊢
  have HGB := hid hgb
  clear hgb
  have r0 := row_cell HG1.out 0 _ rfl
  have r1 := row_cell HG1.out 1 _ rfl
  by_cases h1 : g.rows < 0
  · have hs : Hid (chkV g = 170) := hid (chkV_size (by simp [sizeBad, h1]))
    go_wp2
    go_ret
    exact ⟨by rw [hs.out]; rfl, HB1.out⟩
  by_cases h2 : g.rows > 64
  · have hs : Hid (chkV g = 170) := hid (chkV_size (by simp [sizeBad, h2]))
    go_wp2
    go_ret
    exact ⟨by rw [hs.out]; rfl, HB1.out⟩
  by_cases h3 : g.cols < 0
  · have hs : Hid (chkV g = 170) := hid (chkV_size (by simp [sizeBad, h3]))
    go_wp2
    go_ret
    exact ⟨by rw [hs.out]; rfl, HB1.out⟩
  by_cases h4 : g.cols > 64
  · have hs : Hid (chkV g = 170) := hid (chkV_size (by simp [sizeBad, h4]))
    go_wp2
    go_ret
    exact ⟨by rw [hs.out]; rfl, HB1.out⟩
  have HSZ : Hid (sizeBad g = false) := hid (by simp [sizeBad]; omega)
  go_upto_region 3 with fail
  clear r0 r1
  go_wp2
  go_loopw [3] (fun i wr => ∃ k : Nat, k ≤ g.es.length ∧ i = .int .i64 k ∧ Hid (okTo g k) ∧ Hid (wr.heap[gb]? = some (.cells #[.int .i64 g.rows, .int .i64 g.cols, .slice a g.es.length cap] 24 (0, 0))) ∧ Hid (Below w.heap.size w wr)) (fun i _ => g.es.length - (intOf i).toNat)
  case atStart => exact ⟨0, by omega, rfl, hid (okTo_zero g), HG1, HB1⟩
  case round =>
    clear HG1 HB1
    obtain ⟨k, hk, rfl, HT, HG, HW⟩ := hrel
    have c00 := row_cell HG.out 0 _ rfl
    have c01 := row_cell HG.out 1 _ rfl
    have c02 := row_cell HG.out 2 _ rfl
    have l0 := heap_lt HG.out
    by_cases hlt : k < g.es.length
    · have hki : (k : Int) < (g.es.length : Int) := by omega
      have hkl : (k : Int) ≤ 9223372036854775806 := by omega
      obtain ⟨x, hx⟩ : ∃ x, g.es[k]? = some x := ⟨g.es[k], by simp [hlt]⟩
      obtain ⟨gg, o, rfl, hgg, hcc⟩ := (HR.out.kept HW.out).get hx
      have HC : Hid (CellsAt wr gg (o + k * 3) #[.int .i64 x.r, .int .i64 x.c, .int .i64 x.w]) := hid (by rw [Nat.mul_comm]; exact hcc)
      have B1 : Hid (edBad g.rows g.cols x = true → chkV g = 170) := hid (okTo_bad1 HT.out hx)
      have B2 : Hid (ordBad (prevE g k) x = true → chkV g = 170) := hid (okTo_bad2 HT.out hx)
      have HN : Hid (edBad g.rows g.cols x = false → ordBad (prevE g k) x = false → okTo g (k + 1)) := hid (okTo_succ HT.out hx)
      clear hcc hx
      go_upto_region 7 with (refine wpList_load_cells rfl 78 _ rfl _ _ rfl _ _ HC.out Tryz.underlying78 rfl info_ed ?_)
      have HX1 := hid (heap_alloc_new wr (.cells #[.int .i64 x.r, .int .i64 x.c, .int .i64 x.w] 78))
      have HG1 := hid (alloc_keep HG.out (.cells #[.int .i64 x.r, .int .i64 x.c, .int .i64 x.w] 78))
      have HW1 := hid (HW.out.alloc HW.out.size (.cells #[.int .i64 x.r, .int .i64 x.c, .int .i64 x.w] 78))
      clear c00 c01 c02 l0 HC HG HW
      generalize wr.alloc (.cells #[.int .i64 x.r, .int .i64 x.c, .int .i64 x.w] 78) = wq at *
      generalize wr.heap.size = bx at *
      have c00 := row_cell HG1.out 0 _ rfl
      have c01 := row_cell HG1.out 1 _ rfl
      have c02 := row_cell HG1.out 2 _ rfl
      have x0 := row_cell HX1.out 0 _ rfl
      have x1 := row_cell HX1.out 1 _ rfl
      have x2 := row_cell HX1.out 2 _ rfl
      by_cases h5 : x.r < 0
      · have HB1 : Hid (chkV g = 170) := hid (B1.out (by simp [edBad, h5]))
        go_wp2
        go_ret
        exact ⟨by rw [HB1.out]; rfl, HW1.out⟩
      by_cases h6 : x.r ≥ g.rows
      · have HB1 : Hid (chkV g = 170) := hid (B1.out (by simp [edBad, h6]))
        go_wp2
        go_ret
        exact ⟨by rw [HB1.out]; rfl, HW1.out⟩
      by_cases h7 : x.c < 0
      · have HB1 : Hid (chkV g = 170) := hid (B1.out (by simp [edBad, h7]))
        go_wp2
        go_ret
        exact ⟨by rw [HB1.out]; rfl, HW1.out⟩
      by_cases h8 : x.c ≥ g.cols
      · have HB1 : Hid (chkV g = 170) := hid (B1.out (by simp [edBad, h8]))
        go_wp2
        go_ret
        exact ⟨by rw [HB1.out]; rfl, HW1.out⟩
      by_cases h9 : x.w < 1
      · have HB1 : Hid (chkV g = 170) := hid (B1.out (by simp [edBad, h9]))
        go_wp2
        go_ret
        exact ⟨by rw [HB1.out]; rfl, HW1.out⟩
      by_cases h10 : x.w > 1099513724929
      · have HB1 : Hid (chkV g = 170) := hid (B1.out (by simp [edBad, h10]))
        go_wp2
        go_ret
        exact ⟨by rw [HB1.out]; rfl, HW1.out⟩
      have HE : Hid (edBad g.rows g.cols x = false) := hid (by simp [edBad]; omega)
      have HXR : Hid (0 ≤ x.r) := hid (by omega)
      go_upto_region 9 with fail
      clear h5 h6 h7 h8 h9 h10 c00 c01
      by_cases hk0 : k = 0
      · subst hk0
        have HO : Hid (okTo g (0 + 1)) := hid (HN.out HE.out (by have := HXR.out; rw [prevE_zero]; simp [ordBad]; omega))
        -- L1
        go_wp2
        go_roundw
        case rel => exact ⟨0 + 1, by omega, by go_num, HO, HG1, HW1⟩
        case measure => simp [intOf]; omega
        -- /L1
      · obtain ⟨m, hkm⟩ : ∃ m, m + 1 = k := ⟨k - 1, by omega⟩
        have HKM := hid hkm
        have hkj : (k : Int) - 1 = (m : Int) := by omega
        have g0 : (0 : Int) < (k : Int) := by omega
        have hml0 : m < g.es.length := by omega
        obtain ⟨y, hy⟩ : ∃ y, g.es[m]? = some y := ⟨g.es[m], by simp [hml0]⟩
        have HPE : Hid (prevE g k = y) := hid (by rw [← HKM.out]; exact prevE_succ hy)
        obtain ⟨gg2, o2, haa, hgg2, hcc2⟩ := (HR.out.kept HW1.out).get hy
        cases haa
        rw [Nat.mul_comm] at hcc2
        have HCY : Hid (CellsAt wq gg (o + m * 3) #[.int .i64 y.r, .int .i64 y.c, .int .i64 y.w]) := hid hcc2
        have hm1 : (m : Int) < (g.es.length : Int) := by omega
        have hml : (m : Int) ≤ 9223372036854775805 := by omega
        clear hy hcc2 hkm hml0 hk0
        go_upto_region 11 with (refine wpList_load_cells rfl 78 _ rfl _ _ rfl _ _ HCY.out Tryz.underlying78 rfl info_ed ?_)
        have HX2 := hid (alloc_keep HX1.out (.cells #[.int .i64 y.r, .int .i64 y.c, .int .i64 y.w] 78))
        have HG2 := hid (alloc_keep HG1.out (.cells #[.int .i64 y.r, .int .i64 y.c, .int .i64 y.w] 78))
        have HW2 := hid (HW1.out.alloc HW1.out.size (.cells #[.int .i64 y.r, .int .i64 y.c, .int .i64 y.w] 78))
        have HY2 := hid (heap_alloc_new wq (.cells #[.int .i64 y.r, .int .i64 y.c, .int .i64 y.w] 78))
        clear c02 x0 x1 x2 HX1 HG1 HW1 HCY
        generalize wq.alloc (.cells #[.int .i64 y.r, .int .i64 y.c, .int .i64 y.w] 78) = wz at *
        generalize wq.heap.size = bz at *
        have x0 := row_cell HX2.out 0 _ rfl
        have x1 := row_cell HX2.out 1 _ rfl
        have y0 := row_cell HY2.out 0 _ rfl
        have y1 := row_cell HY2.out 1 _ rfl
        by_cases h20 : x.r < y.r
        · have HB1 : Hid (chkV g = 170) := hid (B2.out (by rw [HPE.out]; simp [ordBad, h20]))
          -- L2
          go_wp2
          go_ret
          exact ⟨by rw [HB1.out]; rfl, HW2.out⟩
          -- /L2
        by_cases h21 : x.r = y.r
        · by_cases h22 : x.c ≤ y.c
          · have HB1 : Hid (chkV g = 170) := hid (B2.out (by rw [HPE.out]; simp [ordBad, h21, h22]))
            have h21' : (x.r == y.r) = true := by simpa using h21
            clear h21
            -- L3
            go_wp2
            go_ret
            exact ⟨by rw [HB1.out]; rfl, HW2.out⟩
            -- /L3
          · have HO : Hid (okTo g (k + 1)) := hid (HN.out HE.out (by rw [HPE.out]; simp [ordBad]; omega))
            have h21' : (x.r == y.r) = true := by simpa using h21
            clear h21
            -- L4
            go_wp2
            go_roundw
            case rel => exact ⟨k + 1, by omega, by go_num, HO, HG2, HW2⟩
            case measure => simp [intOf]; omega
            -- /L4
        · have HO : Hid (okTo g (k + 1)) := hid (HN.out HE.out (by rw [HPE.out]; simp [ordBad]; omega))
          have h21' : (x.r == y.r) = false := by simpa using h21
          clear h21
          -- L5
          go_wp2
          go_roundw
          case rel => exact ⟨k + 1, by omega, by go_num, HO, HG2, HW2⟩
          case measure => simp [intOf]; omega
          -- /L5
    · have HE : Hid (chkV g = 0) := hid (chkV_end HT.out (by omega) HSZ.out)
      have hki : ¬ ((k : Int) < (g.es.length : Int)) := by omega
      -- L6
      go_wp2
      go_ret
      exact ⟨by rw [HE.out]; rfl, HW.out⟩
      -- /L6
end Go.Proofs.YtjhomkdnhdhffaaGreat
