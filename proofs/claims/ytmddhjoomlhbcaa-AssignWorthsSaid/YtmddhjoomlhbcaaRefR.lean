/- The walks of the reference's small functions: Right. -/
import Derived.Test.YtmddhjoomlhbcaaAsMy
import Derived.Test.YtmddhjoomlhbcaaAsLq
import Derived.Test.YtmddhjoomlhbcaaTwP
namespace Go.Proofs.Ytmddhjoomlhbcaa
open Go.RowKit

set_option maxRecDepth 100000 in
set_option maxHeartbeats 8000000 in
theorem right_any (g : Gr) (a : Option Addr) (cap : Nat) (hok : GrOk g cap) (w : World) (hr : RowsAt 3 edV w a g.es) :
    Calls Try.prog 29 #[grV g a cap] w fun e w' => e = .returned (.bool (chk g)) ∧ Below w.heap.size w w' := by
  have HR := hid hr
  have hlen : g.es.length ≤ 9223372036854775807 := by have := hok.len; have := hok.cap; omega
  clear hr hok
  unfold grV
  go_enter Try.func29, Try.ntmps29
  go_upto_region 1 with fail
  have HG := hid (heap_alloc_new w (.cells #[.int .i64 g.rows, .int .i64 g.cols, .slice a g.es.length cap] 24))
  have HB : Hid (Below w.heap.size w (w.alloc (.cells #[.int .i64 g.rows, .int .i64 g.cols, .slice a g.es.length cap] 24))) := hid ((Below.refl _ _).alloc (Nat.le_refl _) _)
  generalize w.alloc (.cells #[.int .i64 g.rows, .int .i64 g.cols, .slice a g.es.length cap] 24) = w1 at *
  have c0 := row_cell HG.out 0 _ rfl
  have c1 := row_cell HG.out 1 _ rfl
  by_cases h1 : g.rows < 0
  · have h1t : decide (g.rows < 0) = true := decide_eq_true h1
    have HN : Hid (chk g = false) := hid (chkV_bad (chkV_size (by unfold sizeBad; simp [h1])))
    go_wp2
    go_ret
    exact ⟨by rw [HN.out]; rfl, HB.out⟩
  · have h1f : decide (g.rows < 0) = false := decide_eq_false h1
    by_cases h2 : 64 < g.rows
    · have h2t : decide (64 < g.rows) = true := decide_eq_true h2
      have HN : Hid (chk g = false) := hid (chkV_bad (chkV_size (by unfold sizeBad; simp [h2])))
      go_wp2
      go_ret
      exact ⟨by rw [HN.out]; rfl, HB.out⟩
    · have h2f : decide (64 < g.rows) = false := decide_eq_false h2
      by_cases h3 : g.cols < 0
      · have h3t : decide (g.cols < 0) = true := decide_eq_true h3
        have HN : Hid (chk g = false) := hid (chkV_bad (chkV_size (by unfold sizeBad; simp [h3])))
        go_wp2
        go_ret
        exact ⟨by rw [HN.out]; rfl, HB.out⟩
      · have h3f : decide (g.cols < 0) = false := decide_eq_false h3
        by_cases h4 : 64 < g.cols
        · have h4t : decide (64 < g.cols) = true := decide_eq_true h4
          have HN : Hid (chk g = false) := hid (chkV_bad (chkV_size (by unfold sizeBad; simp [h4])))
          go_wp2
          go_ret
          exact ⟨by rw [HN.out]; rfl, HB.out⟩
        · have h4f : decide (64 < g.cols) = false := decide_eq_false h4
          have HS : Hid (sizeBad g = false) := hid (by unfold sizeBad; simp; omega)
          have hR0 : 0 ≤ g.rows := by omega
          clear h1 h2 h3 h4
          go_wp2
          clear c0 c1 h1f h2f h3f h4f
          go_loopw [3] (fun i wr => ∃ k : Nat, k ≤ g.es.length ∧ i = .int .i64 k ∧ Hid (okTo g k) ∧ Hid (wr.heap[w.heap.size]? = some (.cells #[.int .i64 g.rows, .int .i64 g.cols, .slice a g.es.length cap] 24 (0, 0))) ∧ Hid (Below w.heap.size w wr)) (fun i _ => g.es.length - (intOf i).toNat)
          case atStart => exact ⟨0, by omega, rfl, hid (okTo_zero g), HG, HB⟩
          case round =>
            clear HG HB
            obtain ⟨k, hk, rfl, HO, HG, HB⟩ := hrel
            have c2 := row_cell HG.out 2 _ rfl
            by_cases hlt : k < g.es.length
            · obtain ⟨x, hx⟩ : ∃ x, g.es[k]? = some x := ⟨g.es[k], by simp [hlt]⟩
              have hki : (k : Int) < (g.es.length : Int) := by omega
              obtain ⟨xr, hxr⟩ : ∃ v, v = x.r := ⟨_, rfl⟩
              obtain ⟨xc, hxc⟩ : ∃ v, v = x.c := ⟨_, rfl⟩
              obtain ⟨xw, hxw⟩ : ∃ v, v = x.w := ⟨_, rfl⟩
              have HX := hid hx
              have HE := hid (And.intro hxr (And.intro hxc hxw))
              obtain ⟨gg, o, rfl, hgg, hcc⟩ := (HR.out.kept HB.out).get hx
              have HCE : Hid (CellsAt wr gg (o + k * 3) #[.int .i64 xr, .int .i64 xc, .int .i64 xw]) := hid (by rw [Nat.mul_comm, hxr, hxc, hxw]; exact hcc)
              clear hx hcc hgg hxr hxc hxw
              go_upto_region 7 with (refine wpList_load_cells rfl 47 _ rfl _ _ rfl _ _ HCE.out Try.underlying47 rfl info_ed ?_)
              have hba : Below wr.heap.size wr (wr.alloc (.cells #[.int .i64 xr, .int .i64 xc, .int .i64 xw] 47)) := (Below.refl _ _).alloc (Nat.le_refl _) _
              have HG1 := hid (below_keep hba HG.out)
              have HB1 := hid (HB.out.trans (hba.mono HB.out.size))
              have HX1 : Hid ((wr.alloc (.cells #[.int .i64 xr, .int .i64 xc, .int .i64 xw] 47)).heap[wr.heap.size]? = some (.cells #[.int .i64 xr, .int .i64 xc, .int .i64 xw] 47 (0, 0))) := hid (heap_alloc_new _ _)
              clear hba c2 HG HB HCE
              generalize wr.alloc (.cells #[.int .i64 xr, .int .i64 xc, .int .i64 xw] 47) = w5 at *
              generalize wr.heap.size = gx at *
              have cx0 := row_cell HX1.out 0 _ rfl
              have cx1 := row_cell HX1.out 1 _ rfl
              have cx2 := row_cell HX1.out 2 _ rfl
              have cg0 := row_cell HG1.out 0 _ rfl
              have cg1 := row_cell HG1.out 1 _ rfl
              have cg2 := row_cell HG1.out 2 _ rfl
              by_cases e1 : xr < 0
              · have e1t : decide (xr < 0) = true := decide_eq_true e1
                have HN : Hid (chk g = false) := hid (chkV_bad (okTo_bad1 HO.out HX.out (by unfold edBad; rw [← HE.out.1, ← HE.out.2.1, ← HE.out.2.2]; simp [e1])))
                go_wp2
                go_ret
                exact ⟨by rw [HN.out]; rfl, HB1.out⟩
              · have e1f : decide (xr < 0) = false := decide_eq_false e1
                by_cases e2 : g.rows ≤ xr
                · have e2t : decide (g.rows ≤ xr) = true := decide_eq_true e2
                  have HN : Hid (chk g = false) := hid (chkV_bad (okTo_bad1 HO.out HX.out (by unfold edBad; rw [← HE.out.1, ← HE.out.2.1, ← HE.out.2.2]; simp [e2])))
                  go_wp2
                  go_ret
                  exact ⟨by rw [HN.out]; rfl, HB1.out⟩
                · have e2f : decide (g.rows ≤ xr) = false := decide_eq_false e2
                  by_cases e3 : xc < 0
                  · have e3t : decide (xc < 0) = true := decide_eq_true e3
                    have HN : Hid (chk g = false) := hid (chkV_bad (okTo_bad1 HO.out HX.out (by unfold edBad; rw [← HE.out.1, ← HE.out.2.1, ← HE.out.2.2]; simp [e3])))
                    go_wp2
                    go_ret
                    exact ⟨by rw [HN.out]; rfl, HB1.out⟩
                  · have e3f : decide (xc < 0) = false := decide_eq_false e3
                    by_cases e4 : g.cols ≤ xc
                    · have e4t : decide (g.cols ≤ xc) = true := decide_eq_true e4
                      have HN : Hid (chk g = false) := hid (chkV_bad (okTo_bad1 HO.out HX.out (by unfold edBad; rw [← HE.out.1, ← HE.out.2.1, ← HE.out.2.2]; simp [e4])))
                      go_wp2
                      go_ret
                      exact ⟨by rw [HN.out]; rfl, HB1.out⟩
                    · have e4f : decide (g.cols ≤ xc) = false := decide_eq_false e4
                      by_cases e5 : xw < 1
                      · have e5t : decide (xw < 1) = true := decide_eq_true e5
                        have HN : Hid (chk g = false) := hid (chkV_bad (okTo_bad1 HO.out HX.out (by unfold edBad; rw [← HE.out.1, ← HE.out.2.1, ← HE.out.2.2]; simp [e5])))
                        go_wp2
                        go_ret
                        exact ⟨by rw [HN.out]; rfl, HB1.out⟩
                      · have e5f : decide (xw < 1) = false := decide_eq_false e5
                        by_cases e6 : 1099513724929 < xw
                        · have e6t : decide (1099513724929 < xw) = true := decide_eq_true e6
                          have HN : Hid (chk g = false) := hid (chkV_bad (okTo_bad1 HO.out HX.out (by unfold edBad; rw [← HE.out.1, ← HE.out.2.1, ← HE.out.2.2]; simp [e6])))
                          go_wp2
                          go_ret
                          exact ⟨by rw [HN.out]; rfl, HB1.out⟩
                        · have e6f : decide (1099513724929 < xw) = false := decide_eq_false e6
                          have HEO : Hid (edBad g.rows g.cols x = false) := hid (by unfold edBad; rw [← HE.out.1, ← HE.out.2.1, ← HE.out.2.2]; simp; omega)
                          clear e1 e2 e3 e4 e5 e6
                          by_cases hk0 : k = 0
                          · subst hk0
                            have g0 : ¬ ((0 : Int) < ((0 : Nat) : Int)) := by omega
                            have HO2 : Hid (okTo g (0 + 1)) := hid (okTo_succ HO.out HX.out HEO.out (by
                              have := HEO.out
                              rw [prevE_zero]
                              unfold edBad at this
                              unfold ordBad
                              simp at this ⊢
                              omega))
                            go_wp2
                            go_roundw
                            case rel => exact ⟨0 + 1, by omega, by go_num, HO2, HG1, HB1⟩
                            case measure => simp [intOf]; omega
                          · obtain ⟨m, hm⟩ : ∃ m, k = m + 1 := ⟨k - 1, by omega⟩
                            subst hm
                            obtain ⟨y, hy⟩ : ∃ y, g.es[m]? = some y := ⟨g.es[m], by simp⟩
                            have HP : Hid (prevE g (m + 1) = y) := hid (prevE_succ hy)
                            obtain ⟨gg', o', hgo, _, hcy⟩ := (HR.out.kept HB1.out).get hy
                            cases hgo
                            obtain ⟨yr, hyr⟩ : ∃ v, v = y.r := ⟨_, rfl⟩
                            obtain ⟨yc, hyc⟩ : ∃ v, v = y.c := ⟨_, rfl⟩
                            obtain ⟨yw, hyw⟩ : ∃ v, v = y.w := ⟨_, rfl⟩
                            have HCY : Hid (CellsAt w5 gg (o + m * 3) #[.int .i64 yr, .int .i64 yc, .int .i64 yw]) := hid (by rw [Nat.mul_comm, hyr, hyc, hyw]; exact hcy)
                            have HY := hid (And.intro hyr hyc)
                            clear hy hcy hyr hyc hyw hk0
                            have e1 : ((m + 1 : Nat) : Int) = (m : Int) + 1 := by omega
                            have g0 : (0 : Int) < (m : Int) + 1 := by omega
                            have hm1 : (m : Int) < (g.es.length : Int) := by omega
                            have hm2 : (m : Int) ≤ 9223372036854775806 := by omega
                            go_upto_region 11 with (refine wpList_load_cells rfl 47 _ rfl _ _ rfl _ _ HCY.out Try.underlying47 rfl info_ed ?_)
                            have hba : Below w5.heap.size w5 (w5.alloc (.cells #[.int .i64 yr, .int .i64 yc, .int .i64 yw] 47)) := (Below.refl _ _).alloc (Nat.le_refl _) _
                            have HG2 := hid (below_keep hba HG1.out)
                            have HB2 := hid (HB1.out.trans (hba.mono HB1.out.size))
                            have HX2 := hid (below_keep hba HX1.out)
                            have HY2 := hid (heap_alloc_new w5 (.cells #[.int .i64 yr, .int .i64 yc, .int .i64 yw] 47))
                            clear hba HCY cx0 cx1 cx2 cg0 cg1 cg2
                            generalize w5.alloc (.cells #[.int .i64 yr, .int .i64 yc, .int .i64 yw] 47) = w6 at *
                            generalize w5.heap.size = gy at *
                            have cx0 := row_cell HX2.out 0 _ rfl
                            have cx1 := row_cell HX2.out 1 _ rfl
                            have cy0 := row_cell HY2.out 0 (.int .i64 yr) rfl
                            have cy1 := row_cell HY2.out 1 (.int .i64 yc) rfl
                            by_cases f1 : xr < yr
                            · have f1t : decide (xr < yr) = true := decide_eq_true f1
                              have HN : Hid (chk g = false) := hid (chkV_bad (okTo_bad2 HO.out HX.out (by unfold ordBad; rw [HP.out, ← HE.out.1, ← HE.out.2.1, ← HY.out.1, ← HY.out.2]; simp; omega)))
                              go_wp2
                              go_ret
                              exact ⟨by rw [HN.out]; rfl, HB2.out⟩
                            · have f1t : decide (xr < yr) = false := decide_eq_false f1
                              by_cases f2 : xr = yr
                              · have f2t : (xr == yr) = true := by simp [f2]
                                by_cases f3 : xc ≤ yc
                                · have f3t : decide (xc ≤ yc) = true := decide_eq_true f3
                                  have HN : Hid (chk g = false) := hid (chkV_bad (okTo_bad2 HO.out HX.out (by unfold ordBad; rw [HP.out, ← HE.out.1, ← HE.out.2.1, ← HY.out.1, ← HY.out.2]; simp; omega)))
                                  clear f2
                                  go_wp2
                                  go_ret
                                  exact ⟨by rw [HN.out]; rfl, HB2.out⟩
                                · have f3t : decide (xc ≤ yc) = false := decide_eq_false f3
                                  have HO2 : Hid (okTo g (m + 1 + 1)) := hid (okTo_succ HO.out HX.out HEO.out (by unfold ordBad; rw [HP.out, ← HE.out.1, ← HE.out.2.1, ← HY.out.1, ← HY.out.2]; simp; omega))
                                  clear f2
                                  go_wp2
                                  go_roundw
                                  case rel => exact ⟨m + 1 + 1, by omega, by go_num, HO2, HG2, HB2⟩
                                  case measure => simp [intOf]; omega
                              · have f2t : (xr == yr) = false := by simp [f2]
                                have HO2 : Hid (okTo g (m + 1 + 1)) := hid (okTo_succ HO.out HX.out HEO.out (by unfold ordBad; rw [HP.out, ← HE.out.1, ← HE.out.2.1, ← HY.out.1, ← HY.out.2]; simp; omega))
                                go_wp2
                                go_roundw
                                case rel => exact ⟨m + 1 + 1, by omega, by go_num, HO2, HG2, HB2⟩
                                case measure => simp [intOf]; omega
            · obtain rfl : k = g.es.length := by omega
              have hki : ¬ ((g.es.length : Int) < (g.es.length : Int)) := by omega
              have HN : Hid (chk g = true) := hid (chkV_good (chkV_end HO.out (Nat.le_refl _) HS.out))
              clear hk hlt
              go_wp2
              go_ret
              exact ⟨by rw [HN.out]; rfl, HB.out⟩
end Go.Proofs.Ytmddhjoomlhbcaa
