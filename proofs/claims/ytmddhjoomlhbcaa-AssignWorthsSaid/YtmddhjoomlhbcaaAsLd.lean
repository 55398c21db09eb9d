/- The walk of laid. -/
import Derived.Test.YtmddhjoomlhbcaaAsGp
import Derived.StillTailTactics
namespace Go.Proofs.Ytmddhjoomlhbcaa
open Go.RowKit

def tblZ : Array Value := (tblL 0 0 tz).toArray
theorem tblZ_ne : tblZ ≠ #[] := by
  intro h
  have h2 : tblZ.size = 4098 := by kernel_rfl
  rw [h] at h2
  cases h2
set_option maxRecDepth 100000 in
theorem zeroValue_tbl (w : World) : Sem.run Try.prog (zeroValue 67) w = .ok (.agg tblZ) w := by kernel_rfl
attribute [local go_sem] zeroValue_tbl
attribute [local simp] tblZ_ne

theorem tblZ_set (R C : Nat) : (tblZ.setIfInBounds 0 (.int .i64 (R : Int))).setIfInBounds 1 (.int .i64 (C : Int)) = (tblL R C tz).toArray := by
  unfold tblZ tblL
  rw [List.setIfInBounds_toArray, List.setIfInBounds_toArray]
  rfl
theorem tbl_new {w : World} {s : Nat} (R C : Nat) (hs : w.heap.size = s) : TblAt (w.alloc (.cells ((tblZ.setIfInBounds 0 (.int .i64 (R : Int))).setIfInBounds 1 (.int .i64 (C : Int))) 67)) s R C tz := by
  rw [tblZ_set, ← hs]
  exact ⟨heap_alloc_new _ _, tz_len⟩

set_option maxRecDepth 100000 in
set_option maxHeartbeats 8000000 in
theorem laid_any (g : Gr) (a : Option Addr) (cap R C : Nat) (hok : GrOk g cap) (hc : chk g = true) (hR : g.rows = R) (hC : g.cols = C) (w : World) (hr : RowsAt 3 edV w a g.es) :
    Calls Try.prog 36 #[grV g a cap] w fun e w' => ∃ tp, e = .returned (.pointer (some ⟨tp, 0, none⟩)) ∧ w.heap.size ≤ tp ∧ TblAt w' tp R C (tblOf g.es) ∧ Below w.heap.size w w' := by
  have HC := hid hc
  have HR := hid hr
  have hlen : g.es.length ≤ 9223372036854775807 := by have := hok.len; have := hok.cap; omega
  clear hc hr hok
  unfold grV
  rw [hR, hC]
  go_enter Try.func36, Try.ntmps36
  go_upto_region 2 with fail
  have HT0 := hid (tbl_new (w := w.alloc (.cells #[.int .i64 (R : Int), .int .i64 (C : Int), .slice a g.es.length cap] 24)) (s := w.heap.size + 1) R C (alloc_size _ _))
  have HG0 := hid (alloc_keep (heap_alloc_new w (.cells #[.int .i64 (R : Int), .int .i64 (C : Int), .slice a g.es.length cap] 24)) (.cells ((tblZ.setIfInBounds 0 (.int .i64 (R : Int))).setIfInBounds 1 (.int .i64 (C : Int))) 67))
  have HB0 : Hid (Below w.heap.size w ((w.alloc (.cells #[.int .i64 (R : Int), .int .i64 (C : Int), .slice a g.es.length cap] 24)).alloc (.cells ((tblZ.setIfInBounds 0 (.int .i64 (R : Int))).setIfInBounds 1 (.int .i64 (C : Int))) 67))) := hid (((Below.refl _ _).alloc (Nat.le_refl _) _).alloc (by simp) _)
  generalize (w.alloc (.cells #[.int .i64 (R : Int), .int .i64 (C : Int), .slice a g.es.length cap] 24)).alloc (.cells ((tblZ.setIfInBounds 0 (.int .i64 (R : Int))).setIfInBounds 1 (.int .i64 (C : Int))) 67) = w1 at *
  obtain ⟨tp, htp⟩ : ∃ tp, tp = w.heap.size + 1 := ⟨_, rfl⟩
  rw [← htp] at HT0 ⊢
  have HLT : Hid (w.heap.size < tp) := hid (by omega)
  clear htp h
  have cg := row_cell HG0.out 2 _ rfl
  go_wp2
  clear cg
  go_loopw [15] (fun i wr => ∃ k : Nat, k ≤ g.es.length ∧ i = .int .i64 k ∧ Hid (TblAt wr tp R C (tblOf (g.es.take k))) ∧ Hid (Below w.heap.size w wr)) (fun i _ => g.es.length - (intOf i).toNat)
  case atStart => exact ⟨0, by omega, rfl, HT0, HB0⟩
  case round =>
    clear HT0 HB0 HG0
    obtain ⟨k, hk, rfl, HT, HB⟩ := hrel
    by_cases hlt : k < g.es.length
    · obtain ⟨x, hx⟩ : ∃ x, g.es[k]? = some x := ⟨g.es[k], by simp [hlt]⟩
      have hki : (k : Int) < (g.es.length : Int) := by omega
      obtain ⟨r, c, hxr, hxc, _, _, hr64, hc64⟩ := edge_ok HC.out (List.mem_of_getElem? hx)
      have HSN : Hid (tblOf (g.es.take (k + 1)) = (tblOf (g.es.take k)).set (64 * r + c) x.w) := hid (by
        obtain ⟨h1, h2⟩ := List.getElem?_eq_some_iff.1 hx
        rw [List.take_succ_eq_append_getElem h1, h2, tblOf_snoc]
        congr 1
        unfold idxE; rw [hxr, hxc]; simp)
      obtain ⟨gg, o, rfl, hgg, hcc⟩ := (HR.out.kept HB.out).get hx
      have HCE : Hid (CellsAt wr gg (o + k * 3) #[.int .i64 r, .int .i64 c, .int .i64 x.w]) := hid (by rw [Nat.mul_comm, ← hxr, ← hxc]; exact hcc)
      have hri : (r : Int) < 64 := by omega
      have hci : (c : Int) < 64 := by omega
      clear hx hxr hxc hcc hgg hlt
      go_upto_region 5 with (refine wpList_load_cells rfl 47 _ rfl _ _ rfl _ _ HCE.out Try.underlying47 rfl info_ed ?_)
      have hba : Below wr.heap.size wr (wr.alloc (.cells #[.int .i64 r, .int .i64 c, .int .i64 x.w] 47)) := (Below.refl _ _).alloc (Nat.le_refl _) _
      have HT1 := hid (HT.out.kept hba)
      have HB1 := hid (HB.out.trans (hba.mono HB.out.size))
      have HX1 : Hid ((wr.alloc (.cells #[.int .i64 r, .int .i64 c, .int .i64 x.w] 47)).heap[wr.heap.size]? = some (.cells #[.int .i64 r, .int .i64 c, .int .i64 x.w] 47 (0, 0))) := hid (heap_alloc_new _ _)
      clear hba
      generalize wr.alloc (.cells #[.int .i64 r, .int .i64 c, .int .i64 x.w] 47) = w2 at *
      generalize wr.heap.size = gx at *
      clear HT HB HCE
      obtain ⟨wq, hwq⟩ : ∃ wq, wq = w2.drew := ⟨_, rfl⟩
      have HQD := hid hwq
      have hbd : Below w2.heap.size w2 wq := by rw [hwq]; exact (Below.refl _ _).drew
      have HTQ := hid (HT1.out.kept hbd)
      have HBQ := hid (HB1.out.trans (hbd.mono HB1.out.size))
      have HXQ := hid (below_keep hbd HX1.out)
      clear hwq hbd HT1 HB1 HX1
      have cx0 := row_cell HXQ.out 0 _ rfl
      have cx1 := row_cell HXQ.out 1 _ rfl
      have cx2 := row_cell HXQ.out 2 _ rfl
      have cT := HTQ.out.at hr64 hc64
      have fT := free_row HTQ.out.row (2 + r * 64 + c)
      have HT3 := hid (HSN.out ▸ HTQ.out.set hr64 hc64 x.w)
      have HB3 : Hid (Below w.heap.size w (wq.setCell ⟨tp, 2 + r * 64 + c, none⟩ (.int .i64 x.w))) := hid (HBQ.out.setCell (by show w.heap.size ≤ tp; have := HLT.out; omega) _)
      refine wp_region_tail 11 (by kernel_rfl) (by kernel_rfl) wq HQD.out ?_
      simp only [List.take_succ_cons, List.take_zero, List.drop_succ_cons, List.drop_zero]
      iterate 11 still_step
      refine wpStill_nil ?_
      go_wp2
      go_roundw
      case rel => exact ⟨k + 1, by omega, by go_num, HT3, HB3⟩
      case measure => simp [intOf]; omega
    · obtain rfl : k = g.es.length := by omega
      have hki : ¬ ((g.es.length : Int) < (g.es.length : Int)) := by omega
      rw [List.take_length] at HT
      clear hk hlt
      go_wp2
      go_ret
      exact ⟨tp, rfl, by have := HLT.out; omega, HT.out, HB.out⟩
end Go.Proofs.Ytmddhjoomlhbcaa
