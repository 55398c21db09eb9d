/- TwinEdges, TwinGraph of edges as many as memory may bear. -/
import Derived.Test.YtmddhjoomlhbcaaTwinW
namespace Go.Proofs.Ytmddhjoomlhbcaa
open Go.RowKit

set_option maxRecDepth 100000 in
set_option maxHeartbeats 4000000 in
theorem twinEdges_big (l : List Ed) (a : Option Addr) (cap : Nat) (hl : l.length * 24 ≤ 140737488351232) (w : World) (hr : RowsAt 3 edV w a l) :
    Calls Try.prog 33 #[.slice a l.length cap] w (TwinPost w l) := by
  have HR := hid hr
  clear hr
  obtain ⟨cs, hcs⟩ : ∃ cs, cs = (edsV (twinTo l 0)).toArray := ⟨_, rfl⟩
  have hmk : (Instr.makeSlice 22 (.int .i64 ((l.length : Int) + 1)) (.int .i64 ((l.length : Int) + 1))).run Try.prog w = .ok (.slice (some ⟨w.heap.size, 0, none⟩) (l.length + 1) (l.length + 1)) (w.alloc (.cells cs 47)) := by
    obtain ⟨i, hi, hz0, hz1, hz2⟩ := info_parts info_edT
    have h := run_make (P := Try.prog) w 22 47 i _ Try.underlying22 hi hz0 .i64 .i64 ((l.length : Int) + 1) ((l.length : Int) + 1) (by omega) (by omega) (by rw [hz2]; omega) (by omega)
    rw [h, hz1, hcs, twinTo_zero, show ((l.length : Int) + 1).toNat = l.length + 1 by omega, made_eds]
  have HN0 : Hid (EdsAt (w.alloc (.cells cs 47)) w.heap.size (twinTo l 0)) := hid (by unfold EdsAt; rw [← hcs]; exact heap_alloc_new _ _)
  clear hcs
  have HB0 : Hid (Below w.heap.size w (w.alloc (.cells cs 47))) := hid ((Below.refl _ _).alloc (Nat.le_refl _) _)
  go_enter Try.func33, Try.ntmps33
  go_wp2
  clear hmk
  generalize w.alloc (.cells cs 47) = w1 at *
  go_loopw [4] (fun i wr => ∃ k : Nat, k ≤ l.length ∧ i = .int .i64 k ∧ Hid (EdsAt wr w.heap.size (twinTo l k)) ∧ Hid (Below w.heap.size w wr)) (fun i _ => l.length - (intOf i).toNat)
  case atStart => exact ⟨0, by omega, rfl, HN0, HB0⟩
  case round =>
    clear HN0 HB0
    obtain ⟨k, hk, rfl, HN, HB⟩ := hrel
    by_cases hlt : k < l.length
    · obtain ⟨x, hx⟩ : ∃ x, l[k]? = some x := ⟨l[k], by simp [hlt]⟩
      obtain ⟨gg, o, rfl, hgg, hcc⟩ := (HR.out.kept HB.out).get hx
      have HC : Hid (CellsAt wr gg (o + k * 3) #[.int .i64 x.r, .int .i64 x.c, .int .i64 x.w]) := hid (by rw [Nat.mul_comm]; exact hcc)
      have hy : ∃ y, (twinTo l k)[k]? = some y := ⟨(twinTo l k)[k]'(by rw [twinTo_len l hk]; omega), List.getElem?_eq_getElem _⟩
      obtain ⟨y, hy⟩ := hy
      have HS := hid (twinTo_set l hx)
      have cell : ∀ (j : Nat) v, (edV y)[j]? = some v → wr.cell? ⟨w.heap.size, k * 3 + j, none⟩ = some v := fun j v hj => row_cell HN.out _ _ (by rw [List.getElem?_toArray, Nat.mul_comm]; exact edsV_get hy j v hj)
      have c0 : wr.cell? ⟨w.heap.size, k * 3, none⟩ = some (.int .i64 y.r) := cell 0 _ rfl
      have c1 : wr.cell? ⟨w.heap.size, k * 3 + 1, none⟩ = some (.int .i64 y.c) := cell 1 _ rfl
      have c2 : wr.cell? ⟨w.heap.size, k * 3 + 2, none⟩ = some (.int .i64 y.w) := cell 2 _ rfl
      have f0 := free_row HN.out (k * 3)
      have f1 := free_row HN.out (k * 3 + 1)
      have f2 := free_row HN.out (k * 3 + 2)
      have HE : Hid (EdsAt (((wr.setCell ⟨w.heap.size, k * 3, none⟩ (.int .i64 x.r)).setCell ⟨w.heap.size, k * 3 + 1, none⟩ (.int .i64 x.c)).setCell ⟨w.heap.size, k * 3 + 2, none⟩ (.int .i64 x.w)) w.heap.size (twinTo l (k + 1))) := hid (by rw [← HS.out, Nat.mul_comm]; exact HN.out.set k x)
      have HB2 : Hid (Below w.heap.size w (((wr.setCell ⟨w.heap.size, k * 3, none⟩ (.int .i64 x.r)).setCell ⟨w.heap.size, k * 3 + 1, none⟩ (.int .i64 x.c)).setCell ⟨w.heap.size, k * 3 + 2, none⟩ (.int .i64 x.w))) := hid (((HB.out.setCell (Nat.le_refl _) _).setCell (Nat.le_refl _) _).setCell (Nat.le_refl _) _)
      clear hx hcc hgg hy cell
      go_wp2_with (refine wpList_load_cells rfl 47 _ rfl _ _ rfl _ _ HC.out Try.underlying47 rfl info_ed ?_)
      go_roundw
      case rel => exact ⟨k + 1, by omega, by go_num, HE, HB2⟩
      case measure => simp [intOf]; omega
    · obtain rfl : k = l.length := by omega
      have hy : ∃ y, (twinTo l l.length)[l.length]? = some y := ⟨(twinTo l l.length)[l.length]'(by rw [twinTo_len l hk]; omega), List.getElem?_eq_getElem _⟩
      obtain ⟨y, hy⟩ := hy
      have HS := hid (twinTo_end l)
      have cell : ∀ (w2 : World), EdsAt w2 w.heap.size (twinTo l l.length) → ∀ (j : Nat) v, (edV y)[j]? = some v → w2.cell? ⟨w.heap.size, l.length * 3 + j, none⟩ = some v := fun w2 h j v hj => row_cell h _ _ (by rw [List.getElem?_toArray, Nat.mul_comm]; exact edsV_get hy j v hj)
      have hl0 : l.length < l.length + 1 := by omega
      have HFIN : ∀ w2 : World, EdsAt w2 w.heap.size (twinTo l l.length) → EdsAt (((w2.setCell ⟨w.heap.size, l.length * 3, none⟩ (.int .i64 0)).setCell ⟨w.heap.size, l.length * 3 + 1, none⟩ (.int .i64 0)).setCell ⟨w.heap.size, l.length * 3 + 2, none⟩ (.int .i64 (-8777))) w.heap.size (l ++ [markEd]) := fun w2 h => by
        rw [← HS.out, Nat.mul_comm]; exact h.set l.length markEd
      go_wp2_with (go_at_call 43; refine (markEdge_any _ _).mono ?_; rintro e w2 ⟨rfl, hb2⟩; have HN2 : Hid (EdsAt w2 w.heap.size (twinTo l l.length)) := hid (below_keep hb2 HN.out); have HB2 := hid (HB.out.trans (hb2.mono HB.out.size)); have c0 : w2.cell? ⟨w.heap.size, l.length * 3, none⟩ = some (.int .i64 y.r) := cell w2 HN2.out 0 _ rfl; have c1 : w2.cell? ⟨w.heap.size, l.length * 3 + 1, none⟩ = some (.int .i64 y.c) := cell w2 HN2.out 1 _ rfl; have c2 : w2.cell? ⟨w.heap.size, l.length * 3 + 2, none⟩ = some (.int .i64 y.w) := cell w2 HN2.out 2 _ rfl; have f0 := free_row HN2.out (l.length * 3); have f1 := free_row HN2.out (l.length * 3 + 1); have f2 := free_row HN2.out (l.length * 3 + 2); clear hb2)
      go_ret
      exact ⟨_, rfl, Nat.le_refl _, HFIN _ HN2.out, ((HB2.out.setCell (Nat.le_refl _) _).setCell (Nat.le_refl _) _).setCell (Nat.le_refl _) _⟩

set_option maxRecDepth 100000 in
set_option maxHeartbeats 4000000 in
theorem twinGraph_big (g : Gr) (a : Option Addr) (cap : Nat) (hl : g.es.length * 24 ≤ 140737488351232) (w : World) (hr : RowsAt 3 edV w a g.es) :
    Calls Try.prog 15 #[grV g a cap] w (TwinGPost w g) := by
  have CT := hid (fun w hr => twinEdges_big g.es a cap hl w hr)
  have HR := hid hr
  clear hr
  unfold grV
  go_enter Try.func15, Try.ntmps15
  go_wp2_with fail
  refine (CT.out _ ((HR.out.alloc _).alloc _)).mono ?_
  rintro e w2 ⟨b, rfl, hb, hea, hbel⟩
  have hba : Below w.heap.size w ((w.alloc (.cells #[.int .i64 g.rows, .int .i64 g.cols, .slice a g.es.length cap] 24)).alloc (.cells #[.int .i64 0, .int .i64 0, .slice none 0 0] 24)) := ((Below.refl _ _).alloc (Nat.le_refl _) _).alloc (by simp) _
  have HB2 := hid (hba.trans (hbel.mono hba.size))
  have HX1 := hid (below_keep hbel (alloc_keep (heap_alloc_new w (.cells #[.int .i64 g.rows, .int .i64 g.cols, .slice a g.es.length cap] 24)) (.cells #[.int .i64 0, .int .i64 0, .slice none 0 0] 24)))
  have HX2 := hid (below_keep hbel (heap_2 w (.cells #[.int .i64 g.rows, .int .i64 g.cols, .slice a g.es.length cap] 24) (.cells #[.int .i64 0, .int .i64 0, .slice none 0 0] 24)))
  have HEA := hid hea
  have hbb : w.heap.size + 2 ≤ b := by simp at hb; omega
  clear hea hbel hb hba
  have c2 := row_cell HX1.out 2 _ rfl
  have f2 := free_row HX1.out 2
  have HX3 := hid (row_setCell HX1.out 2 (.slice (some ⟨b, 0, none⟩) g.es.length (g.es.length + 1)))
  have HX4 : Hid ((w2.setCell ⟨w.heap.size, 2, none⟩ (.slice (some ⟨b, 0, none⟩) g.es.length (g.es.length + 1))).heap[w.heap.size + 1]? = _) := hid ((heap_setCell_ne (by omega)).trans HX2.out)
  have HX5 : Hid (EdsAt (w2.setCell ⟨w.heap.size, 2, none⟩ (.slice (some ⟨b, 0, none⟩) g.es.length (g.es.length + 1))) b (g.es ++ [markEd])) := hid (by unfold EdsAt; rw [heap_setCell_ne (by omega)]; exact HEA.out)
  have HB5 := hid (HB2.out.setCell (p := ⟨w.heap.size, 2, none⟩) (Nat.le_refl _) (.slice (some ⟨b, 0, none⟩) g.es.length (g.es.length + 1)))
  go_upto_region 2 with fail
  generalize w2.setCell ⟨w.heap.size, 2, none⟩ (.slice (some ⟨b, 0, none⟩) g.es.length (g.es.length + 1)) = w3 at *
  clear c2 f2
  go_wp2_with (first | (refine wpList_load_w rfl 24 _ rfl _ rfl _ _ _ _ (HX3.out) Try.underlying24 rfl (info_gr) ?_) | (refine wpList_store_row rfl 24 _ _ rfl (w.heap.size + 1) rfl _ rfl _ _ HX4.out rfl (gr_one _ _ _ _ _) info_gr _ rfl ?_))
  refine bodyPost_ret (results_cell_row rfl _ _ (w.heap.size + 1) 24 _ (0, 0) _ rfl (setRow_at HX4.out _) Try.underlying24 rfl info_gr) rfl ⟨b, rfl, by omega, ?_, below_setRow' HB5.out (by omega) _⟩
  unfold EdsAt
  rw [setRow_other _ _ _ _ (by omega)]; exact HX5.out
end Go.Proofs.Ytmddhjoomlhbcaa
