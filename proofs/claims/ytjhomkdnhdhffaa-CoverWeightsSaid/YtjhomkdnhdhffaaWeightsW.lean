/- The walk of CoverWeights. -/
import Derived.Test.YtjhomkdnhdhffaaAlvWeights
import Derived.Test.YtjhomkdnhdhffaaWeightsPl
import Derived.BigRegion
namespace Go.Proofs.Ytjhomkdnhdhffaa.PCoverWeights
open Go.RowKit Go.Proofs.Ytjhomkdnhdhffaa Go.Proofs.YtjhomkdnhdhffaaW.PrintWords Go.Proofs.YtjhomkdnhdhffaaW.PrintLast Go.Proofs.YtjhomkdnhdhffaaW.PrintMore

/-- The copy's edges, their weights written over. -/
theorem reW_ok {g : Gr} {cap : Nat} (h : GrOk g cap) {ws : List Int} {c2 : Nat} (hw : IntsOk ws c2) (hl : g.es.length ≤ 1048576) : GrOk (gW g ws) (g.es.length + 1) :=
  ⟨h.rows, h.cols, reW_mem _ _ h.es hw.all, by show (reW g.es ws).length ≤ _; rw [reW_len]; omega, by omega⟩
theorem twin_ok {g : Gr} {cap : Nat} (h : GrOk g cap) (hl : g.es.length ≤ 1048576) : GrOk g (g.es.length + 1) := ⟨h.rows, h.cols, h.es, by omega, by omega⟩
theorem _root_.Go.Proofs.Ytjhomkdnhdhffaa.EdsAt.weight {w : World} {g : Nat} {l : List Ed} (h : EdsAt w g l) {k : Nat} {x : Ed} (hx : l[k]? = some x) (n : Int) : EdsAt (w.setCell ⟨g, k * 3 + 2, none⟩ (.int .i64 n)) g (l.set k ⟨x.r, x.c, n⟩) := by
  unfold EdsAt at *
  rw [row_setCell h, edsV_set]
  have h0 := edsV_get hx 0 _ rfl
  have h1 := edsV_get hx 1 _ rfl
  rw [Nat.add_zero] at h0
  have e0 : (edsV l).set (3 * k) (.int .i64 x.r) = edsV l := by
    apply List.ext_getElem?; intro i
    rw [List.getElem?_set]; split
    · rename_i e; subst e; split
      · exact h0.symm
      · rename_i h9; rw [List.getElem?_eq_none (by omega)] at h0; cases h0
    · rfl
  have e1 : (edsV l).set (3 * k + 1) (.int .i64 x.c) = edsV l := by
    apply List.ext_getElem?; intro i
    rw [List.getElem?_set]; split
    · rename_i e; subst e; split
      · exact h1.symm
      · rename_i h9; rw [List.getElem?_eq_none (by omega)] at h1; cases h1
    · rfl
  rw [e0, e1, Nat.mul_comm k 3]
  simp
theorem parts_len (g : Gr) (h : chk g = true) : ((parts g).map nats).length ≤ 64 ∧ ∀ x ∈ (parts g).map nats, x.length ≤ 64 := by
  have hs := chk_size h
  have hf : ∀ (p : Nat → Bool), ((List.range g.rows.toNat).filter p).length ≤ 64 := fun p => Nat.le_trans (List.length_filter_le _ _) (by rw [List.length_range]; omega)
  refine ⟨?_, fun x hx => ?_⟩
  · rw [List.length_map]; unfold parts partsOf; rw [List.length_map]; exact hf _
  · obtain ⟨y, hy, rfl⟩ := List.mem_map.1 hx
    rw [nats_len]
    unfold parts partsOf at hy
    obtain ⟨r, _, rfl⟩ := List.mem_map.1 hy
    exact hf _
structure WAt (w wr : World) (g : Gr) (ws : List Int) (bt bu gt gu : Nat) : Prop where
  bt : wr.heap[bt]? = some (.cells #[.int .i64 g.rows, .int .i64 g.cols, .slice (some ⟨gt, 0, none⟩) g.es.length (g.es.length + 1)] 24 (0, 0))
  bu : wr.heap[bu]? = some (.cells #[.int .i64 g.rows, .int .i64 g.cols, .slice (some ⟨gu, 0, none⟩) g.es.length (g.es.length + 1)] 24 (0, 0))
  et : EdsAt wr gt (g.es ++ [markEd])
  eu : EdsAt wr gu ((gW g ws).es ++ [markEd])
  below : Below w.heap.size w wr
theorem WAt.next {w wr w2 : World} {g : Gr} {ws : List Int} {bt bu gt gu : Nat} (h : WAt w wr g ws bt bu gt gu) (hb : Below wr.heap.size wr w2) : WAt w w2 g ws bt bu gt gu :=
  ⟨below_keep hb h.bt, below_keep hb h.bu, below_keep hb h.et, below_keep hb h.eu, h.below.trans (hb.mono h.below.size)⟩
theorem nat_sub_ok (n : Nat) (h : n ≤ 1048576) : n ≤ 9223372036854775807 := by omega

set_option maxRecDepth 100000 in
set_option maxHeartbeats 20000000 in
theorem weights_any (g : Gr) (a : Option Addr) (cap : Nat) (hok : GrOk g cap) (ws : List Int) (b : Option Addr) (c2 : Nat) (hws : IntsOk ws c2) (hsz : ws.length * 8 ≤ 140737488351232) (w : World) (hr : RowsAt 3 edV w a g.es) (hrw : RowsAt 1 intC w b ws) :
    Calls Try.prog 5 #[grV g a cap, .slice b ws.length c2] w fun e w' => e = .returned (.bool true) ∧ Below w.heap.size w w' := by
  have HOK := hid hok
  have HWS := hid hws
  have HR := hid hr
  have HRW := hid hrw
  have HSZ := hid hsz
  have HLN : Hid (g.es.length ≤ 9223372036854775807) := hid (by have := hok.len; have := hok.cap; omega)
  clear hok hws hr hrw hsz
  unfold grV at *
  go_enter Try.func5, Try.ntmps5
  go_wp2_with fail
  refine (alive_any _).mono ?_
  rintro e w1 ⟨rfl, hb1⟩
  have HG := hid (below_keep hb1 (heap_alloc_new _ _))
  have HB : Hid (Below w.heap.size w w1) := hid (((Below.refl _ _).alloc (Nat.le_refl _) _).trans (hb1.mono (by simp)))
  clear hb1
  have cg := row_cell HG.out 2 _ rfl
  go_wp2_with fail
  clear cg
  have HN := C_new_ints w1 [(g.es.length : Int), (ws.length : Int)] (by simp)
  have hbn : Below w1.heap.size w1 (w1.alloc (.cells (intV [(g.es.length : Int), (ws.length : Int)]).toArray 3)) := (Below.refl _ _).alloc (Nat.le_refl _) _
  refine (cabstandlaw01_Beyond.calls 3 (some ⟨w1.heap.size, 0, none⟩) 2 [(g.es.length : Int), (ws.length : Int)] _ _ HN (Nat.le_refl _) (beyond_two _ _ (by omega) (by have := HLN.out; omega) (by omega) (by have := HSZ.out; omega))).mono ?_
  rintro e w2 ⟨rfl, hd2⟩
  have hb2 := hbn.trans (hd2.below.mono hbn.size)
  have HG := hid (below_keep hb2 HG.out)
  have HB := hid (HB.out.trans (hb2.mono HB.out.size))
  clear HN hbn hd2 hb2
  by_cases hbey : (g.es.length : Int) + (ws.length : Int) > 1048576
  · rw [decide_eq_true hbey]
    have HX := hid hbey
    clear hbey
    go_wp2_with fail
    refine (alive_any _).mono ?_
    rintro e w3 ⟨rfl, hb3⟩
    have HB := hid (HB.out.trans (hb3.mono HB.out.size))
    clear hb3
    go_wp2
    go_ret
    exact ⟨rfl, HB.out⟩
  · rw [decide_eq_false hbey]
    have hlen : g.es.length ≤ 1048576 := by omega
    have hlw : ws.length ≤ 1048576 := by omega
    clear hbey
    go_wp2_with (refine wpList_load_w rfl 24 _ rfl _ rfl _ _ _ _ (HG.out) Try.underlying24 rfl (info_gr) ?_)
    refine (twinGraph_any g a cap hlen _ (HR.out.kept HB.out)).mono ?_
    rintro e w3 ⟨gt, rfl, hgt, het, hb3⟩
    have HG := hid (below_keep hb3 HG.out)
    have HET := hid het
    have HGT := hid (Nat.le_trans HB.out.size hgt)
    have HB := hid (HB.out.trans (hb3.mono HB.out.size))
    clear hgt het hb3
    have gE : ∀ (b : Nat) (W : World), W.alloc (.cells #[.int .i64 g.rows, .int .i64 g.cols, .slice (some ⟨b, 0, none⟩) g.es.length (g.es.length + 1)] 24) = W.alloc (.cells (grC g (some ⟨b, 0, none⟩) (g.es.length + 1)) 24) := fun _ _ => rfl
    unfold grV
    go_wp2_with (first | (refine wpList_load_w rfl 24 _ rfl _ rfl _ _ _ _ ((alloc_keep HG.out _)) Try.underlying24 rfl (info_gr) ?_) | (refine wpList_store_row rfl 24 _ _ rfl _ rfl _ rfl _ _ (heap_alloc_new _ _) rfl (gr_one _ _ _ _ _) info_gr _ (setRow_alloc _ _ _ _) ?_))
    refine (twinGraph_any g a cap hlen _ (HR.out.kept (HB.out.alloc HB.out.size _))).mono ?_
    rintro e w4 ⟨gu, rfl, hgu, heu, hb4⟩
    have HT4 := hid (below_keep hb4 (heap_alloc_new w3 (.cells #[.int .i64 g.rows, .int .i64 g.cols, .slice (some ⟨gt, 0, none⟩) g.es.length (g.es.length + 1)] 24)))
    have HET4 : Hid (EdsAt w4 gt (g.es ++ [markEd])) := hid (below_keep hb4 (alloc_keep HET.out _))
    have HEU := hid heu
    have HS3 : Hid (w.heap.size ≤ w3.heap.size) := hid HB.out.size
    have HLT : Hid (gt < w3.heap.size ∧ w3.heap.size < gu) := hid ⟨heap_lt HET.out, by rw [alloc_size] at hgu; omega⟩
    have hba := HB.out.alloc HB.out.size (.cells #[.int .i64 g.rows, .int .i64 g.cols, .slice (some ⟨gt, 0, none⟩) g.es.length (g.es.length + 1)] 24)
    have HB4 := hid (hba.trans (hb4.mono hba.size))
    clear heu hgu hb4 hba HET HB HG gE
    unfold grV
    go_upto_region 5 with (refine wpList_store_row rfl 24 _ _ rfl _ rfl _ rfl _ _ (heap_alloc_new _ _) rfl (gr_one _ _ _ _ _) info_gr _ (setRow_alloc _ _ _ _) ?_)
    have HT5 := hid (alloc_keep HT4.out (.cells #[.int .i64 g.rows, .int .i64 g.cols, .slice (some ⟨gu, 0, none⟩) g.es.length (g.es.length + 1)] 24))
    have HU5 := hid (heap_alloc_new w4 (.cells #[.int .i64 g.rows, .int .i64 g.cols, .slice (some ⟨gu, 0, none⟩) g.es.length (g.es.length + 1)] 24))
    have HET5 : Hid (EdsAt (w4.alloc (.cells #[.int .i64 g.rows, .int .i64 g.cols, .slice (some ⟨gu, 0, none⟩) g.es.length (g.es.length + 1)] 24)) gt (g.es ++ [markEd])) := hid (alloc_keep HET4.out _)
    have HEU5 : Hid (EdsAt (w4.alloc (.cells #[.int .i64 g.rows, .int .i64 g.cols, .slice (some ⟨gu, 0, none⟩) g.es.length (g.es.length + 1)] 24)) gu (reW g.es (ws.take 0) ++ [markEd])) := hid (by rw [List.take_zero, reW_nil]; exact alloc_keep HEU.out _)
    have HB5 := hid (HB4.out.alloc HB4.out.size (.cells #[.int .i64 g.rows, .int .i64 g.cols, .slice (some ⟨gu, 0, none⟩) g.es.length (g.es.length + 1)] 24))
    have HLU : Hid (gu < w4.heap.size) := hid (heap_lt HEU.out)
    generalize w4.alloc (.cells #[.int .i64 g.rows, .int .i64 g.cols, .slice (some ⟨gu, 0, none⟩) g.es.length (g.es.length + 1)] 24) = w5 at *
    generalize w4.heap.size = bu at *
    generalize w3.heap.size = bt at *
    clear HT4 HET4 HEU HB4
    go_wp2
    go_loopw [7] (fun i wr => ∃ k : Nat, k ≤ g.es.length ∧ k ≤ ws.length ∧ i = .int .i64 k ∧
      Hid (wr.heap[bt]? = some (.cells #[.int .i64 g.rows, .int .i64 g.cols, .slice (some ⟨gt, 0, none⟩) g.es.length (g.es.length + 1)] 24 (0, 0))) ∧
      Hid (wr.heap[bu]? = some (.cells #[.int .i64 g.rows, .int .i64 g.cols, .slice (some ⟨gu, 0, none⟩) g.es.length (g.es.length + 1)] 24 (0, 0))) ∧
      Hid (EdsAt wr gt (g.es ++ [markEd])) ∧ Hid (EdsAt wr gu (reW g.es (ws.take k) ++ [markEd])) ∧ Hid (Below w.heap.size w wr)) (fun i _ => g.es.length - (intOf i).toNat)
    case atStart => exact ⟨0, by omega, by omega, rfl, HT5, HU5, HET5, HEU5, HB5⟩
    case round =>
      clear HT5 HU5 HET5 HEU5 HB5
      obtain ⟨k, hk1, hk2, rfl, HT, HU, HET, HEU, HB⟩ := hrel
      have cu := row_cell HU.out 2 _ rfl
      by_cases hlt : k < g.es.length ∧ k < ws.length
      · -- L1
        obtain ⟨hlt1, hlt2⟩ := hlt
        obtain ⟨x, hx⟩ : ∃ x, g.es[k]? = some x := ⟨g.es[k], by simp [hlt1]⟩
        obtain ⟨n, hn⟩ : ∃ n, ws[k]? = some n := ⟨ws[k], by simp [hlt2]⟩
        obtain ⟨gw, o, rfl, hgw, hcw⟩ := (HRW.out.kept HB.out).get hn
        have cw : wr.cell? ⟨gw, o + k, none⟩ = some (.int .i64 n) := by
          have := hcw 0 (.int .i64 n) rfl
          rwa [Nat.one_mul, Nat.add_zero] at this
        have hgx : (reW g.es (ws.take k) ++ [markEd])[k]? = some x := by
          rw [List.getElem?_append_left (by rw [reW_len]; exact hlt1)]
          exact reW_get _ _ _ _ hx hk2
        have cx : wr.cell? ⟨gu, k * 3 + 2, none⟩ = some (.int .i64 x.w) := row_cell HEU.out _ _ (by rw [List.getElem?_toArray, Nat.mul_comm]; exact edsV_get hgx 2 _ rfl)
        have fx := free_row HEU.out (k * 3 + 2)
        have HEN : Hid (EdsAt (wr.setCell ⟨gu, k * 3 + 2, none⟩ (.int .i64 n)) gu (reW g.es (ws.take (k + 1)) ++ [markEd])) := hid (by
          rw [← reW_set g.es ws k x n hx hn, ← List.set_append_left _ _ (by rw [reW_len]; exact hlt1)]
          exact HEU.out.weight hgx n)
        clear hx hn hgx hcw hgw
        have hki1 : (k : Int) < (g.es.length : Int) := by omega
        have hki2 : (k : Int) < (ws.length : Int) := by omega
        go_upto_region 8 with fail
        go_region
        all_goals go_wp2
        go_roundw
        case rel => exact ⟨k + 1, by omega, by omega, by go_num, hid ((heap_setCell_ne (by have := HLT.out; have := HS3.out; omega)).trans HT.out), hid ((heap_setCell_ne (by have := HLU.out; omega)).trans HU.out), hid ((heap_setCell_ne (by have := HLT.out; omega)).trans HET.out), HEN, hid ((HB.out.setCell (by have := HLT.out; have := HS3.out; show w.heap.size ≤ gu; omega) _).drew)⟩
        case measure => simp [intOf]; omega
        -- /L1
      · have hend : g.es.length ≤ k ∨ ws.length ≤ k := by omega
        have HEV : Hid (EdsAt wr gu ((gW g ws).es ++ [markEd])) := hid (by have := HEU.out; rw [reW_all _ _ _ hend] at this; exact this)
        have hvU : grV (gW g ws) (some ⟨gu, 0, none⟩) (g.es.length + 1) = .agg #[.int .i64 g.rows, .int .i64 g.cols, .slice (some ⟨gu, 0, none⟩) g.es.length (g.es.length + 1)] := by unfold grV gW; rw [reW_len]
        have RT : ∀ w2 : World, EdsAt w2 gt (g.es ++ [markEd]) → RowsAt 3 edV w2 (some ⟨gt, 0, none⟩) g.es := fun w2 h => h.rows ⟨_, rfl⟩
        have RU : ∀ w2 : World, EdsAt w2 gu ((gW g ws).es ++ [markEd]) → RowsAt 3 edV w2 (some ⟨gu, 0, none⟩) (gW g ws).es := fun w2 h => h.rows ⟨_, rfl⟩
        have okT := twin_ok HOK.out hlen
        have okU := reW_ok HOK.out HWS.out hlen
        have CKT := hid (fun w2 h => check_any g _ _ okT w2 (RT w2 h))
        have CMT := hid (fun w2 h => most_any g _ _ okT w2 (RT w2 h))
        have CCT := hid (fun w2 h => cover_any g _ _ okT w2 (RT w2 h))
        have CPT := hid (fun w2 h => parts_any g _ _ okT w2 (RT w2 h))
        have CKU := hid (fun w2 h => hvU ▸ check_any (gW g ws) _ _ okU w2 (RU w2 h))
        have CMU := hid (fun w2 h => hvU ▸ most_any (gW g ws) _ _ okU w2 (RU w2 h))
        have CCU := hid (fun w2 h => hvU ▸ cover_any (gW g ws) _ _ okU w2 (RU w2 h))
        have CPU := hid (fun w2 h => hvU ▸ parts_any (gW g ws) _ _ okU w2 (RU w2 h))
        have CRU := hid (fun hc w2 h => hvU ▸ refused_any (gW g ws) _ _ okU hc w2 (RU w2 h))
        have HW := hid (WAt.mk HT.out HU.out HET.out HEV.out HB.out)
        clear HT HU HET HEV HB RT RU okT okU hvU HEU HR HRW HGT HS3 HLT HLU HWS HOK
        unfold grV at *
        have hend' : ((k : Int) < (g.es.length : Int) → ¬ (k : Int) < (ws.length : Int)) := by omega
        -- L2
        by_cases hk3 : (k : Int) < (g.es.length : Int)
        all_goals (
          try have hk4 : ¬ (k : Int) < (ws.length : Int) := hend' hk3
          go_wp2_with (refine wpList_load_w rfl 24 _ rfl _ rfl _ _ _ _ (HW.out.bt) Try.underlying24 rfl (info_gr) ?_)
          refine (CKT.out _ HW.out.et).mono ?_
          rintro e w6 ⟨rfl, hb6⟩
          have HW := hid (HW.out.next hb6)
          clear hb6
          by_cases k1 : chk g = true
          · have HV1 : Hid (chkV g = 0) := hid (by unfold chkV; rw [if_pos k1])
            rw [HV1.out]
            go_wp2_with (refine wpList_load_w rfl 24 _ rfl _ rfl _ _ _ _ (HW.out.bu) Try.underlying24 rfl (info_gr) ?_)
            refine (CKU.out _ HW.out.eu).mono ?_
            rintro e w7 ⟨rfl, hb7⟩
            have HW := hid (HW.out.next hb7)
            clear hb7
            by_cases k2 : chk (gW g ws) = true
            · have HV2 : Hid (chkV (gW g ws) = 0) := hid (by unfold chkV; rw [if_pos k2])
              rw [HV2.out]
              obtain ⟨L1, hL1⟩ : ∃ L, L = (mostAt g g.rows.toNat).l.map toP := ⟨_, rfl⟩
              obtain ⟨L2, hL2⟩ : ∃ L, L = nats (coverRows g) := ⟨_, rfl⟩
              obtain ⟨L3, hL3⟩ : ∃ L, L = nats (coverCols g) := ⟨_, rfl⟩
              obtain ⟨L4, hL4⟩ : ∃ L, L = (parts g).map nats := ⟨_, rfl⟩
              have HS1 := hid (samePairs_self L1 (by rw [hL1, List.length_map]; have := mostAt_len g g.rows.toNat; have := chk_size k1; omega))
              have HS2 := hid (sameInts_self L2 (by rw [hL2, nats_len]; have := rowsTo_len (visOf g g.rows.toNat) g.rows.toNat; have := chk_size k1; unfold coverRows; omega))
              have HS3 := hid (sameInts_self L3 (by rw [hL3, nats_len]; have := colsTo_len (visOf g g.rows.toNat) g.cols.toNat; have := chk_size k1; unfold coverCols; omega))
              have hpl := parts_len g k1
              rw [← hL4] at hpl
              have HS4 := hid (sameIntLists_self L4 64 hpl.1 (by omega) hpl.2)
              have HL1 := hid hL1
              have HL2 := hid hL2
              have HL3 := hid hL3
              have HL4 := hid hL4
              clear hpl hL1 hL2 hL3 hL4
              have K1 := hid k1
              have K2 := hid k2
              clear k1 k2
              go_wp2_with (refine wpList_load_w rfl 24 _ rfl _ rfl _ _ _ _ (HW.out.bt) Try.underlying24 rfl (info_gr) ?_)
              refine (CMT.out _ HW.out.et).mono ?_
              rintro e w8 ⟨hb8, h8⟩
              obtain ⟨_, v8, rfl, ho8⟩ := h8.resolve_left (fun h => by rw [K1.out] at h; cases h.1)
              obtain ⟨A1, d1, rfl, hl1, hC1⟩ := C_pairs' ho8 HL1.out
              have HC1 := hid hC1
              have HW := hid (HW.out.next hb8)
              clear h8 ho8 hb8 hC1
              go_wp2_with (refine wpList_load_w rfl 24 _ rfl _ rfl _ _ _ _ (HW.out.bu) Try.underlying24 rfl (info_gr) ?_)
              refine (CMU.out _ HW.out.eu).mono ?_
              rintro e w9 ⟨hb9, h9⟩
              obtain ⟨_, v9, rfl, ho9⟩ := h9.resolve_left (fun h => by rw [K2.out] at h; cases h.1)
              rw [most_reW] at ho9
              obtain ⟨A2, d2, rfl, hl2, hC2⟩ := C_pairs' ho9 HL1.out
              have HC1 := hid (Kd.C_below HC1.out hb9)
              have HC2 := hid hC2
              have HW := hid (HW.out.next hb9)
              clear h9 ho9 hb9 hC2
              go_wp2_with (refine wpList_load_w rfl 24 _ rfl _ rfl _ _ _ _ (HW.out.bt) Try.underlying24 rfl (info_gr) ?_)
              refine (CCT.out _ HW.out.et).mono ?_
              rintro e w10 ⟨hb10, h10⟩
              obtain ⟨_, v10, v11, rfl, ho10, ho11, _⟩ := h10.resolve_left (fun h => by rw [K1.out] at h; cases h.1)
              obtain ⟨A3, d3, rfl, hl3, hC3⟩ := C_nats' ho10 HL2.out
              obtain ⟨A4, d4, rfl, hl4, hC4⟩ := C_nats' ho11 HL3.out
              have HC1 := hid (Kd.C_below HC1.out hb10)
              have HC2 := hid (Kd.C_below HC2.out hb10)
              have HC3 := hid hC3
              have HC4 := hid hC4
              have HW := hid (HW.out.next hb10)
              clear h10 ho10 ho11 hb10 hC3 hC4
              go_wp2_with (refine wpList_load_w rfl 24 _ rfl _ rfl _ _ _ _ (HW.out.bu) Try.underlying24 rfl (info_gr) ?_)
              refine (CCU.out _ HW.out.eu).mono ?_
              rintro e w11 ⟨hb11, h11⟩
              obtain ⟨_, v12, v13, rfl, ho12, ho13, _⟩ := h11.resolve_left (fun h => by rw [K2.out] at h; cases h.1)
              rw [rows_reW] at ho12
              rw [cols_reW] at ho13
              obtain ⟨A5, d5, rfl, hl5, hC5⟩ := C_nats' ho12 HL2.out
              obtain ⟨A6, d6, rfl, hl6, hC6⟩ := C_nats' ho13 HL3.out
              have HC1 := hid (Kd.C_below HC1.out hb11)
              have HC2 := hid (Kd.C_below HC2.out hb11)
              have HC3 := hid (Kd.C_below HC3.out hb11)
              have HC4 := hid (Kd.C_below HC4.out hb11)
              have HC5 := hid hC5
              have HC6 := hid hC6
              have HW := hid (HW.out.next hb11)
              clear h11 ho12 ho13 hb11 hC5 hC6
              go_wp2_with (refine wpList_load_w rfl 24 _ rfl _ rfl _ _ _ _ (HW.out.bt) Try.underlying24 rfl (info_gr) ?_)
              refine (CPT.out _ HW.out.et).mono ?_
              rintro e w12 ⟨v14, vs14, rfl, ho14, hb12⟩
              rw [if_pos K1.out] at ho14
              obtain ⟨A7, d7, rfl, hl7, hC7⟩ := C_lists' ho14 HL4.out
              rw [HV1.out]
              have HC1 := hid (Kd.C_below HC1.out hb12)
              have HC2 := hid (Kd.C_below HC2.out hb12)
              have HC3 := hid (Kd.C_below HC3.out hb12)
              have HC4 := hid (Kd.C_below HC4.out hb12)
              have HC5 := hid (Kd.C_below HC5.out hb12)
              have HC6 := hid (Kd.C_below HC6.out hb12)
              have HC7 := hid hC7
              have HW := hid (HW.out.next hb12)
              clear ho14 hb12 hC7
              go_wp2_with (refine wpList_load_w rfl 24 _ rfl _ rfl _ _ _ _ (HW.out.bu) Try.underlying24 rfl (info_gr) ?_)
              refine (CPU.out _ HW.out.eu).mono ?_
              rintro e w13 ⟨v15, vs15, rfl, ho15, hb13⟩
              rw [if_pos K2.out, parts_reW] at ho15
              obtain ⟨A8, d8, rfl, hl8, hC8⟩ := C_lists' ho15 HL4.out
              rw [HV2.out]
              have HC1 := hid (Kd.C_below HC1.out hb13)
              have HC2 := hid (Kd.C_below HC2.out hb13)
              have HC3 := hid (Kd.C_below HC3.out hb13)
              have HC4 := hid (Kd.C_below HC4.out hb13)
              have HC5 := hid (Kd.C_below HC5.out hb13)
              have HC6 := hid (Kd.C_below HC6.out hb13)
              have HC7 := hid (Kd.C_below HC7.out hb13)
              have HC8 := hid hC8
              have HW := hid (HW.out.next hb13)
              clear ho15 hb13 hC8
              clear CKT CMT CCT CPT CKU CMU CCU CPU CRU HL1 HL2 HL3 HL4
              go_wp2_with fail
              refine (cabstandlaw01_SamePairs.calls _ A1 d1 L1 A2 d2 L1 true _ HC1.out hl1 HC2.out hl2 HS1.out).mono ?_
              rintro e w14 ⟨rfl, hd14⟩
              have hb14 := hd14.below
              have HC3 := hid (Kd.C_below HC3.out hb14)
              have HC4 := hid (Kd.C_below HC4.out hb14)
              have HC5 := hid (Kd.C_below HC5.out hb14)
              have HC6 := hid (Kd.C_below HC6.out hb14)
              have HC7 := hid (Kd.C_below HC7.out hb14)
              have HC8 := hid (Kd.C_below HC8.out hb14)
              have HW := hid (HW.out.next hb14)
              clear hd14 hb14 HC1 HC2 HS1
              go_wp2_with fail
              refine (cabstandlaw01_SameInts.calls _ A3 d3 L2 A5 d5 L2 true _ HC3.out hl3 HC5.out hl5 HS2.out).mono ?_
              rintro e w15 ⟨rfl, hd15⟩
              have hb15 := hd15.below
              have HC4 := hid (Kd.C_below HC4.out hb15)
              have HC6 := hid (Kd.C_below HC6.out hb15)
              have HC7 := hid (Kd.C_below HC7.out hb15)
              have HC8 := hid (Kd.C_below HC8.out hb15)
              have HW := hid (HW.out.next hb15)
              clear hd15 hb15 HC3 HC5 HS2
              go_wp2_with fail
              refine (cabstandlaw01_SameInts.calls _ A4 d4 L3 A6 d6 L3 true _ HC4.out hl4 HC6.out hl6 HS3.out).mono ?_
              rintro e w16 ⟨rfl, hd16⟩
              have hb16 := hd16.below
              have HC7 := hid (Kd.C_below HC7.out hb16)
              have HC8 := hid (Kd.C_below HC8.out hb16)
              have HW := hid (HW.out.next hb16)
              clear hd16 hb16 HC4 HC6 HS3
              go_wp2_with fail
              refine (cabstandlaw01_SameIntLists.calls _ A7 d7 L4 A8 d8 L4 true _ HC7.out hl7 HC8.out hl8 HS4.out).mono ?_
              rintro e w17 ⟨rfl, hd17⟩
              have HW := hid (HW.out.next hd17.below)
              clear hd17 HC7 HC8 HS4
              go_wp2
              go_ret
              exact ⟨rfl, HW.out.below⟩
            · have HV2 : Hid (chkV (gW g ws) = 170) := hid (by unfold chkV; rw [if_neg k2])
              rw [HV2.out]
              have K2 : Hid (chk (gW g ws) = false) := hid (by simpa using k2)
              clear k1 k2
              go_wp2_with (refine wpList_load_w rfl 24 _ rfl _ rfl _ _ _ _ (HW.out.bu) Try.underlying24 rfl (info_gr) ?_)
              refine (CKU.out _ HW.out.eu).mono ?_
              rintro e w8 ⟨rfl, hb8⟩
              rw [HV2.out]
              have HW := hid (HW.out.next hb8)
              clear hb8
              go_wp2_with (refine wpList_load_w rfl 24 _ rfl _ rfl _ _ _ _ (HW.out.bu) Try.underlying24 rfl (info_gr) ?_)
              refine (CRU.out K2.out _ HW.out.eu).mono ?_
              rintro e w9 ⟨rfl, hb9⟩
              have HW := hid (HW.out.next hb9)
              clear hb9
              go_wp2
              go_ret
              exact ⟨rfl, HW.out.below⟩
          · have HV1 : Hid (chkV g = 170) := hid (by unfold chkV; rw [if_neg k1])
            rw [HV1.out]
            clear k1
            go_wp2_with (refine wpList_load_w rfl 24 _ rfl _ rfl _ _ _ _ (HW.out.bu) Try.underlying24 rfl (info_gr) ?_)
            refine (CKU.out _ HW.out.eu).mono ?_
            rintro e w7 ⟨rfl, hb7⟩
            have HW := hid (HW.out.next hb7)
            clear hb7
            by_cases k2 : chk (gW g ws) = true
            · have HV2 : Hid (chkV (gW g ws) = 0) := hid (by unfold chkV; rw [if_pos k2])
              rw [HV2.out]
              clear k2
              go_wp2
              go_ret
              exact ⟨rfl, HW.out.below⟩
            · have HV2 : Hid (chkV (gW g ws) = 170) := hid (by unfold chkV; rw [if_neg k2])
              rw [HV2.out]
              have K2 : Hid (chk (gW g ws) = false) := hid (by simpa using k2)
              clear k2
              go_wp2_with (refine wpList_load_w rfl 24 _ rfl _ rfl _ _ _ _ (HW.out.bu) Try.underlying24 rfl (info_gr) ?_)
              refine (CRU.out K2.out _ HW.out.eu).mono ?_
              rintro e w9 ⟨rfl, hb9⟩
              have HW := hid (HW.out.next hb9)
              clear hb9
              go_wp2
              go_ret
              exact ⟨rfl, HW.out.below⟩)
        -- /L2
end Go.Proofs.Ytjhomkdnhdhffaa.PCoverWeights
