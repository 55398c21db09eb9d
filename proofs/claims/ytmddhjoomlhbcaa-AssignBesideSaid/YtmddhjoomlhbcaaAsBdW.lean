/- The walk of AssignBeside. -/
import Derived.Test.YtmddhjoomlhbcaaAsHb
import Derived.Test.YtmddhjoomlhbcaaAsTb
import Derived.Test.YtmddhjoomlhbcaaAsBe2
import Derived.Deep.RegionHeldLaw
import Derived.Maps.AppendAt
import Derived.Deep.AppendLies
namespace Go.Proofs.Ytmddhjoomlhbcaa
open Go.RowKit

set_option maxRecDepth 100000 in
set_option maxHeartbeats 8000000 in
theorem abeside_any (g : Gr) (a : Option Addr) (cap : Nat) (hok : GrOk g cap) (h : Gr) (a2 : Option Addr) (cap2 : Nat) (hok2 : GrOk h cap2) (w : World) (hr : RowsAt 3 edV w a g.es) (hr2 : RowsAt 3 edV w a2 h.es) :
    Calls Try.prog 11 #[grV g a cap, grV h a2 cap2] w fun e w' => e = .returned (.bool true) ∧ Below w.heap.size w w' := by
  have HR := hid hr
  have HRh := hid hr2
  have HOK := hid hok
  have HOKh := hid hok2
  clear hr hr2 hok hok2
  unfold grV at *
  go_enter Try.func11, Try.ntmps11
  go_upto_region 1 with fail
  have HS := hid ((GBx.start (cap := cap) HR.out).kept (below_new _ (.cells #[.int .i64 h.rows, .int .i64 h.cols, .slice a2 h.es.length cap2] 24)))
  have HT : Hid (GBx w ((w.alloc (.cells #[.int .i64 g.rows, .int .i64 g.cols, .slice a g.es.length cap] 24)).alloc (.cells #[.int .i64 h.rows, .int .i64 h.cols, .slice a2 h.es.length cap2] 24)) h a2 cap2 (w.heap.size + 1)) := hid ⟨heap_2 _ _ _, (HRh.out.alloc _).alloc _, below_tr (below_new _ _) (below_new _ _)⟩
  generalize (w.alloc (.cells #[.int .i64 g.rows, .int .i64 g.cols, .slice a g.es.length cap] 24)).alloc (.cells #[.int .i64 h.rows, .int .i64 h.cols, .slice a2 h.es.length cap2] 24) = w1 at *
  obtain ⟨kb, hkb⟩ : ∃ kb, kb = w.heap.size + 1 := ⟨_, rfl⟩
  rw [← hkb] at HT ⊢
  obtain ⟨gb, hgb⟩ : ∃ gb, gb = w.heap.size := ⟨_, rfl⟩
  rw [← hgb] at HS ⊢
  clear hgb hkb
  go_wp2_with (refine wpList_load_w rfl 24 _ rfl _ rfl _ _ _ _ (HS.out.blk) Try.underlying24 rfl (info_gr) ?_)
  refine (may_any g a cap HOK.out w1 HS.out.es).mono ?_
  rintro e w2 ⟨rfl, hb⟩
  have HS2 := hid (HS.out.kept hb)
  have HT2 := hid (HT.out.kept hb)
  clear hb HS HT
  by_cases hc : chk g = true
  case neg =>
    have hc' : chk g = false := by simpa using hc
    rw [hc']
    clear hc hc'
    go_wp2_with fail
    refine (lives_any _).mono ?_
    rintro e wl ⟨rfl, hb⟩
    have HB := hid (below_tr (HS2.out.below) hb)
    clear hb
    go_wp2
    go_ret
    exact ⟨rfl, HB.out⟩
  rw [hc]
  have HC := hid hc
  clear hc
  go_wp2_with (refine wpList_load_w rfl 24 _ rfl _ rfl _ _ _ _ (HT2.out.blk) Try.underlying24 rfl (info_gr) ?_)
  refine (may_any h a2 cap2 HOKh.out w2 HT2.out.es).mono ?_
  rintro e w3 ⟨rfl, hb⟩
  have HS3 := hid (HS2.out.kept hb)
  have HT3 := hid (HT2.out.kept hb)
  clear hb HS2 HT2
  by_cases hc : chk h = true
  case neg =>
    have hc' : chk h = false := by simpa using hc
    rw [hc']
    clear hc hc'
    go_wp2_with fail
    refine (lives_any _).mono ?_
    rintro e wl ⟨rfl, hb⟩
    have HB := hid (below_tr (HS3.out.below) hb)
    clear hb
    go_wp2
    go_ret
    exact ⟨rfl, HB.out⟩
  rw [hc]
  have HCh := hid hc
  clear hc
  have hsz := BestAns.sizes HC.out
  obtain ⟨R, hR⟩ : ∃ R, R = g.rows.toNat := ⟨_, rfl⟩
  obtain ⟨C, hC⟩ : ∃ C, C = g.cols.toNat := ⟨_, rfl⟩
  rw [← hR, ← hC] at hsz
  obtain ⟨hR64, hC64, hRr, hCc⟩ := hsz
  have HRr := hid hRr
  have HCc := hid hCc
  have HRC := hid (And.intro hR hC)
  clear hRr hCc hR hC
  have hsz := BestAns.sizes HCh.out
  obtain ⟨S, hR⟩ : ∃ R, R = h.rows.toNat := ⟨_, rfl⟩
  obtain ⟨D, hC⟩ : ∃ C, C = h.cols.toNat := ⟨_, rfl⟩
  rw [← hR, ← hC] at hsz
  obtain ⟨hS64, hD64, hRr, hCc⟩ := hsz
  have HSr := hid hRr
  have HDc := hid hCc
  have HSD := hid (And.intro hR hC)
  clear hRr hCc hR hC
  have b0 := HS3.out.rows HRr.out
  have b1 := HS3.out.cols HCc.out
  have d0 := HT3.out.rows HSr.out
  have d1 := HT3.out.cols HDc.out
  by_cases hRS : 64 < (R : Int) + (S : Int)
  · have hq : decide (64 < (R : Int) + (S : Int)) = true := decide_eq_true hRS
    go_wp2_with fail
    refine (lives_any _).mono ?_
    rintro e wl ⟨rfl, hb⟩
    have HB := hid (below_tr (HS3.out.below) hb)
    clear hb
    go_wp2
    go_ret
    exact ⟨rfl, HB.out⟩
  have hq1 : decide (64 < (R : Int) + (S : Int)) = false := decide_eq_false hRS
  by_cases hCD : 64 < (C : Int) + (D : Int)
  · have hq : decide (64 < (C : Int) + (D : Int)) = true := decide_eq_true hCD
    go_wp2_with fail
    refine (lives_any _).mono ?_
    rintro e wl ⟨rfl, hb⟩
    have HB := hid (below_tr (HS3.out.below) hb)
    clear hb
    go_wp2
    go_ret
    exact ⟨rfl, HB.out⟩
  have hq2 : decide (64 < (C : Int) + (D : Int)) = false := decide_eq_false hCD
  go_upto_region 4 with fail
  have HH0 := hid (HBx.start w3 ((R : Int) + (S : Int)) ((C : Int) + (D : Int)))
  generalize w3.alloc (.cells #[.int .i64 ((R : Int) + (S : Int)), .int .i64 ((C : Int) + (D : Int)), .slice none 0 0] 24) = w4 at *
  obtain ⟨hb, hhb⟩ : ∃ hb, hb = w3.heap.size := ⟨_, rfl⟩
  rw [← hhb] at HH0 ⊢
  have HGH : Hid (gb < hb ∧ kb < hb) := hid (by rw [hhb]; exact ⟨heap_lt HS3.out.blk, heap_lt HT3.out.blk⟩)
  generalize hb + 1 = B at *
  have hRSi : (R : Int) + (S : Int) ≤ 64 := by omega
  have hCDi : (C : Int) + (D : Int) ≤ 64 := by omega
  clear hhb b0 b1 d0 d1 hq1 hq2 hRS hCD
  have HES := hid (es_len HC.out)
  have HESh := hid (es_len HCh.out)
  have c2 := (HS3.out.kept HH0.out.below).list
  have d2 := HH0.out.list
  have HEG := hid ((HS3.out.kept HH0.out.below).es)
  have HSZ : Hid (B ≤ w4.heap.size) := hid HH0.out.ord.2.2
  have HFIN := hid (fun (v5 : Value) (w5 : World) ho hg => HH0.out.grow (m := g.es) (n := g.es.length) (xs := flatV edV g.es) (v2 := v5) (w4 := w5) (Below.refl _ _) (by simp) rfl ho hg)
  obtain ⟨i1, hi1, hz10, hz11, hz12⟩ := info_parts info_edge3
  go_wp2_with (at_builtin; refine wpList_append_list rfl _ _ 22 rfl (f := edV) B 47 i1 (.agg #[.int .i64 0, .int .i64 0, .int .i64 0]) 3 24 Try.underlying22 hi1 hz10 hz11 hz12 rfl (by decide) (.slice none 0 0) 0 [] rfl (ownsRow_nil _ _ _ _) (fun _ => rfl) a cap g.es rfl HEG.out ed_one ?d3 ?d4 HSZ.out ?_)
  case d3 => have := HES.out; unfold maxLen; omega
  case d4 => have := HES.out; omega
  intro v5 w5 hown5 hgrow5
  obtain ⟨a5, p5, rfl⟩ := ownsRow_shape hown5
  have hfin := HFIN.out _ w5 hown5 hgrow5
  have c5 := row_cell hfin.1 2 (.slice none 0 0) rfl
  have f5 := free_row hfin.1 2
  have HG5 := hid hfin.2
  clear hown5 hgrow5 hfin HFIN HSZ d2 c2 HH0 HEG i1 hi1 hz10 hz11 hz12
  go_wp2
  go_loopw [6] (fun i wr => ∃ (j : Nat) (pv : Value) (L : List Ed), j ≤ h.es.length ∧ i = .int .i64 j ∧ Hid (HBx w3 wr hb B ((R : Int) + (S : Int)) ((C : Int) + (D : Int)) pv L) ∧ Hid (L = g.es ++ (h.es.take j).map fun e => ⟨g.rows + e.r, g.cols + e.c, e.w⟩)) (fun i _ => h.es.length - (intOf i).toNat)
  case atStart => exact ⟨0, _, _, by omega, rfl, HG5, hid (by simp)⟩
  case round =>
    clear HG5 c5 f5
    obtain ⟨j, pv, L, hj, rfl, HH, HL⟩ := hrel
    have HTr := hid (HT3.out.kept HH.out.below)
    have d2 := HTr.out.list
    have hj64 : (j : Int) ≤ 4096 := by have := HESh.out; omega
    by_cases hlt : j < h.es.length
    · -- L1
      have hki : (j : Int) < (h.es.length : Int) := by omega
      obtain ⟨x, hx⟩ : ∃ x, h.es[j]? = some x := ⟨h.es[j], by simp [hlt]⟩
      have hin := chk_in HCh.out (List.mem_of_getElem? hx)
      have hxr : 0 ≤ x.r ∧ x.r ≤ 64 := by have := hin.1; have := HSr.out; omega
      have hxc : 0 ≤ x.c ∧ x.c ≤ 64 := by have := hin.2.1; have := HDc.out; omega
      have HTK : Hid ((h.es.take (j + 1)).map (fun e => (⟨g.rows + e.r, g.cols + e.c, e.w⟩ : Ed)) = (h.es.take j).map (fun e => (⟨g.rows + e.r, g.cols + e.c, e.w⟩ : Ed)) ++ [⟨(R : Int) + x.r, (C : Int) + x.c, x.w⟩]) := hid (by
        obtain ⟨h1, h2⟩ := List.getElem?_eq_some_iff.1 hx
        rw [List.take_succ_eq_append_getElem h1, h2, List.map_append, HRr.out, HCc.out]; rfl)
      obtain ⟨eg, eo, haa, _, hcc⟩ := HTr.out.es.get hx
      have HCE : Hid (CellsAt wr eg (eo + j * 3) #[.int .i64 x.r, .int .i64 x.c, .int .i64 x.w]) := hid (by rw [Nat.mul_comm]; exact hcc)
      subst haa
      clear hx hcc hin
      go_upto_region 9 with (refine wpList_load_cells rfl 47 _ rfl _ _ rfl _ _ HCE.out Try.underlying47 rfl info_ed ?_)
      have hb9 := below_new wr (.cells #[.int .i64 x.r, .int .i64 x.c, .int .i64 x.w] 47)
      have HX10 := hid (heap_alloc_new wr (.cells #[.int .i64 x.r, .int .i64 x.c, .int .i64 x.w] 47))
      have HH10 := hid (HH.out.kept hb9)
      have HSz := hid ((HS3.out.kept HH.out.below).kept hb9)
      clear HH HTr HCE d2 hb9
      generalize wr.alloc (.cells #[.int .i64 x.r, .int .i64 x.c, .int .i64 x.w] 47) = wz at *
      generalize wr.heap.size = eb at *
      have x0 := row_cell HX10.out 0 (.int .i64 x.r) rfl
      have x1 := row_cell HX10.out 1 (.int .i64 x.c) rfl
      have x2 := row_cell HX10.out 2 (.int .i64 x.w) rfl
      have b0 := HSz.out.rows HRr.out
      have b1 := HSz.out.cols HCc.out
      have HLL : Hid (L.length ≤ 9000) := hid (by rw [HL.out, List.length_append, List.length_map, List.length_take]; have := HES.out; have := HESh.out; omega)
      have HOW := hid (HH10.out.ownAt (below_new wz (.cells #[.int .i64 ((R : Int) + x.r), .int .i64 ((C : Int) + x.c), .int .i64 x.w] 47)))
      have HSZ : Hid (B ≤ (wz.alloc (.cells #[.int .i64 ((R : Int) + x.r), .int .i64 ((C : Int) + x.c), .int .i64 x.w] 47)).heap.size) := hid (by rw [alloc_size]; have := HH10.out.ord; omega)
      have HFIN := hid (fun (v5 : Value) (w5 : World) ho hg => HH10.out.grow (m := [⟨(R : Int) + x.r, (C : Int) + x.c, x.w⟩]) (v2 := v5) (w4 := w5) (below_new wz (.cells #[.int .i64 ((R : Int) + x.r), .int .i64 ((C : Int) + x.c), .int .i64 x.w] 47)) rfl rfl ho hg)
      obtain ⟨i1, hi1, hz10, hz11, hz12⟩ := info_parts info_edge3
      have h2 := HH10.out.list
      go_wp2_with (at_builtin; refine wpList_append_own_at _ rfl _ _ 22 rfl B 47 i1 (.agg #[.int .i64 0, .int .i64 0, .int .i64 0]) 3 24 Try.underlying22 hi1 hz10 hz11 hz12 rfl (by decide) pv L.length (flatV edV L) rfl HOW.out ⟨wz.heap.size, 0, none⟩ 1 1 [.int .i64 ((R : Int) + x.r), .int .i64 ((C : Int) + x.c), .int .i64 x.w] rfl rfl (cells_new _ _ _) (by simp [Value.oneCell']) ?d3 ?d4 HSZ.out ?_)
      case d3 => have := HLL.out; unfold maxLen; omega
      case d4 => have := HLL.out; omega
      intro v5 w5 hown5 hgrow5 _ _
      obtain ⟨a5, p5, rfl⟩ := ownsRow_shape hown5
      have hfin := HFIN.out _ w5 hown5 hgrow5
      have c5 := row_cell hfin.1 2 pv rfl
      have f5 := free_row hfin.1 2
      have HG5 := hid hfin.2
      clear hown5 hgrow5 hfin HFIN HOW HSZ h2 x0 x1 x2 b0 b1
      go_wp2
      go_roundw
      case rel => exact ⟨j + 1, _, _, by omega, by go_num, HG5, hid (by rw [HTK.out, ← List.append_assoc, ← HL.out])⟩
      case measure => simp [intOf]; omega
      -- /L1
    · -- L2
      obtain rfl : j = h.es.length := by omega
      have hkr : ¬ ((h.es.length : Int) < (h.es.length : Int)) := by omega
      rw [List.take_length] at HL
      obtain ⟨gx, hgx⟩ : ∃ gx, gx = beside g h := ⟨_, rfl⟩
      have hrs : g.rows + h.rows ≤ 64 := by rw [HRr.out, HSr.out]; exact hRSi
      have hcs : g.cols + h.cols ≤ 64 := by rw [HCc.out, HDc.out]; exact hCDi
      have HSUM := hid (And.intro hrs hcs)
      have hcx : chk gx = true := by rw [hgx]; exact beside_chk HC.out HCh.out hrs hcs
      obtain ⟨Ax, capx, rfl, hx1, hx2, hx3⟩ := HH.out.graph (gx := gx) (by rw [hgx]; show g.rows + h.rows = _; rw [HRr.out, HSr.out]) (by rw [hgx]; show g.cols + h.cols = _; rw [HCc.out, HDc.out]) (by rw [hgx]; exact HL.out.symm)
      have HGX := hid hgx
      have HCX := hid hcx
      have HOX := hid (gr_ok hcx hx1 hx2)
      have HX := hid hx3
      have HRx : Hid (gx.rows.toNat = R + S ∧ gx.cols.toNat = C + D) := hid (by
        have h1 : gx.rows = (R : Int) + (S : Int) := by rw [hgx]; show g.rows + h.rows = _; rw [HRr.out, HSr.out]
        have h2 : gx.cols = (C : Int) + (D : Int) := by rw [hgx]; show g.cols + h.cols = _; rw [HCc.out, HDc.out]
        omega)
      have HS := hid (HS3.out.kept HH.out.below)
      have HT := hid HTr.out
      clear hj hlt hgx hcx hx1 hx2 hx3 HH hrs hcs HTr HS3 HT3
      go_wp2_with (refine wpList_load_w rfl 24 _ rfl _ rfl _ _ _ _ (HS.out.blk) Try.underlying24 rfl (info_gr) ?_)
      refine (lbest_any g a cap HOK.out (Nat.le_trans (es_len HC.out) (by omega)) _ HS.out.es).mono ?_
      rintro e u1 ⟨hb, hcase⟩
      have HS' := hid (HS.out.kept hb)
      have HT' := hid (HT.out.kept hb)
      have HX' := hid (HX.out.kept hb)
      clear HS HT HX
      have HS := hid HS'.out
      clear HS'
      have HT := hid HT'.out
      clear HT'
      have HX := hid HX'.out
      clear HX'
      clear hb d2 hkr
      rcases hcase with ⟨hc, _⟩ | ⟨_, tt1, y1, z1, v1, ha, rfl, hcv⟩
      · rw [HC.out] at hc; cases hc
      have HA1 := hid ha
      rw [← HRC.out.1, ← HRC.out.2] at hcv
      obtain ⟨ps1, hps⟩ : ∃ ps, ps = prsTo tt1 (R) := ⟨_, rfl⟩
      obtain ⟨ys1, hys⟩ : ∃ ys, ys = y1.take (R) := ⟨_, rfl⟩
      obtain ⟨zs1, hzs⟩ : ∃ zs, zs = z1.take (C) := ⟨_, rfl⟩
      rw [← hps, ← hys, ← hzs] at hcv
      generalize val (wG g) (upTo (g).rows.toNat tt1) (g).rows.toNat = val1 at *
      have HPS1 := hid hps
      have HYS1 := hid hys
      have HZS1 := hid hzs
      have HCV1 := hid hcv
      obtain ⟨Ap1, cp1, Ay1, cy1, Az1, cz1, rfl, _, _, _, r1, r2, r3⟩ := hcv.at_
      have K1 := hid (CBx.start (cp := cp1) (cy := cy1) (cz := cz1) r1 r2 r3)
      have hb := below_new u1 (.cells #[.slice Ap1 ps1.length cp1, .slice Ay1 ys1.length cy1, .slice Az1 zs1.length cz1] 39)
      have HCV1' := hid (HCV1.out.kept' hb)
      clear HCV1
      have HCV1 := hid HCV1'.out
      clear HCV1'
      have HS' := hid (HS.out.kept hb)
      have HT' := hid (HT.out.kept hb)
      have HX' := hid (HX.out.kept hb)
      clear hb ha hps hys hzs hcv r1 r2 r3
      clear HS HT HX
      have HS := hid HS'.out
      clear HS'
      have HT := hid HT'.out
      clear HT'
      have HX := hid HX'.out
      clear HX'
      go_upto_region 11 with fail
      generalize u1.alloc (.cells #[.slice Ap1 ps1.length cp1, .slice Ay1 ys1.length cy1, .slice Az1 zs1.length cz1] 39) = v1 at *
      generalize u1.heap.size = k1 at *
      go_wp2_with (refine wpList_load_w rfl 24 _ rfl _ rfl _ _ _ _ (HT.out.blk) Try.underlying24 rfl (info_gr) ?_)
      refine (lbest_any h a2 cap2 HOKh.out (Nat.le_trans (es_len HCh.out) (by omega)) _ HT.out.es).mono ?_
      rintro e u2 ⟨hb, hcase⟩
      have HS' := hid (HS.out.kept hb)
      have HT' := hid (HT.out.kept hb)
      have HX' := hid (HX.out.kept hb)
      have K1' := hid (K1.out.kept hb)
      clear HS HT HX K1
      have HS := hid HS'.out
      clear HS'
      have HT := hid HT'.out
      clear HT'
      have HX := hid HX'.out
      clear HX'
      have K1 := hid K1'.out
      clear K1'
      clear hb
      rcases hcase with ⟨hc, _⟩ | ⟨_, tt2, y2, z2, v2, ha, rfl, hcv⟩
      · rw [HCh.out] at hc; cases hc
      have HA2 := hid ha
      rw [← HSD.out.1, ← HSD.out.2] at hcv
      obtain ⟨ps2, hps⟩ : ∃ ps, ps = prsTo tt2 (S) := ⟨_, rfl⟩
      obtain ⟨ys2, hys⟩ : ∃ ys, ys = y2.take (S) := ⟨_, rfl⟩
      obtain ⟨zs2, hzs⟩ : ∃ zs, zs = z2.take (D) := ⟨_, rfl⟩
      rw [← hps, ← hys, ← hzs] at hcv
      generalize val (wG h) (upTo (h).rows.toNat tt2) (h).rows.toNat = val2 at *
      have HPS2 := hid hps
      have HYS2 := hid hys
      have HZS2 := hid hzs
      have HCV2 := hid hcv
      obtain ⟨Ap2, cp2, Ay2, cy2, Az2, cz2, rfl, _, _, _, r1, r2, r3⟩ := hcv.at_
      have K2 := hid (CBx.start (cp := cp2) (cy := cy2) (cz := cz2) r1 r2 r3)
      have hb := below_new u2 (.cells #[.slice Ap2 ps2.length cp2, .slice Ay2 ys2.length cy2, .slice Az2 zs2.length cz2] 39)
      have HCV2' := hid (HCV2.out.kept' hb)
      clear HCV2
      have HCV2 := hid HCV2'.out
      clear HCV2'
      have HS' := hid (HS.out.kept hb)
      have HT' := hid (HT.out.kept hb)
      have HX' := hid (HX.out.kept hb)
      have K1' := hid (K1.out.kept hb)
      clear hb ha hps hys hzs hcv r1 r2 r3
      clear HS HT HX K1
      have HS := hid HS'.out
      clear HS'
      have HT := hid HT'.out
      clear HT'
      have HX := hid HX'.out
      clear HX'
      have K1 := hid K1'.out
      clear K1'
      go_upto_region 12 with fail
      generalize u2.alloc (.cells #[.slice Ap2 ps2.length cp2, .slice Ay2 ys2.length cy2, .slice Az2 zs2.length cz2] 39) = v2 at *
      generalize u2.heap.size = k2 at *
      go_wp2_with (refine wpList_load_w rfl 24 _ rfl _ rfl _ _ _ _ (HX.out.blk) Try.underlying24 rfl (info_gr) ?_)
      refine (lbest_any gx Ax capx HOX.out (Nat.le_trans (es_len HCX.out) (by omega)) _ HX.out.es).mono ?_
      rintro e u3 ⟨hb, hcase⟩
      have HS' := hid (HS.out.kept hb)
      have HT' := hid (HT.out.kept hb)
      have HX' := hid (HX.out.kept hb)
      have K1' := hid (K1.out.kept hb)
      have K2' := hid (K2.out.kept hb)
      clear HS HT HX K1 K2
      have HS := hid HS'.out
      clear HS'
      have HT := hid HT'.out
      clear HT'
      have HX := hid HX'.out
      clear HX'
      have K1 := hid K1'.out
      clear K1'
      have K2 := hid K2'.out
      clear K2'
      clear hb
      rcases hcase with ⟨hc, _⟩ | ⟨_, tt3, y3, z3, v3, ha, rfl, hcv⟩
      · rw [HCX.out] at hc; cases hc
      have HA3 := hid ha
      rw [HRx.out.1, HRx.out.2] at hcv
      obtain ⟨ps3, hps⟩ : ∃ ps, ps = prsTo tt3 (R + S) := ⟨_, rfl⟩
      obtain ⟨ys3, hys⟩ : ∃ ys, ys = y3.take (R + S) := ⟨_, rfl⟩
      obtain ⟨zs3, hzs⟩ : ∃ zs, zs = z3.take (C + D) := ⟨_, rfl⟩
      rw [← hps, ← hys, ← hzs] at hcv
      generalize val (wG gx) (upTo (gx).rows.toNat tt3) (gx).rows.toNat = val3 at *
      have HPS3 := hid hps
      have HYS3 := hid hys
      have HZS3 := hid hzs
      have HCV3 := hid hcv
      obtain ⟨Ap3, cp3, Ay3, cy3, Az3, cz3, rfl, _, _, _, r1, r2, r3⟩ := hcv.at_
      have K3 := hid (CBx.start (cp := cp3) (cy := cy3) (cz := cz3) r1 r2 r3)
      have hb := below_new u3 (.cells #[.slice Ap3 ps3.length cp3, .slice Ay3 ys3.length cy3, .slice Az3 zs3.length cz3] 39)
      have HCV3' := hid (HCV3.out.kept' hb)
      clear HCV3
      have HCV3 := hid HCV3'.out
      clear HCV3'
      have HS' := hid (HS.out.kept hb)
      have HT' := hid (HT.out.kept hb)
      have HX' := hid (HX.out.kept hb)
      have K1' := hid (K1.out.kept hb)
      have K2' := hid (K2.out.kept hb)
      clear hb ha hps hys hzs hcv r1 r2 r3
      clear HS HT HX K1 K2
      have HS := hid HS'.out
      clear HS'
      have HT := hid HT'.out
      clear HT'
      have HX := hid HX'.out
      clear HX'
      have K1 := hid K1'.out
      clear K1'
      have K2 := hid K2'.out
      clear K2'
      go_upto_region 13 with fail
      generalize u3.alloc (.cells #[.slice Ap3 ps3.length cp3, .slice Ay3 ys3.length cy3, .slice Az3 zs3.length cz3] 39) = v3 at *
      generalize u3.heap.size = k3 at *
      have hsame := beside_same HC.out HCh.out HSUM.out.1 HSUM.out.2 HA1.out HA2.out (by rw [← HGX.out]; exact HA3.out)
      rw [← HRC.out.1, ← HRC.out.2, ← HSD.out.1, ← HSD.out.2, ← HPS1.out, ← HPS2.out, ← HPS3.out, ← HYS1.out, ← HYS2.out, ← HYS3.out, ← HZS1.out, ← HZS2.out, ← HZS3.out, HRr.out, HCc.out] at hsame
      have HSM := hid hsame
      have HLN : Hid (ps1.length ≤ 64 ∧ ps2.length ≤ 64 ∧ ps3.length ≤ 64 ∧ ys1.length ≤ 64 ∧ ys2.length ≤ 64 ∧ ys3.length ≤ 64 ∧ zs1.length ≤ 64 ∧ zs2.length ≤ 64 ∧ zs3.length ≤ 64) := hid (by
        have q1 := prsTo_len tt1 R
        have q2 := prsTo_len tt2 S
        have q3 := prsTo_len tt3 (R + S)
        rw [HPS1.out, HPS2.out, HPS3.out, HYS1.out, HYS2.out, HYS3.out, HZS1.out, HZS2.out, HZS3.out]
        simp only [List.length_take]
        omega)
      clear hsame
      go_upto_region 14 with fail
      have HW0 := hid (PBx.start v3)
      have hb := below_new v3 (.cells #[.slice none 0 0, .slice none 0 0, .slice none 0 0] 39)
      have K10 := hid (K1.out.kept hb)
      have HWG : Hid (gb < v3.heap.size ∧ k1 < v3.heap.size ∧ k2 < v3.heap.size ∧ k3 < v3.heap.size) := hid ⟨heap_lt HS.out.blk, heap_lt K1.out.blk, heap_lt K2.out.blk, heap_lt K3.out.blk⟩
      clear hb HT HX HCV1 HCV2
      generalize v3.alloc (.cells #[.slice none 0 0, .slice none 0 0, .slice none 0 0] 39) = v4 at *
      obtain ⟨wb, hwb⟩ : ∃ wb, wb = v3.heap.size := ⟨_, rfl⟩
      rw [← hwb] at HW0 HWG ⊢
      clear hwb
      generalize wb + 1 = B2 at *
      -- the pairs
      have d0 := HW0.out.list
      have e0 := row_cell K10.out.blk 0 (.slice Ap1 ps1.length cp1) rfl
      have HSZ : Hid (B2 ≤ v4.heap.size) := hid HW0.out.ord.2.2
      have HFIN := hid (fun (v5 : Value) (w5 : World) ho hg => HW0.out.grow (m := ps1) (n := ps1.length) (xs := flatV prV ps1) (v2 := v5) (w4 := w5) (Below.refl _ _) (by simp) rfl ho hg)
      obtain ⟨i1, hi1, hz10, hz11, hz12⟩ := info_parts info_pair2
      go_wp2_with (at_builtin; refine wpList_append_list rfl _ _ 25 rfl (f := prV) B2 45 i1 (.agg #[.int .i64 0, .int .i64 0]) 2 16 Try.underlying25 hi1 hz10 hz11 hz12 rfl (by decide) (.slice none 0 0) 0 [] rfl (ownsRow_nil _ _ _ _) (fun _ => rfl) Ap1 cp1 ps1 rfl K10.out.p pr_one ?d3 ?d4 HSZ.out ?_)
      case d3 => have := HLN.out; unfold maxLen; omega
      case d4 => have := HLN.out; omega
      intro v5 w5 hown5 hgrow5
      obtain ⟨a5, p5, rfl⟩ := ownsRow_shape hown5
      have hfin := HFIN.out _ w5 hown5 hgrow5
      have c5 := row_cell hfin.1 0 (.slice none 0 0) rfl
      have f5 := free_row hfin.1 0
      have HG5 := hid hfin.2
      clear hown5 hgrow5 hfin HFIN HSZ d0 e0 HW0 K10 i1 hi1 hz10 hz11 hz12
      go_wp2
      go_loopw [18] (fun i wr => ∃ (j : Nat) (pv : Value) (L : List (Int × Int)), j ≤ ps2.length ∧ i = .int .i64 j ∧ Hid (PBx v3 wr wb B2 pv L) ∧ Hid (L = ps1 ++ (ps2.take j).map fun p => ((R : Int) + p.1, (C : Int) + p.2))) (fun i _ => ps2.length - (intOf i).toNat)
      case atStart => exact ⟨0, _, _, by omega, rfl, HG5, hid (by simp)⟩
      case round =>
        clear HG5 c5 f5
        obtain ⟨j, pv, L, hj, rfl, HW, HL⟩ := hrel
        have K2r := hid (K2.out.kept HW.out.below)
        have e0 := row_cell K2r.out.blk 0 (.slice Ap2 ps2.length cp2) rfl
        have hj64 : (j : Int) ≤ 64 := by have := HLN.out; omega
        by_cases hlt : j < ps2.length
        · -- L3
          have hki : (j : Int) < (ps2.length : Int) := by omega
          obtain ⟨p, hx⟩ : ∃ x, ps2[j]? = some x := ⟨ps2[j], by simp [hlt]⟩
          obtain ⟨r, c, rfl, hr1, hc1, _⟩ := HA2.out.pair_in (p := p) (by rw [← HSD.out.1, ← HPS2.out]; exact List.mem_of_getElem? hx)
          have hr64 : (r : Int) ≤ 64 := by rw [← HSD.out.1] at hr1; omega
          have hc64 : (c : Int) ≤ 64 := by rw [← HSD.out.2] at hc1; omega
          have HTK : Hid ((ps2.take (j + 1)).map (fun p => ((R : Int) + p.1, (C : Int) + p.2)) = (ps2.take j).map (fun p => ((R : Int) + p.1, (C : Int) + p.2)) ++ [((R : Int) + (r : Int), (C : Int) + (c : Int))]) := hid (by
            obtain ⟨h1, h2⟩ := List.getElem?_eq_some_iff.1 hx
            rw [List.take_succ_eq_append_getElem h1, h2, List.map_append]; rfl)
          obtain ⟨pg, po, hAp, hpg0, hcc⟩ := K2.out.p.get hx
          have HWQ : Hid (v3.cell? ⟨pg, po + j * 2, none⟩ = some (.int .i64 r) ∧ v3.cell? ⟨pg, po + j * 2 + 1, none⟩ = some (.int .i64 c)) := hid (by
            have t1 := hcc 0 (.int .i64 r) rfl
            have t2 := hcc 1 (.int .i64 c) rfl
            rw [Nat.mul_comm] at t1 t2
            exact ⟨t1, t2⟩)
          have q0 : wr.cell? ⟨pg, po + j * 2, none⟩ = some (.int .i64 r) := cell_to HW.out.below hpg0 HWQ.out.1
          have q1 : wr.cell? ⟨pg, po + j * 2 + 1, none⟩ = some (.int .i64 c) := cell_to HW.out.below hpg0 HWQ.out.2
          have hpg : pg < wr.heap.size := Nat.lt_of_lt_of_le hpg0 HW.out.below.size
          have HWV : Hid (pg < wb ∧ pg < v3.heap.size) := hid ⟨by have := HW.out.ord; omega, hpg0⟩
          clear hpg0
          subst hAp
          obtain ⟨wz, hwz⟩ : ∃ wz, wz = wr := ⟨_, rfl⟩
          subst hwz
          have HSz := hid (HS.out.kept HW.out.below)
          have b0 := HSz.out.rows HRr.out
          have b1 := HSz.out.cols HCc.out
          have h2 := HW.out.list
          have HLL : Hid (L.length ≤ 128) := hid (by rw [HL.out, List.length_append, List.length_map, List.length_take]; have := HLN.out; omega)
          have nwb : wb ≠ gb := by have := HWG.out; omega
          have HWq := hid (HW.out.kept (Below.refl _ _).drew)
          have HOW := hid ((HWq.out.kept (below_new wz.drew (.cells #[.int .i64 ((R : Int) + (r : Int)), .int .i64 ((C : Int) + (c : Int))] 45))).own)
          have HSZ : Hid (B2 ≤ (wz.drew.alloc (.cells #[.int .i64 ((R : Int) + (r : Int)), .int .i64 ((C : Int) + (c : Int))] 45)).heap.size) := hid (by rw [alloc_size]; have := HWq.out.ord; omega)
          have HFIN := hid (fun (gu ucap : Nat) (w5 : World) ho hg => HWq.out.grow (m := [((R : Int) + (r : Int), (C : Int) + (c : Int))]) (v2 := .slice (some ⟨gu, 0, none⟩) (L.length + 1) ucap) (w4 := w5) (below_new wz.drew (.cells #[.int .i64 ((R : Int) + (r : Int)), .int .i64 ((C : Int) + (c : Int))] 45)) rfl rfl ho hg)
          obtain ⟨i1, hi1, hz10, hz11, hz12⟩ := info_parts info_pair2
          have lhb := heap_lt HW.out.blk
          clear hx hcc hr1 hc1
          go_wp2
          have hw1 : IntKind.i64.wrap ((R : Int) + (r : Int)) = (R : Int) + (r : Int) := IntWalk.i64_in _ (by omega)
          have hw2 : IntKind.i64.wrap ((C : Int) + (c : Int)) = (C : Int) + (c : Int) := IntWalk.i64_in _ (by omega)
          have k2c : wz.cell? ⟨k2, 0, none⟩ = some (.slice (some ⟨pg, po, none⟩) ps2.length cp2) := e0
          have n2 : wb ≠ k2 := by have := HWG.out; omega
          have n3 : wb ≠ pg := by have := HWV.out; omega
          have l1 : gb < wz.heap.size := heap_lt HSz.out.blk
          have l2 : k2 < wz.heap.size := heap_lt K2r.out.blk
          have l3 : pg < wz.heap.size := hpg
          have m1 : wz.heap.size ≠ gb := by omega
          have m2 : wz.heap.size ≠ k2 := by omega
          have m3 : wz.heap.size ≠ pg := by omega
          have HKP := hid (fun (w5 : World) (hg : (wz.drew.alloc (.cells #[.int .i64 ((R : Int) + (r : Int)), .int .i64 ((C : Int) + (c : Int))] 45)).grownBy w5 pv.ownBlock) => HWq.out.past (below_new wz.drew (.cells #[.int .i64 ((R : Int) + (r : Int)), .int .i64 ((C : Int) + (c : Int))] 45)) hg)
          refine wp_region_held_drew (S := (fun w' => w'.cell? ⟨gb, 0, none⟩ = some (.int .i64 (R : Int)) ∧ w'.cell? ⟨gb, 1, none⟩ = some (.int .i64 (C : Int)) ∧ w'.cell? ⟨k2, 0, none⟩ = some (.slice (some ⟨pg, po, none⟩) ps2.length cp2) ∧ w'.cell? ⟨pg, po + j * 2, none⟩ = some (.int .i64 (r : Int)) ∧ w'.cell? ⟨pg, po + j * 2 + 1, none⟩ = some (.int .i64 (c : Int)))) (by kernel_rfl) ⟨b0, b1, k2c, q0, q1⟩ ?_
          intro hHeld
          refine wpAnyH_take (i := 0) (oi := _) (v := ?_) rfl (by kernel_rfl) (by kernel_rfl) (by kernel_rfl) (fun _ _ _ h => h) (Or.inl ⟨by rfl, ?_⟩) (by assumption) ?_
          rotate_left
          · intro w hSw
            try dsimp only at hSw
            first | (go_simp; done) | (go_simp; with_reducible rfl)
          (try simp only [Act.put]); (try simp only [List.setIfInBounds_toArray]); (try simp only [List.set_cons_succ]); (try simp only [List.set_cons_zero])
          refine wpAnyH_take (i := 2) (oi := _) (v := ?_) rfl (by kernel_rfl) (by kernel_rfl) (by kernel_rfl) (fun _ _ _ h => h) (Or.inl ⟨by rfl, ?_⟩) (by assumption) ?_
          rotate_left
          · intro w hSw
            try dsimp only at hSw
            first | (go_simp; done) | (go_simp; with_reducible rfl)
          (try simp only [Act.put]); (try simp only [List.setIfInBounds_toArray]); (try simp only [List.set_cons_succ]); (try simp only [List.set_cons_zero])
          refine wpAnyH_take (i := 3) (oi := _) (v := ?_) rfl (by kernel_rfl) (by kernel_rfl) (by kernel_rfl) (fun _ _ _ h => h) (Or.inl ⟨by rfl, ?_⟩) (by assumption) ?_
          rotate_left
          · intro w hSw
            try dsimp only at hSw
            first | (go_simp; done) | (go_simp; with_reducible rfl)
          (try simp only [Act.put]); (try simp only [List.setIfInBounds_toArray]); (try simp only [List.set_cons_succ]); (try simp only [List.set_cons_zero])
          refine wpAnyH_take (i := 4) (oi := _) (v := ?_) rfl (by kernel_rfl) (by kernel_rfl) (by kernel_rfl) (fun _ _ _ h => h) (Or.inl ⟨by rfl, ?_⟩) (by assumption) ?_
          rotate_left
          · intro w hSw
            try dsimp only at hSw
            first | (go_simp; done) | (go_simp; with_reducible rfl)
          (try simp only [Act.put]); (try simp only [List.setIfInBounds_toArray]); (try simp only [List.set_cons_succ]); (try simp only [List.set_cons_zero])
          refine wpAnyH_take (i := 5) (oi := _) (v := ?_) rfl (by kernel_rfl) (by kernel_rfl) (by kernel_rfl) (fun _ _ _ h => h) (Or.inl ⟨by rfl, ?_⟩) (by assumption) ?_
          rotate_left
          · intro w hSw
            try dsimp only at hSw
            first | (go_simp; done) | (go_simp; with_reducible rfl)
          (try simp only [Act.put]); (try simp only [List.setIfInBounds_toArray]); (try simp only [List.set_cons_succ]); (try simp only [List.set_cons_zero])
          refine wpAnyH_take (i := 6) (oi := _) (v := ?_) rfl (by kernel_rfl) (by kernel_rfl) (by kernel_rfl) (fun _ _ _ h => h) (Or.inl ⟨by rfl, ?_⟩) (by assumption) ?_
          rotate_left
          · intro w hSw
            try dsimp only at hSw
            first | (go_simp; done) | (go_simp; with_reducible rfl)
          (try simp only [Act.put]); (try simp only [List.setIfInBounds_toArray]); (try simp only [List.set_cons_succ]); (try simp only [List.set_cons_zero])
          refine wpAnyH_take (i := 7) (oi := _) (v := ?_) rfl (by kernel_rfl) (by kernel_rfl) (by kernel_rfl) (fun _ _ _ h => h) (Or.inl ⟨by rfl, ?_⟩) (by assumption) ?_
          rotate_left
          · intro w hSw
            try dsimp only at hSw
            first | (go_simp; done) | (go_simp; with_reducible rfl)
          (try simp only [Act.put]); (try simp only [List.setIfInBounds_toArray]); (try simp only [List.set_cons_succ]); (try simp only [List.set_cons_zero])
          refine wpAnyH_take (i := 8) (oi := _) (v := ?_) rfl (by kernel_rfl) (by kernel_rfl) (by kernel_rfl) (fun _ _ _ h => h) (Or.inl ⟨by rfl, ?_⟩) (by assumption) ?_
          rotate_left
          · intro w hSw
            try dsimp only at hSw
            first | (go_simp; done) | (go_simp; with_reducible rfl)
          (try simp only [Act.put]); (try simp only [List.setIfInBounds_toArray]); (try simp only [List.set_cons_succ]); (try simp only [List.set_cons_zero])
          refine wpAnyH_take (i := 9) (oi := _) (v := ?_) rfl (by kernel_rfl) (by kernel_rfl) (by kernel_rfl) (fun _ _ _ h => h) (Or.inl ⟨by rfl, ?_⟩) (by assumption) ?_
          rotate_left
          · intro w hSw
            try dsimp only at hSw
            first | (go_simp; done) | (go_simp; with_reducible rfl)
          (try simp only [Act.put]); (try simp only [List.setIfInBounds_toArray]); (try simp only [List.set_cons_succ]); (try simp only [List.set_cons_zero])
          refine wpAnyH_take (i := 10) (oi := _) (v := ?_) rfl (by kernel_rfl) (by kernel_rfl) (by kernel_rfl) (fun _ _ _ h => h) (Or.inl ⟨by rfl, ?_⟩) (by assumption) ?_
          rotate_left
          · intro w hSw
            try dsimp only at hSw
            first | (go_simp; done) | (go_simp; with_reducible rfl)
          (try simp only [Act.put]); (try simp only [List.setIfInBounds_toArray]); (try simp only [List.set_cons_succ]); (try simp only [List.set_cons_zero])
          refine wpAnyH_take (i := 11) (oi := _) (v := ?_) rfl (by kernel_rfl) (by kernel_rfl) (by kernel_rfl) (fun _ _ _ h => h) (Or.inl ⟨by rfl, ?_⟩) (by assumption) ?_
          rotate_left
          · intro w hSw
            try dsimp only at hSw
            first | (go_simp; done) | (go_simp; with_reducible rfl)
          (try simp only [Act.put]); (try simp only [List.setIfInBounds_toArray]); (try simp only [List.set_cons_succ]); (try simp only [List.set_cons_zero])
          refine wpAnyH_take (i := 12) (oi := _) (v := ?_) rfl (by kernel_rfl) (by kernel_rfl) (by kernel_rfl) (fun _ _ _ h => h) (Or.inl ⟨by rfl, ?_⟩) (by assumption) ?_
          rotate_left
          · intro w hSw
            try dsimp only at hSw
            first | (go_simp; done) | (go_simp; with_reducible rfl)
          (try simp only [Act.put]); (try simp only [List.setIfInBounds_toArray]); (try simp only [List.set_cons_succ]); (try simp only [List.set_cons_zero])
          refine wpAnyH_take (i := 13) (oi := _) (v := ?_) rfl (by kernel_rfl) (by kernel_rfl) (by kernel_rfl) (fun _ _ _ h => h) (Or.inl ⟨by rfl, ?_⟩) (by assumption) ?_
          rotate_left
          · intro w hSw
            try dsimp only at hSw
            first | (go_simp; done) | (go_simp; with_reducible rfl)
          (try simp only [Act.put]); (try simp only [List.setIfInBounds_toArray]); (try simp only [List.set_cons_succ]); (try simp only [List.set_cons_zero])
          refine wpAnyH_take (i := 14) (oi := _) (v := ?_) rfl (by kernel_rfl) (by kernel_rfl) (by kernel_rfl) (fun _ _ _ h => h) (Or.inl ⟨by rfl, ?_⟩) (by assumption) ?_
          rotate_left
          · intro w hSw
            try dsimp only at hSw
            first | (go_simp; done) | (go_simp; with_reducible rfl)
          (try simp only [Act.put]); (try simp only [List.setIfInBounds_toArray]); (try simp only [List.set_cons_succ]); (try simp only [List.set_cons_zero])
          refine wpAnyH_take (i := 15) (oi := _) (v := ?_) rfl (by kernel_rfl) (by kernel_rfl) (by kernel_rfl) (fun _ _ _ h => h) (Or.inl ⟨by rfl, ?_⟩) (by assumption) ?_
          rotate_left
          · intro w hSw
            try dsimp only at hSw
            first | (go_simp; done) | (go_simp; with_reducible rfl)
          (try simp only [Act.put]); (try simp only [List.setIfInBounds_toArray]); (try simp only [List.set_cons_succ]); (try simp only [List.set_cons_zero])
          refine wpAnyH_take (i := 16) (oi := _) (v := ?_) rfl (by kernel_rfl) (by kernel_rfl) (by kernel_rfl) (fun _ _ _ h => h) (Or.inl ⟨by rfl, ?_⟩) (by assumption) ?_
          rotate_left
          · intro w hSw
            try dsimp only at hSw
            first | (go_simp; done) | (go_simp; with_reducible rfl)
          (try simp only [Act.put]); (try simp only [List.setIfInBounds_toArray]); (try simp only [List.set_cons_succ]); (try simp only [List.set_cons_zero])
          refine wpAnyH_take (i := 17) (oi := _) (v := ?_) rfl (by kernel_rfl) (by kernel_rfl) (by kernel_rfl) (fun _ _ _ h => h) (Or.inl ⟨by rfl, ?_⟩) (by assumption) ?_
          rotate_left
          · intro w hSw
            try dsimp only at hSw
            first | (go_simp; done) | (go_simp; with_reducible rfl)
          (try simp only [Act.put]); (try simp only [List.setIfInBounds_toArray]); (try simp only [List.set_cons_succ]); (try simp only [List.set_cons_zero])
          refine wpAnyH_take (i := 18) (oi := _) (v := ?_) rfl (by kernel_rfl) (by kernel_rfl) (by kernel_rfl) (fun _ _ _ h => h) (Or.inl ⟨by rfl, ?_⟩) (by assumption) ?_
          rotate_left
          · intro w hSw
            try dsimp only at hSw
            first | (go_simp; done) | (go_simp; with_reducible rfl)
          (try simp only [Act.put]); (try simp only [List.setIfInBounds_toArray]); (try simp only [List.set_cons_succ]); (try simp only [List.set_cons_zero])
          refine wpAnyH_take (i := 19) (oi := _) (v := ?_) rfl (by kernel_rfl) (by kernel_rfl) (by kernel_rfl) (fun _ _ _ h => h) (Or.inl ⟨by rfl, ?_⟩) (by assumption) ?_
          rotate_left
          · intro w hSw
            try dsimp only at hSw
            first | (go_simp; done) | (go_simp; with_reducible rfl)
          (try simp only [Act.put]); (try simp only [List.setIfInBounds_toArray]); (try simp only [List.set_cons_succ]); (try simp only [List.set_cons_zero])
          refine wpAnyH_take (i := 20) (oi := _) (v := ?_) rfl (by kernel_rfl) (by kernel_rfl) (by kernel_rfl) (fun _ _ _ h => h) (Or.inl ⟨by rfl, ?_⟩) (by assumption) ?_
          rotate_left
          · intro w hSw
            try dsimp only at hSw
            first | (go_simp; done) | (go_simp; with_reducible rfl)
          (try simp only [Act.put]); (try simp only [List.setIfInBounds_toArray]); (try simp only [List.set_cons_succ]); (try simp only [List.set_cons_zero])
          refine wpAnyH_ready (rs := [1, 21]) (by kernel_rfl) (by simp) ?_
          refine AllReadyH.cons rfl (fun K hK => ?_) ?_
          · skip
            go_simp
            refine hK.out _ _ ?_ (fun hHeld => ?_)
            · first | go_keep | exact ⟨S5.out.1, S5.out.2.1, S5.out.2.2.1, S5.out.2.2.2.1, S5.out.2.2.2.2⟩
            clear hK K
            (try simp only [Act.put]); (try simp only [List.setIfInBounds_toArray]); (try simp only [List.set_cons_succ]); (try simp only [List.set_cons_zero])
            refine wpAnyH_ready (rs := [21]) (by kernel_rfl) (by simp) ?_
            refine AllReadyH.cons rfl (fun K hK => ?_) ?_
            rotate_left
            · exact AllReadyH.nil
            go_simp
            refine hK.out _ _ ?_ (fun hHeld => ?_)
            · first | go_keep | exact ⟨S5.out.1, S5.out.2.1, S5.out.2.2.1, S5.out.2.2.2.1, S5.out.2.2.2.2⟩
            clear hK K
            (try simp only [Act.put]); (try simp only [List.setIfInBounds_toArray]); (try simp only [List.set_cons_succ]); (try simp only [List.set_cons_zero])
            refine wpAnyH_ready (rs := [22]) (by kernel_rfl) (by simp) ?_
            refine AllReadyH.cons rfl (fun K hK => ?_) ?_
            rotate_left
            · exact AllReadyH.nil
            (refine step_append_lies _ (by rfl) _ _ 25 (by rfl) B2 45 i1 (.agg #[.int .i64 0, .int .i64 0]) 2 16 Try.underlying25 hi1 hz10 hz11 hz12 (by rfl) (by decide) pv L.length (flatV prV L) (by rfl) HOW.out ⟨wz.heap.size, 0, none⟩ 1 1 [.int .i64 ((R : Int) + (r : Int)), .int .i64 ((C : Int) + (c : Int))] (by rfl) (by rfl) (cells_new _ _ _) (by simp [Value.oneCell']) (by omega) (by have := HLL.out; unfold maxLen; omega) (by have := HLL.out; omega) HSZ.out (wz.heap.size + 1) (by simp) ?_; intro gu ucap w5 hown' hgrow hat hgult; have hfin := HFIN.out gu ucap w5 hown' hgrow; have c5 := row_cell hfin.1 0 pv rfl; have f5 := free_row hfin.1 0; have HG5 := hid hfin.2; have hk5 := HKP.out w5 hgrow; have S5 := hid (And.intro ((HS.out.kept hk5).rows HRr.out) (And.intro ((HS.out.kept hk5).cols HCc.out) (And.intro (row_cell (K2.out.kept hk5).blk 0 _ rfl) (And.intro (cell_to hk5 HWV.out.2 HWQ.out.1) (cell_to hk5 HWV.out.2 HWQ.out.2))))); clear hown' hgrow hat hfin hk5)
            refine hK.out _ _ ?_ (fun hHeld => ?_)
            · first | go_keep | exact ⟨S5.out.1, S5.out.2.1, S5.out.2.2.1, S5.out.2.2.2.1, S5.out.2.2.2.2⟩
            clear hK K
            (try simp only [Act.put]); (try simp only [List.setIfInBounds_toArray]); (try simp only [List.set_cons_succ]); (try simp only [List.set_cons_zero])
            refine wpAnyH_take (i := 23) (oi := _) (v := ?_) rfl (by kernel_rfl) (by kernel_rfl) (by kernel_rfl) (fun _ _ _ h => h) (Or.inl ⟨by rfl, ?_⟩) (by assumption) ?_
            rotate_left
            · intro w hSw
              try dsimp only at hSw
              first | (go_simp; done) | (go_simp; with_reducible rfl)
            (try simp only [Act.put]); (try simp only [List.setIfInBounds_toArray]); (try simp only [List.set_cons_succ]); (try simp only [List.set_cons_zero])
            refine wpAnyH_ready (rs := [24]) (by kernel_rfl) (by simp) ?_
            refine AllReadyH.cons rfl (fun K hK => ?_) ?_
            rotate_left
            · exact AllReadyH.nil
            go_simp
            refine hK.out _ _ ?_ (fun hHeld => ?_)
            · first | go_keep | exact ⟨S5.out.1, S5.out.2.1, S5.out.2.2.1, S5.out.2.2.2.1, S5.out.2.2.2.2⟩
            clear hK K
            (try simp only [Act.put]); (try simp only [List.setIfInBounds_toArray]); (try simp only [List.set_cons_succ]); (try simp only [List.set_cons_zero])
            refine wpAnyH_done (by kernel_rfl) ?_ _
            clear hw1 hw2
            go_wp2
            go_roundw
            case rel => exact ⟨j + 1, _, _, by omega, by go_num, HG5, hid (by rw [HTK.out, ← List.append_assoc, ← HL.out])⟩
            case measure => simp [intOf]; omega
          · skip
            refine AllReadyH.cons rfl (fun K hK => ?_) AllReadyH.nil
            go_simp
            refine hK.out _ _ ?_ (fun hHeld => ?_)
            · first | go_keep | exact ⟨S5.out.1, S5.out.2.1, S5.out.2.2.1, S5.out.2.2.2.1, S5.out.2.2.2.2⟩
            clear hK K
            (try simp only [Act.put]); (try simp only [List.setIfInBounds_toArray]); (try simp only [List.set_cons_succ]); (try simp only [List.set_cons_zero])
            refine wpAnyH_ready (rs := [1]) (by kernel_rfl) (by simp) ?_
            refine AllReadyH.cons rfl (fun K hK => ?_) ?_
            rotate_left
            · exact AllReadyH.nil
            go_simp
            refine hK.out _ _ ?_ (fun hHeld => ?_)
            · first | go_keep | exact ⟨S5.out.1, S5.out.2.1, S5.out.2.2.1, S5.out.2.2.2.1, S5.out.2.2.2.2⟩
            clear hK K
            (try simp only [Act.put]); (try simp only [List.setIfInBounds_toArray]); (try simp only [List.set_cons_succ]); (try simp only [List.set_cons_zero])
            refine wpAnyH_ready (rs := [22]) (by kernel_rfl) (by simp) ?_
            refine AllReadyH.cons rfl (fun K hK => ?_) ?_
            rotate_left
            · exact AllReadyH.nil
            (refine step_append_lies _ (by rfl) _ _ 25 (by rfl) B2 45 i1 (.agg #[.int .i64 0, .int .i64 0]) 2 16 Try.underlying25 hi1 hz10 hz11 hz12 (by rfl) (by decide) pv L.length (flatV prV L) (by rfl) HOW.out ⟨wz.heap.size, 0, none⟩ 1 1 [.int .i64 ((R : Int) + (r : Int)), .int .i64 ((C : Int) + (c : Int))] (by rfl) (by rfl) (cells_new _ _ _) (by simp [Value.oneCell']) (by omega) (by have := HLL.out; unfold maxLen; omega) (by have := HLL.out; omega) HSZ.out (wz.heap.size + 1) (by simp) ?_; intro gu ucap w5 hown' hgrow hat hgult; have hfin := HFIN.out gu ucap w5 hown' hgrow; have c5 := row_cell hfin.1 0 pv rfl; have f5 := free_row hfin.1 0; have HG5 := hid hfin.2; have hk5 := HKP.out w5 hgrow; have S5 := hid (And.intro ((HS.out.kept hk5).rows HRr.out) (And.intro ((HS.out.kept hk5).cols HCc.out) (And.intro (row_cell (K2.out.kept hk5).blk 0 _ rfl) (And.intro (cell_to hk5 HWV.out.2 HWQ.out.1) (cell_to hk5 HWV.out.2 HWQ.out.2))))); clear hown' hgrow hat hfin hk5)
            refine hK.out _ _ ?_ (fun hHeld => ?_)
            · first | go_keep | exact ⟨S5.out.1, S5.out.2.1, S5.out.2.2.1, S5.out.2.2.2.1, S5.out.2.2.2.2⟩
            clear hK K
            (try simp only [Act.put]); (try simp only [List.setIfInBounds_toArray]); (try simp only [List.set_cons_succ]); (try simp only [List.set_cons_zero])
            refine wpAnyH_take (i := 23) (oi := _) (v := ?_) rfl (by kernel_rfl) (by kernel_rfl) (by kernel_rfl) (fun _ _ _ h => h) (Or.inl ⟨by rfl, ?_⟩) (by assumption) ?_
            rotate_left
            · intro w hSw
              try dsimp only at hSw
              first | (go_simp; done) | (go_simp; with_reducible rfl)
            (try simp only [Act.put]); (try simp only [List.setIfInBounds_toArray]); (try simp only [List.set_cons_succ]); (try simp only [List.set_cons_zero])
            refine wpAnyH_ready (rs := [24]) (by kernel_rfl) (by simp) ?_
            refine AllReadyH.cons rfl (fun K hK => ?_) ?_
            rotate_left
            · exact AllReadyH.nil
            go_simp
            refine hK.out _ _ ?_ (fun hHeld => ?_)
            · first | go_keep | exact ⟨S5.out.1, S5.out.2.1, S5.out.2.2.1, S5.out.2.2.2.1, S5.out.2.2.2.2⟩
            clear hK K
            (try simp only [Act.put]); (try simp only [List.setIfInBounds_toArray]); (try simp only [List.set_cons_succ]); (try simp only [List.set_cons_zero])
            refine wpAnyH_done (by kernel_rfl) ?_ _
            clear hw1 hw2
            go_wp2
            go_roundw
            case rel => exact ⟨j + 1, _, _, by omega, by go_num, HG5, hid (by rw [HTK.out, ← List.append_assoc, ← HL.out])⟩
            case measure => simp [intOf]; omega
          -- /L3
        · -- L4
          obtain rfl : j = ps2.length := by omega
          have hkr : ¬ ((ps2.length : Int) < (ps2.length : Int)) := by omega
          rw [List.take_length, ← HSM.out.1] at HL
          obtain ⟨A6, cap6, rfl, hp6, hx6⟩ := own_rowsX (f := prV) (s := 2) (fun _ => rfl) HW.out.own HW.out.ord.2.1
          rw [HL.out] at hp6 hx6 HW
          have HWC : Hid (WCx v3 wr wb A6 cap6 none 0 none 0 ps3 [] []) := hid ⟨HW.out.blk, hx6, .inl rfl, .inl rfl, ⟨hp6, Nat.le_refl _, Nat.le_refl _⟩, HW.out.below, ⟨HW.out.ord.1, by have := HW.out.ord; omega⟩⟩
          clear hj hlt hp6 hx6 HL
          go_wp2
          clear hkr e0 K2r HW
          go_cut [153] (fun s wx => ∃ Ay cy, Hid (WCx v3 wx wb A6 cap6 Ay cy none 0 ps3 (ys1 ++ ys2) []))
          case first =>
            have HQ := hid (HWC.out.kept (Below.refl _ _).drew)
            have K1q := hid (K1.out.kept HQ.out.below)
            have K2q := hid (K2.out.kept HQ.out.below)
            have d1 := row_cell HWC.out.blk 1 (.slice none 0 0) rfl
            have e1 := row_cell (K1.out.kept HWC.out.below).blk 1 (.slice Ay1 ys1.length cy1) rfl
            have e2 := row_cell (K2.out.kept HWC.out.below).blk 1 (.slice Ay2 ys2.length cy2) rfl
            have RA := hid K1q.out.y
            have RB := hid K2q.out.y
            have E2 := hid (row_cell K2q.out.blk 1 (.slice Ay2 ys2.length cy2) rfl)
            have HFIN := hid (fun (w6 : World) (v6 : Value) k ho => HQ.out.growY (l := ys1 ++ ys2) (w6 := w6) (v6 := v6) k ho)
            have lwb := HWC.out.ord.2
            obtain ⟨i1, hi1, hz10, hz11, hz12⟩ := info_parts info_int1
            go_region_law ((first | (refine step_append_list (by rfl) _ _ 37 (by rfl) (f := numV) wr.drew.heap.size 3 i1 (.int .i64 0) 1 8 Try.underlying37 hi1 hz10 hz11 hz12 (by rfl) (by decide) (.slice none 0 0) 0 [] (by rfl) (ownsRow_nil _ _ _ _) (fun _ => rfl) Ay1 cy1 ys1 (by rfl) RA.out num_one (by have := HLN.out; unfold maxLen; omega) (by have := HLN.out; omega) (Nat.le_refl _) ?_; intro v5 w5 hown5 hgrow5; rw [Nat.zero_add, List.nil_append] at hown5; obtain ⟨a5, p5, rfl⟩ := ownsRow_shape hown5; have hb5 := (Below.refl wr.drew.heap.size wr.drew).grown hgrow5 (Nat.le_refl _) (fun g hg => by cases hg); have H5 := hid (And.intro hown5 (And.intro hgrow5 (RB.out.kept hb5))); have e5 := cell_to hb5 (cell_lt E2.out) E2.out; clear hown5 hgrow5 hb5) | (refine step_append_list (by rfl) _ _ 37 (by rfl) (f := numV) wr.drew.heap.size 3 i1 (.int .i64 0) 1 8 Try.underlying37 hi1 hz10 hz11 hz12 (by rfl) (by decide) (.slice a5 ys1.length p5) ys1.length (flatV numV ys1) (by rfl) H5.out.1 (fun _ => rfl) Ay2 cy2 ys2 (by rfl) H5.out.2.2 num_one (by have := HLN.out; unfold maxLen; omega) (by have := HLN.out; omega) (grown_two H5.out.2.1 H5.out.1 (grown_refl _ _)).1.size ?_; intro v6 w6 hown6 hgrow6; have hb6 := (grown_two H5.out.2.1 H5.out.1 hgrow6).2; obtain ⟨a6, p6, rfl, c6, f6, hwc⟩ := HFIN.out w6 v6 hb6 (by rw [List.length_append, flatV_app]; exact hown6); have HWC6 := hid hwc; have LA6 : Hid ((ys1 ++ ys2).length = ys1.length + ys2.length) := hid (List.length_append ..); clear hown6 hgrow6 hb6 hwc)))
            all_goals go_wp2
            all_goals go_meet
            all_goals (have HX6 := HWC6.out; rw [LA6.out] at HX6; exact ⟨_, _, hid HX6⟩)
          case rest =>
            obtain ⟨Ay6, cy6, HWC7⟩ := hcut
            clear HWC
            go_wp2
            go_cut [163] (fun s wx => ∃ Az cz, Hid (WCx v3 wx wb A6 cap6 Ay6 cy6 Az cz ps3 (ys1 ++ ys2) (zs1 ++ zs2)))
            case first =>
              have HQ := hid (HWC7.out.kept (Below.refl _ _).drew)
              have K1q := hid (K1.out.kept HQ.out.below)
              have K2q := hid (K2.out.kept HQ.out.below)
              have d2 := row_cell HWC7.out.blk 2 (.slice none 0 0) rfl
              have e1 := row_cell (K1.out.kept HWC7.out.below).blk 2 (.slice Az1 zs1.length cz1) rfl
              have e2 := row_cell (K2.out.kept HWC7.out.below).blk 2 (.slice Az2 zs2.length cz2) rfl
              have RA := hid K1q.out.z
              have RB := hid K2q.out.z
              have E2 := hid (row_cell K2q.out.blk 2 (.slice Az2 zs2.length cz2) rfl)
              have HFIN := hid (fun (w6 : World) (v6 : Value) k ho => HQ.out.growZ (l := zs1 ++ zs2) (w6 := w6) (v6 := v6) k ho)
              have lwb := HWC7.out.ord.2
              obtain ⟨i1, hi1, hz10, hz11, hz12⟩ := info_parts info_int1
              go_region_law ((first | (refine step_append_list (by rfl) _ _ 37 (by rfl) (f := numV) wc.drew.heap.size 3 i1 (.int .i64 0) 1 8 Try.underlying37 hi1 hz10 hz11 hz12 (by rfl) (by decide) (.slice none 0 0) 0 [] (by rfl) (ownsRow_nil _ _ _ _) (fun _ => rfl) Az1 cz1 zs1 (by rfl) RA.out num_one (by have := HLN.out; unfold maxLen; omega) (by have := HLN.out; omega) (Nat.le_refl _) ?_; intro v5 w5 hown5 hgrow5; rw [Nat.zero_add, List.nil_append] at hown5; obtain ⟨a5, p5, rfl⟩ := ownsRow_shape hown5; have hb5 := (Below.refl wc.drew.heap.size wc.drew).grown hgrow5 (Nat.le_refl _) (fun g hg => by cases hg); have H5 := hid (And.intro hown5 (And.intro hgrow5 (RB.out.kept hb5))); have e5 := cell_to hb5 (cell_lt E2.out) E2.out; clear hown5 hgrow5 hb5) | (refine step_append_list (by rfl) _ _ 37 (by rfl) (f := numV) wc.drew.heap.size 3 i1 (.int .i64 0) 1 8 Try.underlying37 hi1 hz10 hz11 hz12 (by rfl) (by decide) (.slice a5 zs1.length p5) zs1.length (flatV numV zs1) (by rfl) H5.out.1 (fun _ => rfl) Az2 cz2 zs2 (by rfl) H5.out.2.2 num_one (by have := HLN.out; unfold maxLen; omega) (by have := HLN.out; omega) (grown_two H5.out.2.1 H5.out.1 (grown_refl _ _)).1.size ?_; intro v6 w6 hown6 hgrow6; have hb6 := (grown_two H5.out.2.1 H5.out.1 hgrow6).2; obtain ⟨a6, p6, rfl, c6, f6, hwc⟩ := HFIN.out w6 v6 hb6 (by rw [List.length_append, flatV_app]; exact hown6); have HWC6 := hid hwc; have LA6 : Hid ((zs1 ++ zs2).length = zs1.length + zs2.length) := hid (List.length_append ..); clear hown6 hgrow6 hb6 hwc)))
              all_goals go_wp2
              all_goals go_meet
              all_goals (have HX6 := HWC6.out; rw [LA6.out] at HX6; exact ⟨_, _, hid HX6⟩)
            case rest =>
              obtain ⟨Az6, cz6, HWC8⟩ := hcut
              clear HWC7
              rw [← HSM.out.2.1, ← HSM.out.2.2] at HWC8
              have K3q := hid (K3.out.kept HWC8.out.below)
              have HCq := hid (HCV3.out.kept' HWC8.out.below)
              have HBB := hid (below_tr HS.out.below HWC8.out.below)
              have CS := hid ((sameCert_any _ _ _ ps3 ps3 ys3 zs3 ys3 zs3 HCq.out HWC8.out.cert (by have := HLN.out; omega) (by have := HLN.out; omega)).mono fun e w' h => (⟨by rw [h.1]; simp, h.2⟩ : e = .returned (.bool true) ∧ Below wc.heap.size wc w'))
              have HIC : Hid ((Try.prog.info? 39).map (·.size) = some 3) := hid info_cert
              go_wp2_with (first | (refine wpList_load_w rfl 39 _ rfl _ rfl _ _ _ _ (K3q.out.blk) Try.underlying39 rfl (HIC.out) ?_) | (refine wpList_load_w rfl 39 _ rfl _ rfl _ _ _ _ (HWC8.out.blk) Try.underlying39 rfl (HIC.out) ?_))
              refine CS.out.mono ?_
              rintro e w9 ⟨rfl, hb9⟩
              have HB9 := hid (below_tr HBB.out hb9)
              clear hb9
              go_wp2_with fail
              refine (lives_any _).mono ?_
              rintro e wl ⟨rfl, hb⟩
              have HB := hid (below_tr (HB9.out) hb)
              clear hb
              go_wp2
              go_ret
              exact ⟨rfl, HB.out⟩
          -- /L4
      -- /L2
end Go.Proofs.Ytmddhjoomlhbcaa
