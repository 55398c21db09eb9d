/- The walk of AssignScaled. -/
import Derived.Test.YtmddhjoomlhbcaaAsHb
import Derived.Test.YtmddhjoomlhbcaaAsTb
import Derived.Maps.AppendAt
namespace Go.Proofs.Ytmddhjoomlhbcaa
open Go.RowKit

theorem scaled_same {g : Gr} {k : Int} (hc : chk g = true) (hk : 1 ≤ k) (hb : ∀ x ∈ g.es, k * x.w ≤ 1099513724929) {tt y z tt2 y2 z2 : List Int} (h : BestAns g tt y z) (h2 : BestAns (scaled g k) tt2 y2 z2) :
    prsTo tt g.rows.toNat = prsTo tt2 g.rows.toNat ∧ (∀ r, r < g.rows.toNat → getI y2 r = k * getI y r) ∧ ∀ c, c < g.cols.toNat → getI z2 c = k * getI z c := by
  have h0 := scaled_best hk h.best (W' := wG (scaled g k)) (fun r c => scaled_w hc hk hb r c)
  obtain ⟨u1, u2, u3⟩ := h2.best.unique h0
  refine ⟨?_, u2, u3⟩
  rw [prsF_list, prsF_list]
  refine prsF_congr fun r hr => ?_
  have := u1 r hr
  have e1 : upTo (scaled g k).rows.toNat tt2 r = getI tt2 r := if_pos hr
  have e2 : upTo g.rows.toNat tt r = getI tt r := if_pos hr
  rw [e1, e2] at this
  exact this.symm
theorem scaled_take (k : Int) (l : List Ed) {i : Nat} {x : Ed} (hx : l[i]? = some x) : (l.take (i + 1)).map (fun e => (⟨e.r, e.c, k * e.w⟩ : Ed)) = (l.take i).map (fun e => (⟨e.r, e.c, k * e.w⟩ : Ed)) ++ [⟨x.r, x.c, k * x.w⟩] := by
  obtain ⟨h1, h2⟩ := List.getElem?_eq_some_iff.1 hx
  rw [List.take_succ_eq_append_getElem h1, h2, List.map_append]; rfl

set_option maxRecDepth 100000 in
set_option maxHeartbeats 8000000 in
theorem ascaled_any (g : Gr) (a : Option Addr) (cap : Nat) (hok : GrOk g cap) (n : Int) (hn : I64 n) (w : World) (hr : RowsAt 3 edV w a g.es) :
    Calls Try.prog 10 #[grV g a cap, .int .i64 n] w fun e w' => e = .returned (.bool true) ∧ Below w.heap.size w w' := by
  have HR := hid hr
  have HOK := hid hok
  have HNI := hid hn
  clear hr hok hn
  unfold grV at *
  go_enter Try.func10, Try.ntmps10
  go_upto_region 1 with fail
  have HS := hid (GBx.start (cap := cap) HR.out)
  generalize w.alloc (.cells #[.int .i64 g.rows, .int .i64 g.cols, .slice a g.es.length cap] 24) = w1 at *
  obtain ⟨gb, hgb⟩ : ∃ gb, gb = w.heap.size := ⟨_, rfl⟩
  rw [← hgb] at HS ⊢
  have HGB := hid hgb
  clear hgb
  go_wp2_with (refine wpList_load_w rfl 24 _ rfl _ rfl _ _ _ _ (HS.out.blk) Try.underlying24 rfl (info_gr) ?_)
  refine (may_any g a cap HOK.out w1 HS.out.es).mono ?_
  rintro e w2 ⟨rfl, hb⟩
  have HS2 := hid (HS.out.kept hb)
  clear hb HS
  by_cases hc : chk g = true
  case neg =>
    have hc' : chk g = false := by simpa using hc
    rw [hc']
    clear hc hc'
    go_wp2_with fail
    refine (lives_any _).mono ?_
    rintro e w3 ⟨rfl, hb⟩
    have HB := hid (below_tr HS2.out.below hb)
    clear hb
    go_wp2
    go_ret
    exact ⟨rfl, HB.out⟩
  rw [hc]
  have HC := hid hc
  clear hc
  go_wp2_with fail
  refine (weight_any n _ HNI.out).mono ?_
  rintro e w3 ⟨rfl, rfl⟩
  obtain ⟨t, ht⟩ : ∃ t, t = wtF n := ⟨_, rfl⟩
  have ht0 := wtF_in n
  rw [← ht] at ht0 ⊢
  clear ht
  obtain ⟨k, hk⟩ : ∃ k, k = 1 + t % 1000 := ⟨_, rfl⟩
  have hk1 : 1 ≤ k ∧ k ≤ 1000 := by omega
  have hsz := BestAns.sizes HC.out
  obtain ⟨R, hR⟩ : ∃ R, R = g.rows.toNat := ⟨_, rfl⟩
  obtain ⟨C, hC⟩ : ∃ C, C = g.cols.toNat := ⟨_, rfl⟩
  rw [← hR, ← hC] at hsz
  obtain ⟨hR64, hC64, hRr, hCc⟩ := hsz
  have HRr := hid hRr
  have HCc := hid hCc
  have HRC := hid (And.intro hR hC)
  have HKK := hid hk
  clear hRr hCc hR hC hk
  have b0 := HS2.out.rows HRr.out
  have b1 := HS2.out.cols HCc.out
  go_upto_region 5 with fail
  rw [← HKK.out]
  have HH0 := hid (HBx.start w2 (R : Int) (C : Int))
  generalize w2.alloc (.cells #[.int .i64 (R : Int), .int .i64 (C : Int), .slice none 0 0] 24) = w3 at *
  obtain ⟨hb, hhb⟩ : ∃ hb, hb = w2.heap.size := ⟨_, rfl⟩
  rw [← hhb] at HH0 ⊢
  have HGH : Hid (gb < hb) := hid (by rw [hhb]; exact heap_lt HS2.out.blk)
  generalize hb + 1 = B at *
  clear hhb b0 b1 ht0
  have HES := hid (es_len HC.out)
  go_wp2
  go_loopw [6] (fun i wr => ∃ (j : Nat) (pv : Value) (L : List Ed), j ≤ g.es.length ∧ i = .int .i64 j ∧ Hid (HBx w2 wr hb B R C pv L) ∧ Hid (L = (g.es.take j).map fun e => ⟨e.r, e.c, k * e.w⟩) ∧ Hid (∀ x ∈ g.es.take j, k * x.w ≤ 1099513724929)) (fun i _ => g.es.length - (intOf i).toNat)
  case atStart => exact ⟨0, _, _, by omega, rfl, HH0, hid rfl, hid (fun x hx => by simp at hx)⟩
  case round =>
    clear HH0
    obtain ⟨j, pv, L, hj, rfl, HH, HL, HLO⟩ := hrel
    have HSr := hid (HS2.out.kept HH.out.below)
    have c2 := HSr.out.list
    have hjl : (j : Int) ≤ 4096 := by have := HES.out; omega
    by_cases hlt : j < g.es.length
    · have hki : (j : Int) < (g.es.length : Int) := by omega
      obtain ⟨x, hx⟩ : ∃ x, g.es[j]? = some x := ⟨g.es[j], by simp [hlt]⟩
      have HX := hid hx
      have hin := chk_in HC.out (List.mem_of_getElem? hx)
      obtain ⟨eg, eo, haa, _, hcc⟩ := HSr.out.es.get hx
      have HCE : Hid (CellsAt wr eg (eo + j * 3) #[.int .i64 x.r, .int .i64 x.c, .int .i64 x.w]) := hid (by rw [Nat.mul_comm]; exact hcc)
      subst haa
      clear hx hcc
      go_upto_region 9 with (refine wpList_load_cells rfl 47 _ rfl _ _ rfl _ _ HCE.out Try.underlying47 rfl info_ed ?_)
      have hb9 := below_new wr (.cells #[.int .i64 x.r, .int .i64 x.c, .int .i64 x.w] 47)
      have HX9 := hid (heap_alloc_new wr (.cells #[.int .i64 x.r, .int .i64 x.c, .int .i64 x.w] 47))
      have HH9 := hid (HH.out.kept hb9)
      have HLH := hid (heap_lt HH.out.blk)
      clear HH HSr HCE c2 hb9
      generalize wr.alloc (.cells #[.int .i64 x.r, .int .i64 x.c, .int .i64 x.w] 47) = wy at *
      generalize wr.heap.size = eb at *
      have x2 := row_cell HX9.out 2 (.int .i64 x.w) rfl
      go_quiet (fail)
      have hdn := below_dn wy nq
      have HX10 := hid (below_keep hdn HX9.out)
      have HH10 := hid (HH9.out.kept hdn)
      have HLQ : Hid (eb < (wy.drewN nq).heap.size) := hid (heap_lt HX10.out)
      clear HX9 HH9 hdn x2
      generalize wy.drewN nq = wz at *
      by_cases hbig : 1099513724929 / k < x.w
      · go_wp2_with fail
        refine (lives_any _).mono ?_
        rintro e w6 ⟨rfl, hb⟩
        have HB := hid (below_tr (HS2.out.kept HH10.out.below).below hb)
        clear hb
        go_wp2
        go_ret
        exact ⟨rfl, HB.out⟩
      have hbd : ¬ (1099513724929 / k < x.w) := hbig
      have hpr : k * x.w ≤ 1099513724929 := by
        have h1 : x.w ≤ 1099513724929 / k := by omega
        have h2 := (Int.le_ediv_iff_mul_le (show (0 : Int) < k by omega)).1 h1
        rw [Int.mul_comm] at h2; exact h2
      have hp0 : 0 ≤ k * x.w := Int.mul_nonneg (by omega) (by have := hin.2.2.1; omega)
      obtain ⟨m, hm⟩ : ∃ m, m = k * x.w := ⟨_, rfl⟩
      have hwm : IntKind.i64.wrap (k * x.w) = m := by rw [← hm] at hpr hp0; rw [hm]; exact IntWalk.i64_in _ (by omega)
      have HLO2 : Hid (∀ y ∈ g.es.take (j + 1), k * y.w ≤ 1099513724929) := hid (fun y hy => by
        obtain ⟨h1, h2⟩ := List.getElem?_eq_some_iff.1 HX.out
        rw [List.take_succ_eq_append_getElem h1, h2] at hy
        rcases List.mem_append.1 hy with hy | hy
        · exact HLO.out y hy
        · obtain rfl : y = x := by simpa using hy
          exact hpr)
      have HM2 := hid hm
      have x0 := row_cell HX10.out 0 (.int .i64 x.r) rfl
      have x1 := row_cell HX10.out 1 (.int .i64 x.c) rfl
      have x2 := row_cell HX10.out 2 (.int .i64 x.w) rfl
      have h2 := HH10.out.list
      clear hm hpr hp0 hbig hin HLO
      have HLL : Hid (L.length ≤ 4096) := hid (by rw [HL.out, List.length_map, List.length_take]; have := HES.out; omega)
      have HOW := hid (HH10.out.ownAt (below_new wz (.cells #[.int .i64 x.r, .int .i64 x.c, .int .i64 m] 47)))
      have HSZ : Hid (B ≤ (wz.alloc (.cells #[.int .i64 x.r, .int .i64 x.c, .int .i64 m] 47)).heap.size) := hid (by rw [alloc_size]; have := HH10.out.ord; omega)
      have HFIN := hid (fun (v5 : Value) (w5 : World) ho hg => HH10.out.grow (m := [⟨x.r, x.c, m⟩]) (v2 := v5) (w4 := w5) (below_new wz (.cells #[.int .i64 x.r, .int .i64 x.c, .int .i64 m] 47)) rfl rfl ho hg)
      obtain ⟨i1, hi1, hz10, hz11, hz12⟩ := info_parts info_edge3
      go_wp2_with (at_builtin; refine wpList_append_own_at _ rfl _ _ 22 rfl B 47 i1 (.agg #[.int .i64 0, .int .i64 0, .int .i64 0]) 3 24 Try.underlying22 hi1 hz10 hz11 hz12 rfl (by decide) pv L.length (flatV edV L) rfl HOW.out ⟨wz.heap.size, 0, none⟩ 1 1 [.int .i64 x.r, .int .i64 x.c, .int .i64 m] rfl rfl (cells_new _ _ _) (by simp [Value.oneCell']) ?d3 ?d4 HSZ.out ?_)
      case d3 => have := HLL.out; unfold maxLen; omega
      case d4 => have := HLL.out; omega
      intro v5 w5 hown5 hgrow5 _ _
      obtain ⟨a5, p5, rfl⟩ := ownsRow_shape hown5
      have hfin := HFIN.out _ w5 hown5 hgrow5
      have c5 := row_cell hfin.1 2 pv rfl
      have f5 := free_row hfin.1 2
      have HG5 := hid hfin.2
      clear hown5 hgrow5 hfin HFIN HOW HSZ h2 x0 x1 x2
      go_wp2
      go_roundw
      case rel => exact ⟨j + 1, _, _, by omega, by go_num, HG5, hid (by rw [scaled_take k _ HX.out, ← HL.out, ← HM2.out]), HLO2⟩
      case measure => simp [intOf]; omega
    · obtain rfl : j = g.es.length := by omega
      have hkr : ¬ ((g.es.length : Int) < (g.es.length : Int)) := by omega
      rw [List.take_length] at HL HLO
      obtain ⟨gx, hgx⟩ : ∃ gx, gx = scaled g k := ⟨_, rfl⟩
      have hcx : chk gx = true := by rw [hgx]; exact scaled_chk HC.out hk1.1 HLO.out
      obtain ⟨Ax, capx, rfl, hx1, hx2, hx3⟩ := HH.out.graph (gx := gx) (by rw [hgx]; exact HRr.out) (by rw [hgx]; exact HCc.out) (by rw [hgx]; exact HL.out.symm)
      have HGX := hid hgx
      have HCX := hid hcx
      have HOX := hid (gr_ok hcx hx1 hx2)
      have HX := hid hx3
      have HRx : Hid (gx.rows = (R : Int) ∧ gx.cols = (C : Int) ∧ gx.rows.toNat = R ∧ gx.cols.toNat = C) := hid (by
        have h1 : gx.rows = (R : Int) := by rw [hgx]; exact HRr.out
        have h2 : gx.cols = (C : Int) := by rw [hgx]; exact HCc.out
        omega)
      clear hj hlt hgx hcx hx1 hx2 hx3 HH
      -- the two best ones
      go_wp2_with (refine wpList_load_w rfl 24 _ rfl _ rfl _ _ _ _ (HSr.out.blk) Try.underlying24 rfl (info_gr) ?_)
      refine (lbest_any g a cap HOK.out (Nat.le_trans (es_len HC.out) (by omega)) wr HSr.out.es).mono ?_
      rintro e w4 ⟨hb4, hcase⟩
      have HS4 := hid (HSr.out.kept hb4)
      have HX4 := hid (HX.out.kept hb4)
      clear hb4 HSr HX hkr c2
      rcases hcase with ⟨hc, _⟩ | ⟨_, tt, y, z, v, ha, rfl, hcv⟩
      · rw [HC.out] at hc; cases hc
      have HA := hid ha
      rw [← HRC.out.1, ← HRC.out.2] at hcv
      obtain ⟨ps, hps⟩ : ∃ ps, ps = prsTo tt R := ⟨_, rfl⟩
      obtain ⟨ys, hys⟩ : ∃ ys, ys = y.take R := ⟨_, rfl⟩
      obtain ⟨zs, hzs⟩ : ∃ zs, zs = z.take C := ⟨_, rfl⟩
      obtain ⟨va, hva⟩ : ∃ va, va = val (wG g) (upTo g.rows.toNat tt) g.rows.toNat := ⟨_, rfl⟩
      rw [← hps, ← hys, ← hzs] at hcv
      rw [← hva]
      have HPS := hid hps
      have HYS := hid hys
      have HZS := hid hzs
      obtain ⟨Ap, cp, Ay, cy, Az, cz, rfl, _, _, _, r1, r2, r3⟩ := hcv.at_
      have HK := hid (CBx.start (cp := cp) (cy := cy) (cz := cz) r1 r2 r3)
      have hb5 := below_new w4 (.cells #[.slice Ap ps.length cp, .slice Ay ys.length cy, .slice Az zs.length cz] 39)
      have HS5 := hid (HS4.out.kept hb5)
      have HX5 := hid (HX4.out.kept hb5)
      clear ha hva hps hys hzs hcv r1 r2 r3 HS4 HX4 hb5
      go_upto_region 13 with fail
      generalize w4.alloc (.cells #[.slice Ap ps.length cp, .slice Ay ys.length cy, .slice Az zs.length cz] 39) = w5 at *
      generalize w4.heap.size = cb at *
      go_wp2_with (refine wpList_load_w rfl 24 _ rfl _ rfl _ _ _ _ (HX5.out.blk) Try.underlying24 rfl (info_gr) ?_)
      refine (lbest_any gx Ax capx HOX.out (Nat.le_trans (es_len HCX.out) (by omega)) w5 HX5.out.es).mono ?_
      rintro e w6 ⟨hb6, hcase⟩
      have HS6 := hid (HS5.out.kept hb6)
      have HK6 := hid (HK.out.kept hb6)
      clear hb6 HS5 HX5 HK
      rcases hcase with ⟨hc, _⟩ | ⟨_, tt2, y2, z2, v2, ha, rfl, hcv⟩
      · rw [HCX.out] at hc; cases hc
      have HA2 := hid ha
      rw [HRx.out.2.2.1, HRx.out.2.2.2] at hcv
      obtain ⟨ps2, hps⟩ : ∃ ps, ps = prsTo tt2 R := ⟨_, rfl⟩
      obtain ⟨ys2, hys⟩ : ∃ ys, ys = y2.take R := ⟨_, rfl⟩
      obtain ⟨zs2, hzs⟩ : ∃ zs, zs = z2.take C := ⟨_, rfl⟩
      obtain ⟨vb, hvb⟩ : ∃ vb, vb = val (wG gx) (upTo gx.rows.toNat tt2) gx.rows.toNat := ⟨_, rfl⟩
      rw [← hps, ← hys, ← hzs] at hcv
      rw [← hvb]
      have HPS2 := hid hps
      have HYS2 := hid hys
      have HZS2 := hid hzs
      obtain ⟨Bp, dp, By, dy, Bz, dz, rfl, _, _, _, r1, r2, r3⟩ := hcv.at_
      have HL6 := hid (CBx.start (cp := dp) (cy := dy) (cz := dz) r1 r2 r3)
      have hb7 := below_new w6 (.cells #[.slice Bp ps2.length dp, .slice By ys2.length dy, .slice Bz zs2.length dz] 39)
      have HS7 := hid (HS6.out.kept hb7)
      have HK7 := hid (HK6.out.kept hb7)
      clear ha hvb hps hys hzs hcv r1 r2 r3 HS6 HK6 hb7
      go_upto_region 14 with fail
      generalize w6.alloc (.cells #[.slice Bp ps2.length dp, .slice By ys2.length dy, .slice Bz zs2.length dz] 39) = w7 at *
      generalize w6.heap.size = db at *
      -- what is known of them
      have hsame := scaled_same HC.out hk1.1 HLO.out HA.out (by rw [← HGX.out]; exact HA2.out)
      rw [← HRC.out.1, ← HRC.out.2, ← HPS.out, ← HPS2.out] at hsame
      have HSM := hid hsame
      have HLY : Hid (ys.length = R ∧ zs.length = C ∧ ys2.length = R ∧ zs2.length = C ∧ ps.length ≤ 64) := hid ⟨by rw [HYS.out, List.length_take, HA.out.ly]; omega, by rw [HZS.out, List.length_take, HA.out.lz]; omega, by rw [HYS2.out, List.length_take, HA2.out.ly]; omega, by rw [HZS2.out, List.length_take, HA2.out.lz]; omega, by have := prsTo_len tt R; rw [HPS.out]; omega⟩
      clear hsame
      have a1 := row_cell HK7.out.blk 0 (.slice Ap ps.length cp) rfl
      have a2 := row_cell HL6.out.blk 0 (.slice Bp ps2.length dp) rfl
      go_wp2_with fail
      refine (samePairs_any ps ps2 Ap Bp cp dp (by have := HLY.out; omega) (by rw [← HSM.out.1]; have := HLY.out; omega) w7 HK7.out.p HL6.out.p).mono ?_
      rintro e w8 ⟨rfl, m8, hm8⟩
      rw [show decide (ps = ps2) = true from decide_eq_true HSM.out.1]
      have hb8 : Below w7.heap.size w7 w8 := by rw [hm8]; exact below_dn _ m8
      have HS8 := hid (HS7.out.kept hb8)
      have HK8 := hid (HK7.out.kept hb8)
      have HL8 := hid (HL6.out.kept hb8)
      clear hm8 hb8 a1 a2 HS7 HK7 HL6
      have b0 := HS8.out.rows HRr.out
      go_wp2
      clear b0
      go_loopw [14] (fun i wx => ∃ j : Nat, j ≤ R ∧ i = .int .i64 j ∧ Hid (Below w8.heap.size w8 wx)) (fun i _ => R - (intOf i).toNat)
      case atStart => exact ⟨0, by omega, rfl, hid (Below.refl _ _)⟩
      case round =>
        obtain ⟨r, hr, rfl, HB9⟩ := hrel
        have HS9 := hid (HS8.out.kept HB9.out)
        have HK9 := hid (HK8.out.kept HB9.out)
        have HL9 := hid (HL8.out.kept HB9.out)
        have b0 := HS9.out.rows HRr.out
        have hr64 : (r : Int) ≤ 64 := by omega
        by_cases hlt : r < R
        · have hki : (r : Int) < (R : Int) := by omega
          have a1 := row_cell HK9.out.blk 1 (.slice Ay ys.length cy) rfl
          have a2 := row_cell HL9.out.blk 1 (.slice By ys2.length dy) rfl
          rw [HLY.out.1] at a1
          rw [HLY.out.2.2.1] at a2
          have q1 : ys[r]? = some (getI y r) := by rw [HYS.out]; exact take_get hlt (by rw [HA.out.ly]; exact hR64)
          have q2 : ys2[r]? = some (getI y2 r) := by rw [HYS2.out]; exact take_get hlt (by rw [HA2.out.ly]; exact hR64)
          obtain ⟨ga, oa, hAy, e1⟩ := num_cell HK9.out.y q1
          obtain ⟨gc, oc, hBy, e2⟩ := num_cell HL9.out.y q2
          subst hAy hBy
          have hpy := HA2.out.price_y HCX.out (r := r) (by rw [HRx.out.2.2.1]; exact hlt)
          have hsm := HSM.out.2.1 r hlt
          have hw : IntKind.i64.wrap (k * getI y r) = getI y2 r := by rw [← hsm]; exact IntWalk.i64_in _ (by omega)
          clear q1 q2 hpy hsm
          generalize getI y2 r = yx at *
          generalize getI y r = yr at *
          go_wp2
          go_quiet (fail)
          go_wp2
          exact ⟨⟨r + 1, by omega, by go_num, hid (below_tr HB9.out (below_dn _ _))⟩, by simp [intOf]; omega⟩
        · obtain rfl : r = R := by omega
          have hkr : ¬ ((r : Int) < (r : Int)) := by omega
          clear hr hlt
          go_wp2
          clear b0 hkr
          go_loopw [15] (fun i wx => ∃ j : Nat, j ≤ C ∧ i = .int .i64 j ∧ Hid (Below wr.heap.size wr wx)) (fun i _ => C - (intOf i).toNat)
          case atStart => exact ⟨0, by omega, rfl, hid (Below.refl _ _)⟩
          case round =>
            obtain ⟨c, hcl, rfl, HB10⟩ := hrel
            have HS10 := hid (HS9.out.kept HB10.out)
            have HK10 := hid (HK9.out.kept HB10.out)
            have HL10 := hid (HL9.out.kept HB10.out)
            have b0 := HS10.out.cols HCc.out
            have hc64 : (c : Int) ≤ 64 := by omega
            by_cases hlt : c < C
            · have hki : (c : Int) < (C : Int) := by omega
              have a1 := row_cell HK10.out.blk 2 (.slice Az zs.length cz) rfl
              have a2 := row_cell HL10.out.blk 2 (.slice Bz zs2.length dz) rfl
              rw [HLY.out.2.1] at a1
              rw [HLY.out.2.2.2.1] at a2
              have q1 : zs[c]? = some (getI z c) := by rw [HZS.out]; exact take_get hlt (by rw [HA.out.lz]; exact hC64)
              have q2 : zs2[c]? = some (getI z2 c) := by rw [HZS2.out]; exact take_get hlt (by rw [HA2.out.lz]; exact hC64)
              obtain ⟨ga, oa, hAy, e1⟩ := num_cell HK10.out.z q1
              obtain ⟨gc, oc, hBy, e2⟩ := num_cell HL10.out.z q2
              subst hAy hBy
              have hpy := HA2.out.price_z HCX.out (c := c) (by rw [HRx.out.2.2.2]; exact hlt)
              have hsm := HSM.out.2.2 c hlt
              have hw : IntKind.i64.wrap (k * getI z c) = getI z2 c := by rw [← hsm]; exact IntWalk.i64_in _ (by omega)
              clear q1 q2 hpy hsm
              generalize getI z2 c = yx at *
              generalize getI z c = yr at *
              go_wp2
              go_quiet (fail)
              go_wp2
              exact ⟨⟨c + 1, by omega, by go_num, hid (below_tr HB10.out (below_dn _ _))⟩, by simp [intOf]; omega⟩
            · obtain rfl : c = C := by omega
              have hkr : ¬ ((c : Int) < (c : Int)) := by omega
              clear hcl hlt
              go_wp2_with fail
              refine (lives_any _).mono ?_
              rintro e w11 ⟨rfl, hb⟩
              have HB11 := hid (below_tr HS10.out.below hb)
              clear hb
              go_wp2
              go_ret
              exact ⟨rfl, HB11.out⟩
end Go.Proofs.Ytmddhjoomlhbcaa
