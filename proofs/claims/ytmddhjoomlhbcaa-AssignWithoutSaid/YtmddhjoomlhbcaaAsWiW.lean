/- The walk of AssignWithout. -/
import Derived.Test.YtmddhjoomlhbcaaAsHb
import Derived.Test.YtmddhjoomlhbcaaAsTb
import Derived.Test.YtmddhjoomlhbcaaAsAl
import Derived.Maps.AppendAt
import Derived.Deep.AppendLies
namespace Go.Proofs.Ytmddhjoomlhbcaa
open Go.RowKit

set_option maxRecDepth 100000 in
set_option maxHeartbeats 8000000 in
theorem awithout_any (g : Gr) (a : Option Addr) (cap : Nat) (hok : GrOk g cap) (n : Int) (hn : I64 n) (w : World) (hr : RowsAt 3 edV w a g.es) :
    Calls Try.prog 7 #[grV g a cap, .int .i64 n] w fun e w' => e = .returned (.bool true) ∧ Below w.heap.size w w' := by
  have HR := hid hr
  have HOK := hid hok
  have HNI := hid hn
  have hnb : n ≤ 9223372036854775807 := hn.2
  clear hr hok hn
  unfold grV at *
  go_enter Try.func7, Try.ntmps7
  go_upto_region 1 with fail
  have HS := hid (GBx.start (cap := cap) HR.out)
  generalize w.alloc (.cells #[.int .i64 g.rows, .int .i64 g.cols, .slice a g.es.length cap] 24) = w1 at *
  obtain ⟨gb, hgb⟩ : ∃ gb, gb = w.heap.size := ⟨_, rfl⟩
  rw [← hgb] at HS ⊢
  have HGB := hid hgb
  clear hgb
  go_wp2_with (refine wpList_load_w rfl 24 _ rfl _ rfl _ _ _ _ (HS.out.blk) Try.underlying24 rfl (info_gr) ?_)
  refine (may_any g a cap HOK.out w1 HS.out.es).mono ?_
  rintro e w2 ⟨rfl, hb⟩
  have HS2 := hid (HS.out.kept hb)
  clear hb HS
  by_cases hc : chk g = true
  case neg =>
    have hc' : chk g = false := by simpa using hc
    rw [hc']
    clear hc hc'
    go_wp2_with fail
    refine (lives_any _).mono ?_
    rintro e wl ⟨rfl, hb⟩
    have HB := hid (below_tr (HS2.out.below) hb)
    clear hb
    go_wp2
    go_ret
    exact ⟨rfl, HB.out⟩
  rw [hc]
  have HC := hid hc
  clear hc
  have hsz := BestAns.sizes HC.out
  obtain ⟨R, hR⟩ : ∃ R, R = g.rows.toNat := ⟨_, rfl⟩
  obtain ⟨C, hC⟩ : ∃ C, C = g.cols.toNat := ⟨_, rfl⟩
  rw [← hR, ← hC] at hsz
  obtain ⟨hR64, hC64, hRr, hCc⟩ := hsz
  have HRr := hid hRr
  have HCc := hid hCc
  have HRC := hid (And.intro hR hC)
  clear hRr hCc hR hC
  have b0 := HS2.out.rows HRr.out
  by_cases h0 : R = 0
  · subst h0
    go_wp2_with fail
    refine (lives_any _).mono ?_
    rintro e wl ⟨rfl, hb⟩
    have HB := hid (below_tr (HS2.out.below) hb)
    clear hb
    go_wp2
    go_ret
    exact ⟨rfl, HB.out⟩
  have h0b : ((R : Int) == 0) = false := by simp; omega
  by_cases hneg : n < 0
  · have hn2 : decide (n < 0) = true := decide_eq_true hneg
    go_wp2_with fail
    refine (lives_any _).mono ?_
    rintro e wl ⟨rfl, hb⟩
    have HB := hid (below_tr (HS2.out.below) hb)
    clear hb
    go_wp2
    go_ret
    exact ⟨rfl, HB.out⟩
  have hn2 : decide (n < 0) = false := decide_eq_false hneg
  obtain ⟨q, hq⟩ : ∃ q : Nat, n % (R : Int) = (q : Int) := ⟨(n % (R : Int)).toNat, by have := Int.emod_nonneg n (show (R : Int) ≠ 0 by omega); omega⟩
  have hqR : q < R := by have := Int.emod_lt_of_pos n (show (0 : Int) < R by omega); omega
  have HQ := hid hq
  have HQR := hid hqR
  have hn0 : 0 ≤ n := by omega
  have hR1 : (1 : Int) ≤ (R : Int) := by omega
  clear hq h0 hneg hqR
  go_upto_region 4 with fail
  rw [HQ.out]
  clear b0 h0b hn2 hn0
  go_wp2_with (refine wpList_load_w rfl 24 _ rfl _ rfl _ _ _ _ (HS2.out.blk) Try.underlying24 rfl (info_gr) ?_)
  refine (lbest_any g a cap HOK.out (Nat.le_trans (es_len HC.out) (by omega)) _ HS2.out.es).mono ?_
  rintro e w4 ⟨hb4, hcase⟩
  have HS4 := hid (HS2.out.kept hb4)
  clear hb4 HS2
  rcases hcase with ⟨hc, _⟩ | ⟨_, tt, y, z, v, ha, rfl, hcv⟩
  · rw [HC.out] at hc; cases hc
  have HA := hid ha
  rw [← HRC.out.1, ← HRC.out.2] at hcv
  obtain ⟨ps, hps⟩ : ∃ ps, ps = prsTo tt R := ⟨_, rfl⟩
  obtain ⟨ys, hys⟩ : ∃ ys, ys = y.take R := ⟨_, rfl⟩
  obtain ⟨zs, hzs⟩ : ∃ zs, zs = z.take C := ⟨_, rfl⟩
  obtain ⟨va, hva⟩ : ∃ va, va = val (wG g) (upTo g.rows.toNat tt) g.rows.toNat := ⟨_, rfl⟩
  rw [← hps, ← hys, ← hzs] at hcv
  rw [← hva]
  have HVA := hid hva
  have HPS := hid hps
  have HYS := hid hys
  have HZS := hid hzs
  obtain ⟨Ap, cp, Ay, cy, Az, cz, rfl, _, _, _, r1, r2, r3⟩ := hcv.at_
  have HK := hid (CBx.start (cp := cp) (cy := cy) (cz := cz) r1 r2 r3)
  have hb5 := below_new w4 (.cells #[.slice Ap ps.length cp, .slice Ay ys.length cy, .slice Az zs.length cz] 39)
  have HS5 := hid (HS4.out.kept hb5)
  clear ha hva hps hys hzs hcv r1 r2 r3 HS4 hb5
  go_upto_region 5 with fail
  generalize w4.alloc (.cells #[.slice Ap ps.length cp, .slice Ay ys.length cy, .slice Az zs.length cz] 39) = w5 at *
  generalize w4.heap.size = cb at *
  have b0 := HS5.out.rows HRr.out
  have b1 := HS5.out.cols HCc.out
  go_upto_region 6 with fail
  have HH0 := hid (HBx.start w5 (R : Int) (C : Int))
  generalize w5.alloc (.cells #[.int .i64 (R : Int), .int .i64 (C : Int), .slice none 0 0] 24) = w3 at *
  obtain ⟨hb, hhb⟩ : ∃ hb, hb = w5.heap.size := ⟨_, rfl⟩
  rw [← hhb] at HH0 ⊢
  have HGH : Hid (gb < hb) := hid (by rw [hhb]; exact heap_lt HS5.out.blk)
  generalize hb + 1 = B at *
  clear hhb b0 b1
  have HES := hid (es_len HC.out)
  go_wp2
  go_loopw [9] (fun i wr => ∃ (k : Nat) (pv : Value) (L : List Ed), k ≤ g.es.length ∧ i = .int .i64 k ∧ Hid (HBx w5 wr hb B R C pv L) ∧ Hid (L = (g.es.take k).filter fun e => e.r != (q : Int))) (fun i _ => g.es.length - (intOf i).toNat)
  case atStart => exact ⟨0, _, _, by omega, rfl, HH0, hid (by simp)⟩
  case round =>
    clear HH0
    obtain ⟨k, pv, L, hk, rfl, HH, HL⟩ := hrel
    have HSr := hid (HS5.out.kept HH.out.below)
    have c2 := HSr.out.list
    have hk64 : (k : Int) ≤ 4096 := by have := HES.out; omega
    by_cases hkl : k < g.es.length
    · -- L1
      have hkk : (k : Int) < (g.es.length : Int) := by omega
      obtain ⟨x, hx⟩ : ∃ x, g.es[k]? = some x := ⟨g.es[k], by simp [hkl]⟩
      have HTK : Hid ((g.es.take (k + 1)).filter (fun e => e.r != (q : Int)) = L ++ if (x.r != (q : Int)) = true then [x] else []) := hid (by
        obtain ⟨h1, h2⟩ := List.getElem?_eq_some_iff.1 hx
        rw [List.take_succ_eq_append_getElem h1, h2, List.filter_append, HL.out]
        congr 1
        by_cases e : (x.r != (q : Int)) = true <;> simp [e])
      obtain ⟨eg, eo, haa, _, hcc⟩ := HSr.out.es.get hx
      rw [Nat.mul_comm] at hcc
      obtain ⟨xr, hxr⟩ : ∃ v, v = x.r := ⟨_, rfl⟩
      obtain ⟨xc, hxc⟩ : ∃ v, v = x.c := ⟨_, rfl⟩
      obtain ⟨xw, hxw⟩ : ∃ v, v = x.w := ⟨_, rfl⟩
      have x0 : wr.cell? ⟨eg, eo + k * 3, none⟩ = some (.int .i64 xr) := by rw [hxr]; exact hcc 0 _ rfl
      have x1 : wr.cell? ⟨eg, eo + k * 3 + 1, none⟩ = some (.int .i64 xc) := by rw [hxc]; exact hcc 1 _ rfl
      have x2 : wr.cell? ⟨eg, eo + k * 3 + 2, none⟩ = some (.int .i64 xw) := by rw [hxw]; exact hcc 2 _ rfl
      have HXE : Hid (x = ⟨xr, xc, xw⟩) := hid (by rw [hxr, hxc, hxw])
      rw [← hxr] at HTK
      subst haa
      clear hx hcc hxr hxc hxw
      have HLL : Hid (L.length ≤ 9000) := hid (by have := HES.out; rw [HL.out]; have := List.length_filter_le (fun e : Ed => e.r != (q : Int)) (g.es.take k); rw [List.length_take] at this; omega)
      by_cases hne : (xr != (q : Int)) = true
      · rw [if_pos hne] at HTK
        obtain ⟨wz, hwz⟩ : ∃ wz, wz = wr := ⟨_, rfl⟩
        subst hwz
        have HH10 := hid HH.out
        have nhb : hb ≠ gb := by have := HGH.out; omega
        clear HH
        go_wp2
        have HHq := hid (HH10.out.kept (Below.refl _ _).drew)
        have HOW := hid (HHq.out.ownAt (below_new wz.drew (.cells #[.int .i64 xr, .int .i64 xc, .int .i64 xw] 47)))
        have HSZ : Hid (B ≤ (wz.drew.alloc (.cells #[.int .i64 xr, .int .i64 xc, .int .i64 xw] 47)).heap.size) := hid (by rw [alloc_size]; have := HHq.out.ord; omega)
        have HFIN := hid (fun (gu ucap : Nat) (w5 : World) ho hg => HHq.out.grow (m := [⟨xr, xc, xw⟩]) (v2 := .slice (some ⟨gu, 0, none⟩) (L.length + 1) ucap) (w4 := w5) (below_new wz.drew (.cells #[.int .i64 xr, .int .i64 xc, .int .i64 xw] 47)) rfl rfl ho hg)
        obtain ⟨i1, hi1, hz10, hz11, hz12⟩ := info_parts info_edge3
        have h2 := HH10.out.list
        have lhb := heap_lt HH10.out.blk
        go_region_law ((first | (refine step_append_lies _ (by rfl) _ _ 22 (by rfl) B 47 i1 (.agg #[.int .i64 0, .int .i64 0, .int .i64 0]) 3 24 Try.underlying22 hi1 hz10 hz11 hz12 (by rfl) (by decide) pv L.length (flatV edV L) (by rfl) HOW.out ⟨wz.heap.size, 0, none⟩ 1 1 [.int .i64 xr, .int .i64 xc, .int .i64 xw] (by rfl) (by rfl) (cells_new _ _ _) (by simp [Value.oneCell']) (by omega) (by have := HLL.out; unfold maxLen; omega) (by have := HLL.out; omega) HSZ.out (wz.heap.size + 1) (by simp) ?_; intro gu ucap w5 hown' hgrow hat hgult; have hfin := HFIN.out gu ucap w5 hown' hgrow; have c5 := row_cell hfin.1 2 pv rfl; have f5 := free_row hfin.1 2; have HG5 := hid hfin.2; clear hown' hgrow hat hfin)))
        all_goals go_wp2
        all_goals go_roundw
        all_goals first
          | exact ⟨k + 1, _, _, by omega, by go_num, hid HG5.out, hid (by rw [HTK.out, HXE.out])⟩
          | (simp [intOf]; omega)
      · have hne2 : (xr != (q : Int)) = false := by simpa using hne
        rw [if_neg hne, List.append_nil] at HTK
        clear hne
        go_wp2
        exact ⟨⟨k + 1, _, _, by omega, by go_num, HH, hid HTK.out.symm⟩, by simp [intOf]; omega⟩
      -- /L1
    · -- L2
      obtain rfl : k = g.es.length := by omega
      have hkr : ¬ ((g.es.length : Int) < (g.es.length : Int)) := by omega
      rw [List.take_length] at HL
      obtain ⟨gx, hgx⟩ : ∃ gx, gx = without g q := ⟨_, rfl⟩
      have hcx : chk gx = true := by rw [hgx]; exact without_chk HC.out q
      obtain ⟨Ax, capx, rfl, hx1, hx2, hx3⟩ := HH.out.graph (gx := gx) (by rw [hgx]; exact HRr.out) (by rw [hgx]; exact HCc.out) (by rw [hgx]; exact HL.out.symm)
      have HGX := hid hgx
      have HCX := hid hcx
      have HOX := hid (gr_ok hcx hx1 hx2)
      have HX5 := hid hx3
      have HRx : Hid (gx.rows = (R : Int) ∧ gx.cols = (C : Int) ∧ gx.rows.toNat = R ∧ gx.cols.toNat = C) := hid (by
        have h1 : gx.rows = (R : Int) := by rw [hgx]; exact HRr.out
        have h2 : gx.cols = (C : Int) := by rw [hgx]; exact HCc.out
        omega)
      clear hkl hgx hcx hx1 hx2 hx3 HH hk HSr
      go_wp2_with (refine wpList_load_w rfl 24 _ rfl _ rfl _ _ _ _ (HX5.out.blk) Try.underlying24 rfl (info_gr) ?_)
      refine (lbest_any gx Ax capx HOX.out (Nat.le_trans (es_len HCX.out) (by omega)) _ HX5.out.es).mono ?_
      rintro e w6 ⟨hb6, hcase⟩
      have HB6 := hid (below_tr (below_tr HS5.out.below HX5.out.below) hb6)
      have HK6 := hid ((HK.out.kept HX5.out.below).kept hb6)
      clear hb6 HX5 c2 hkr
      rcases hcase with ⟨hc, _⟩ | ⟨_, tt2, y2, z2, v2, ha, rfl, hcv⟩
      · rw [HCX.out] at hc; cases hc
      have HA2 := hid ha
      rw [HRx.out.2.2.1, HRx.out.2.2.2] at hcv
      obtain ⟨ps2, hps⟩ : ∃ ps, ps = prsTo tt2 (R) := ⟨_, rfl⟩
      obtain ⟨ys2, hys⟩ : ∃ ys, ys = y2.take (R) := ⟨_, rfl⟩
      obtain ⟨zs2, hzs⟩ : ∃ zs, zs = z2.take (C) := ⟨_, rfl⟩
      obtain ⟨vb, hvb⟩ : ∃ vb, vb = val (wG gx) (upTo gx.rows.toNat tt2) gx.rows.toNat := ⟨_, rfl⟩
      rw [← hps, ← hys, ← hzs] at hcv
      rw [← hvb]
      have HVB := hid hvb
      have HPS2 := hid hps
      have HYS2 := hid hys
      have HZS2 := hid hzs
      obtain ⟨Bp, dp, By, dy, Bz, dz, rfl, _, _, _, r1, r2, r3⟩ := hcv.at_
      have HL6 := hid (CBx.start (cp := dp) (cy := dy) (cz := dz) r1 r2 r3)
      have hb7 := below_new w6 (.cells #[.slice Bp ps2.length dp, .slice By ys2.length dy, .slice Bz zs2.length dz] 39)
      have HB7 := hid (below_tr HB6.out hb7)
      have HK7 := hid (HK6.out.kept hb7)
      clear ha hvb hps hys hzs hcv r1 r2 r3 HB6 HK6 hb7
      go_upto_region 12 with fail
      generalize w6.alloc (.cells #[.slice Bp ps2.length dp, .slice By ys2.length dy, .slice Bz zs2.length dz] 39) = w7 at *
      generalize w6.heap.size = db at *
      have HLY : Hid (ys.length = R ∧ zs.length = C ∧ ys2.length = R ∧ zs2.length = C) := hid ⟨by rw [HYS.out, List.length_take, HA.out.ly]; omega, by rw [HZS.out, List.length_take, HA.out.lz]; omega, by rw [HYS2.out, List.length_take, HA2.out.ly]; omega, by rw [HZS2.out, List.length_take, HA2.out.lz]; omega⟩
      have hval := without_price w7 (r := q) (wG_ok HC.out) (BestAns.sizes HC.out).1 (BestAns.sizes HC.out).2.1 (wG_out HC.out) HA.out.best (by rw [← HRC.out.1, ← HRC.out.2]; have := HA2.out.best; rw [HRx.out.2.2.1, HRx.out.2.2.2] at this; exact this) (by rw [← HRC.out.1]; exact HQR.out) (by rw [HGX.out]; exact without_w HC.out q)
      rw [HRx.out.2.2.1] at HVB
      rw [← HRC.out.1] at hval HVA
      rw [← HVA.out, ← HVB.out] at hval
      have hpy := HA.out.price_y HC.out (r := q) (by rw [← HRC.out.1]; exact HQR.out)
      have hw : IntKind.i64.wrap (va - vb) = getI y q := by rw [hval]; exact IntWalk.i64_in _ (by omega)
      have q1 : ys[q]? = some (getI y q) := by rw [HYS.out]; exact take_get HQR.out (by rw [HA.out.ly]; exact hR64)
      obtain ⟨ga, oa, hAy, e1⟩ := num_cell HK7.out.y q1
      have a1 := row_cell HK7.out.blk 1 (.slice Ay ys.length cy) rfl
      rw [HLY.out.1] at a1
      subst hAy
      have hqi : (q : Int) < (R : Int) := by have := HQR.out; omega
      clear hval hpy q1
      generalize getI y q = yq at *
      go_wp2_with fail
      refine (lives_any _).mono ?_
      rintro e wl ⟨rfl, hb⟩
      have HB := hid (below_tr (HB7.out) hb)
      clear hb
      go_wp2
      go_ret
      exact ⟨rfl, HB.out⟩
      -- /L2
end Go.Proofs.Ytmddhjoomlhbcaa
