/- The walk of AssignRow. -/
import Derived.Test.YtmddhjoomlhbcaaAsHb
import Derived.Test.YtmddhjoomlhbcaaAsTb
import Derived.Test.YtmddhjoomlhbcaaAsAl
import Derived.Maps.AppendAt
import Derived.Deep.AppendLies
namespace Go.Proofs.Ytmddhjoomlhbcaa
open Go.RowKit

/-- A new edge's weight. -/
def wtOf (l : List Int) (c : Nat) : Int := (l[c]?.map wtF).getD 0
theorem wtOf_in (l : List Int) (c : Nat) : 0 ≤ wtOf l c ∧ wtOf l c ≤ 1099513724929 := by
  unfold wtOf
  cases l[c]? with
  | none => simp
  | some n => exact wtF_in n
theorem wtOf_at {l : List Int} {c : Nat} {n : Int} (h : l[c]? = some n) : wtOf l c = wtF n := by unfold wtOf; rw [h]; rfl
theorem wtOf_no {l : List Int} {c : Nat} (h : l.length ≤ c) : wtOf l c = 0 := by unfold wtOf; rw [List.getElem?_eq_none h]; rfl
set_option maxRecDepth 100000 in
set_option maxHeartbeats 8000000 in
theorem arow_any (g : Gr) (a : Option Addr) (cap : Nat) (hok : GrOk g cap) (wl : List Int) (A : Option Addr) (cl : Nat) (hwi : ∀ n ∈ wl, I64 n) (hwl : wl.length * 8 ≤ 140737488351232) (w : World) (hr : RowsAt 3 edV w a g.es) (hm : RowsAt 1 numV w A wl) :
    Calls Try.prog 9 #[grV g a cap, .slice A wl.length cl] w fun e w' => e = .returned (.bool true) ∧ Below w.heap.size w w' := by
  have HR := hid hr
  have HM := hid hm
  have HOK := hid hok
  have HWI := hid hwi
  have HWL := hid hwl
  clear hr hok hm hwi hwl
  unfold grV at *
  go_enter Try.func9, Try.ntmps9
  go_upto_region 1 with fail
  have HS := hid (GBx.start (cap := cap) HR.out)
  generalize w.alloc (.cells #[.int .i64 g.rows, .int .i64 g.cols, .slice a g.es.length cap] 24) = w1 at *
  obtain ⟨gb, hgb⟩ : ∃ gb, gb = w.heap.size := ⟨_, rfl⟩
  rw [← hgb] at HS ⊢
  have HGB := hid hgb
  clear hgb
  go_wp2_with (refine wpList_load_w rfl 24 _ rfl _ rfl _ _ _ _ (HS.out.blk) Try.underlying24 rfl (info_gr) ?_)
  refine (may_any g a cap HOK.out w1 HS.out.es).mono ?_
  rintro e w2 ⟨rfl, hb⟩
  have HS2 := hid (HS.out.kept hb)
  clear hb HS
  by_cases hc : chk g = true
  case neg =>
    have hc' : chk g = false := by simpa using hc
    rw [hc']
    clear hc hc'
    go_wp2_with fail
    refine (lives_any _).mono ?_
    rintro e wl ⟨rfl, hb⟩
    have HB := hid (below_tr (HS2.out.below) hb)
    clear hb
    go_wp2
    go_ret
    exact ⟨rfl, HB.out⟩
  rw [hc]
  have HC := hid hc
  clear hc
  have hsz := BestAns.sizes HC.out
  obtain ⟨R, hR⟩ : ∃ R, R = g.rows.toNat := ⟨_, rfl⟩
  obtain ⟨C, hC⟩ : ∃ C, C = g.cols.toNat := ⟨_, rfl⟩
  rw [← hR, ← hC] at hsz
  obtain ⟨hR64, hC64, hRr, hCc⟩ := hsz
  have HRr := hid hRr
  have HCc := hid hCc
  have HRC := hid (And.intro hR hC)
  clear hRr hCc hR hC
  have b0 := HS2.out.rows HRr.out
  have b1 := HS2.out.cols HCc.out
  have c2 := HS2.out.list
  by_cases h64 : R = 64
  · subst h64
    go_wp2_with fail
    refine (lives_any _).mono ?_
    rintro e wl ⟨rfl, hb⟩
    have HB := hid (below_tr (HS2.out.below) hb)
    clear hb
    go_wp2
    go_ret
    exact ⟨rfl, HB.out⟩
  have hR63 : (R : Int) + 1 ≤ 64 := by omega
  have h64b : ((R : Int) == 64) = false := by simp; omega
  clear h64
  go_upto_region 4 with fail
  have HH0 := hid (HBx.start w2 ((R : Int) + 1) (C : Int))
  generalize w2.alloc (.cells #[.int .i64 ((R : Int) + 1), .int .i64 (C : Int), .slice none 0 0] 24) = w3 at *
  obtain ⟨hb, hhb⟩ : ∃ hb, hb = w2.heap.size := ⟨_, rfl⟩
  rw [← hhb] at HH0 ⊢
  have HGH : Hid (gb < hb) := hid (by rw [hhb]; exact heap_lt HS2.out.blk)
  generalize hb + 1 = B at *
  clear hhb b0 b1 c2 h64b
  have HES := hid (es_len HC.out)
  have HS3 := hid (HS2.out.kept HH0.out.below)
  have c2 := HS3.out.list
  have d2 := HH0.out.list
  have HSZ : Hid (B ≤ w3.heap.size) := hid HH0.out.ord.2.2
  have HFIN := hid (fun (v5 : Value) (w5 : World) ho hg => HH0.out.grow (m := g.es) (n := g.es.length) (xs := flatV edV g.es) (v2 := v5) (w4 := w5) (Below.refl _ _) (by simp) rfl ho hg)
  obtain ⟨i1, hi1, hz10, hz11, hz12⟩ := info_parts info_edge3
  go_wp2_with (at_builtin; refine wpList_append_list rfl _ _ 22 rfl (f := edV) B 47 i1 (.agg #[.int .i64 0, .int .i64 0, .int .i64 0]) 3 24 Try.underlying22 hi1 hz10 hz11 hz12 rfl (by decide) (.slice none 0 0) 0 [] rfl (ownsRow_nil _ _ _ _) (fun _ => rfl) a cap g.es rfl HS3.out.es ed_one ?d3 ?d4 HSZ.out ?_)
  case d3 => have := HES.out; unfold maxLen; omega
  case d4 => have := HES.out; omega
  intro v5 w5 hown5 hgrow5
  obtain ⟨a5, p5, rfl⟩ := ownsRow_shape hown5
  have hfin := HFIN.out _ w5 hown5 hgrow5
  have c5 := row_cell hfin.1 2 (.slice none 0 0) rfl
  have f5 := free_row hfin.1 2
  have HG5 := hid hfin.2
  clear hown5 hgrow5 hfin HFIN HSZ d2 c2 HH0 HS3
  go_wp2
  go_loopw [6] (fun i wr => ∃ (j : Nat) (pv : Value) (L : List Ed), j ≤ C ∧ j ≤ wl.length ∧ i = .int .i64 j ∧ Hid (HBx w2 wr hb B ((R : Int) + 1) C pv L) ∧ Hid (L = g.es ++ rowEs g.rows (wtOf wl) j)) (fun i _ => C - (intOf i).toNat)
  case atStart => exact ⟨0, _, _, by omega, by omega, rfl, HG5, hid (by simp [rowEs])⟩
  case round =>
    clear HG5 c5 f5
    obtain ⟨j, pv, L, hj, hjw, rfl, HH, HL⟩ := hrel
    have HSr := hid (HS2.out.kept HH.out.below)
    have b1 := HSr.out.cols HCc.out
    have hjl : (j : Int) ≤ 64 := by omega
    have hwx : (wl.length : Int) ≤ 9000000000000000 := by have := HWL.out; omega
    by_cases hlt : j < C ∧ j < wl.length
    · obtain ⟨hlt, hlw⟩ := hlt
      have hki : (j : Int) < (C : Int) := by omega
      have hkw : (j : Int) < (wl.length : Int) := by omega
      obtain ⟨x, hx⟩ : ∃ x, wl[j]? = some x := ⟨wl[j], by simp [hlw]⟩
      have HWX := hid (wtOf_at hx)
      have HXI := hid (HWI.out x (List.mem_of_getElem? hx))
      obtain ⟨ga, oa, hAy, e1⟩ := num_cell (HM.out.kept HSr.out.below) hx
      subst hAy
      clear hx
      by_cases hpos : 0 < wtF x
      · have HLs : Hid (rowEs g.rows (wtOf wl) (j + 1) = rowEs g.rows (wtOf wl) j ++ [⟨(R : Int), (j : Int), wtF x⟩]) := hid (by rw [rowEs_succ, HWX.out, if_pos hpos, HRr.out])
        have CWT := hid (fun w' : World => weight_any x w' HXI.out)
        have hpb := wtF_in x
        generalize wtF x = m at *
        have hpos2 : decide (0 < m) = true := decide_eq_true hpos
        go_wp2_with (go_at_call 24; refine (CWT.out _).mono ?_; rintro e w6 ⟨rfl, rfl⟩)
        obtain ⟨wz, hwz⟩ : ∃ wz, wz = wr := ⟨_, rfl⟩
        subst hwz
        have HH10 := hid HH.out
        have HLL : Hid (L.length ≤ 9000) := hid (by rw [HL.out, List.length_append]; have := HES.out; have := List.length_filterMap_le (fun (c : Nat) => if 0 < wtOf wl c then some (⟨g.rows, (c : Int), wtOf wl c⟩ : Ed) else none) (List.range j); unfold rowEs; simp at this; omega)
        have b0 := HSr.out.rows HRr.out
        have nhb : hb ≠ gb := by have := HGH.out; omega
        clear HH b1
        have HHq := hid (HH10.out.kept (Below.refl _ _).drew)
        have HOW := hid (HHq.out.ownAt (below_new wz.drew (.cells #[.int .i64 R, .int .i64 j, .int .i64 m] 47)))
        have HSZ : Hid (B ≤ (wz.drew.alloc (.cells #[.int .i64 R, .int .i64 j, .int .i64 m] 47)).heap.size) := hid (by rw [alloc_size]; have := HHq.out.ord; omega)
        have HFIN := hid (fun (gu ucap : Nat) (w5 : World) ho hg => HHq.out.grow (m := [⟨R, j, m⟩]) (v2 := .slice (some ⟨gu, 0, none⟩) (L.length + 1) ucap) (w4 := w5) (below_new wz.drew (.cells #[.int .i64 R, .int .i64 j, .int .i64 m] 47)) rfl rfl ho hg)
        obtain ⟨i1, hi1, hz10, hz11, hz12⟩ := info_parts info_edge3
        have h2 := HH10.out.list
        have lhb := heap_lt HH10.out.blk
        go_region_law ((first | (refine step_append_lies _ (by rfl) _ _ 22 (by rfl) B 47 i1 (.agg #[.int .i64 0, .int .i64 0, .int .i64 0]) 3 24 Try.underlying22 hi1 hz10 hz11 hz12 (by rfl) (by decide) pv L.length (flatV edV L) (by rfl) HOW.out ⟨wz.heap.size, 0, none⟩ 1 1 [.int .i64 R, .int .i64 j, .int .i64 m] (by rfl) (by rfl) (cells_new _ _ _) (by simp [Value.oneCell']) (by omega) (by have := HLL.out; unfold maxLen; omega) (by have := HLL.out; omega) HSZ.out (wz.heap.size + 1) (by simp) ?_; intro gu ucap w5 hown' hgrow hat hgult; have hfin := HFIN.out gu ucap w5 hown' hgrow; have c5 := row_cell hfin.1 2 pv rfl; have f5 := free_row hfin.1 2; have HG5 := hid hfin.2; clear hown' hgrow hat hfin) | (go_simp; go_at_call 24; refine (CWT.out _).mono ?_; rintro e w6 ⟨rfl, rfl⟩)))
        all_goals go_wp2
        all_goals go_roundw
        all_goals first
          | exact ⟨j + 1, _, _, by omega, by omega, by go_num, hid HG5.out, hid (by rw [HLs.out, ← List.append_assoc, ← HL.out])⟩
          | (simp [intOf]; omega)
      · have HLs : Hid (rowEs g.rows (wtOf wl) (j + 1) = rowEs g.rows (wtOf wl) j) := hid (by rw [rowEs_succ, HWX.out, if_neg hpos, List.append_nil])
        have CWT := hid (fun w' : World => weight_any x w' HXI.out)
        generalize wtF x = m at *
        have hpos2 : decide (0 < m) = false := decide_eq_false hpos
        go_wp2_with (go_at_call 24; refine (CWT.out _).mono ?_; rintro e w6 ⟨rfl, rfl⟩)
        exact ⟨⟨j + 1, _, _, by omega, by omega, by go_num, HH, hid (by rw [HLs.out, ← HL.out])⟩, by simp [intOf]; omega⟩
    · have hex : ¬ (j : Int) < (C : Int) ∨ ((j : Int) < (C : Int) ∧ ¬ (j : Int) < (wl.length : Int)) := by omega
      have HEX := hid hex
      obtain ⟨gx, hgx⟩ : ∃ gx, gx = rowMore g (wtOf wl) j := ⟨_, rfl⟩
      have hC63 : (j : Int) ≤ g.cols := by rw [HCc.out]; omega
      have hR63' : g.rows < 64 := by rw [HRr.out]; omega
      have hcx : chk gx = true := by rw [hgx]; exact rowMore_chk HC.out hR63' (wtOf_in wl) hC63
      obtain ⟨Ax, capx, rfl, hx1, hx2, hx3⟩ := HH.out.graph (gx := gx) (by rw [hgx]; show g.rows + 1 = _; rw [HRr.out]) (by rw [hgx]; exact HCc.out) (by rw [hgx]; exact HL.out.symm)
      have HWE : Hid (∀ r c : Nat, r < R → c < C → wG gx r c = wG g r c) := hid (fun r c hr _ => by rw [hgx]; exact rowMore_w HC.out hR63' (wtOf_in wl) hC63 r c (by rw [← HRC.out.1]; exact hr))
      have HCX := hid hcx
      have HOX := hid (gr_ok hcx hx1 hx2)
      have HX := hid hx3
      have HRx : Hid (gx.rows = ((R + 1 : Nat) : Int) ∧ gx.cols = (C : Int) ∧ gx.rows.toNat = R + 1 ∧ gx.cols.toNat = C) := hid (by
        have h1 : gx.rows = ((R + 1 : Nat) : Int) := by rw [hgx]; show g.rows + 1 = _; rw [HRr.out]; omega
        have h2 : gx.cols = (C : Int) := by rw [hgx]; exact HCc.out
        omega)
      have HSM0 : Hid (∀ tt y z tt2 y2 z2, BestAns g tt y z → BestAns gx tt2 y2 z2 → (∀ r, r < R → ¬ getI y r < getI y2 r) ∧ ∀ c, c < C → ¬ getI z2 c < getI z c) := hid (fun tt y z tt2 y2 z2 h1 h2 => by
        have q1 := h1.best
        have q2 := h2.best
        rw [← HRC.out.1, ← HRC.out.2] at q1
        rw [HRx.out.2.2.1, HRx.out.2.2.2] at q2
        obtain ⟨u1, u2⟩ := row_more q1 q2 HWE.out
        exact ⟨fun r hr => by have := u1 r hr; omega, fun c hc => by have := u2 c hc; omega⟩)
      clear hlt hgx hcx hx1 hx2 hx3 hC63 hR63' HH hex
      rcases HEX.out with hex | ⟨hex1, hex⟩
      all_goals
        go_wp2_with (refine wpList_load_w rfl 24 _ rfl _ rfl _ _ _ _ (HSr.out.blk) Try.underlying24 rfl (info_gr) ?_)
        refine (lbest_any g a cap HOK.out (Nat.le_trans (es_len HC.out) (by omega)) _ HSr.out.es).mono ?_
        rintro e w4 ⟨hb4, hcase⟩
        have HS4 := hid (HSr.out.kept hb4)
        have HX4 := hid (HX.out.kept hb4)
        clear hb4 HSr HX
        rcases hcase with ⟨hc, _⟩ | ⟨_, tt, y, z, v, ha, rfl, hcv⟩
        · rw [HC.out] at hc; cases hc
        have HA := hid ha
        rw [← HRC.out.1, ← HRC.out.2] at hcv
        obtain ⟨ps, hps⟩ : ∃ ps, ps = prsTo tt R := ⟨_, rfl⟩
        obtain ⟨ys, hys⟩ : ∃ ys, ys = y.take R := ⟨_, rfl⟩
        obtain ⟨zs, hzs⟩ : ∃ zs, zs = z.take C := ⟨_, rfl⟩
        obtain ⟨va, hva⟩ : ∃ va, va = val (wG g) (upTo g.rows.toNat tt) g.rows.toNat := ⟨_, rfl⟩
        rw [← hps, ← hys, ← hzs] at hcv
        rw [← hva]
        have HVA := hid hva
        have HPS := hid hps
        have HYS := hid hys
        have HZS := hid hzs
        obtain ⟨Ap, cp, Ay, cy, Az, cz, rfl, _, _, _, r1, r2, r3⟩ := hcv.at_
        have HK := hid (CBx.start (cp := cp) (cy := cy) (cz := cz) r1 r2 r3)
        have hb5 := below_new w4 (.cells #[.slice Ap ps.length cp, .slice Ay ys.length cy, .slice Az zs.length cz] 39)
        have HS5 := hid (HS4.out.kept hb5)
        have HX5 := hid (HX4.out.kept hb5)
        clear ha hva hps hys hzs hcv r1 r2 r3 HS4 HX4 hb5
        go_upto_region 11 with fail
        generalize w4.alloc (.cells #[.slice Ap ps.length cp, .slice Ay ys.length cy, .slice Az zs.length cz] 39) = w5 at *
        generalize w4.heap.size = cb at *
        go_wp2_with (refine wpList_load_w rfl 24 _ rfl _ rfl _ _ _ _ (HX5.out.blk) Try.underlying24 rfl (info_gr) ?_)
        refine (lbest_any gx Ax capx HOX.out (Nat.le_trans (es_len HCX.out) (by omega)) w5 HX5.out.es).mono ?_
        rintro e w6 ⟨hb6, hcase⟩
        have HS6 := hid (HS5.out.kept hb6)
        have HK6 := hid (HK.out.kept hb6)
        clear hb6 HS5 HX5 HK
        rcases hcase with ⟨hc, _⟩ | ⟨_, tt2, y2, z2, v2, ha, rfl, hcv⟩
        · rw [HCX.out] at hc; cases hc
        have HA2 := hid ha
        rw [HRx.out.2.2.1, HRx.out.2.2.2] at hcv
        obtain ⟨ps2, hps⟩ : ∃ ps, ps = prsTo tt2 (R + 1) := ⟨_, rfl⟩
        obtain ⟨ys2, hys⟩ : ∃ ys, ys = y2.take (R + 1) := ⟨_, rfl⟩
        obtain ⟨zs2, hzs⟩ : ∃ zs, zs = z2.take (C) := ⟨_, rfl⟩
        obtain ⟨vb, hvb⟩ : ∃ vb, vb = val (wG gx) (upTo gx.rows.toNat tt2) gx.rows.toNat := ⟨_, rfl⟩
        rw [← hps, ← hys, ← hzs] at hcv
        rw [← hvb]
        have HVB := hid hvb
        have HPS2 := hid hps
        have HYS2 := hid hys
        have HZS2 := hid hzs
        obtain ⟨Bp, dp, By, dy, Bz, dz, rfl, _, _, _, r1, r2, r3⟩ := hcv.at_
        have HL6 := hid (CBx.start (cp := dp) (cy := dy) (cz := dz) r1 r2 r3)
        have hb7 := below_new w6 (.cells #[.slice Bp ps2.length dp, .slice By ys2.length dy, .slice Bz zs2.length dz] 39)
        have HS7 := hid (HS6.out.kept hb7)
        have HK7 := hid (HK6.out.kept hb7)
        clear ha hvb hps hys hzs hcv r1 r2 r3 HS6 HK6 hb7
        go_upto_region 12 with fail
        generalize w6.alloc (.cells #[.slice Bp ps2.length dp, .slice By ys2.length dy, .slice Bz zs2.length dz] 39) = w7 at *
        generalize w6.heap.size = db at *
        have HLY : Hid (ys.length = R ∧ zs.length = C ∧ ys2.length = R + 1 ∧ zs2.length = C) := hid ⟨by rw [HYS.out, List.length_take, HA.out.ly]; omega, by rw [HZS.out, List.length_take, HA.out.lz]; omega, by rw [HYS2.out, List.length_take, HA2.out.ly]; omega, by rw [HZS2.out, List.length_take, HA2.out.lz]; omega⟩
        have HSM := hid (HSM0.out _ _ _ _ _ _ HA.out HA2.out)
        clear HSM0
        go_wp2
        go_loopw [13] (fun i wx => ∃ j : Nat, j ≤ R ∧ i = .int .i64 j ∧ Hid (Below w7.heap.size w7 wx)) (fun i _ => R - (intOf i).toNat)
        case atStart => exact ⟨0, by omega, rfl, hid (Below.refl _ _)⟩
        case round =>
          obtain ⟨r, hr, rfl, HB9⟩ := hrel
          have HS9 := hid (HS7.out.kept HB9.out)
          have HK9 := hid (HK7.out.kept HB9.out)
          have HL9 := hid (HL6.out.kept HB9.out)
          have b0 := HS9.out.rows HRr.out
          have hr64 : (r : Int) ≤ 64 := by omega
          by_cases hlt : r < R
          · have hki : (r : Int) < (R : Int) := by omega
            have a1 := row_cell HK9.out.blk 1 (.slice Ay ys.length cy) rfl
            have a2 := row_cell HL9.out.blk 1 (.slice By ys2.length dy) rfl
            rw [HLY.out.1] at a1
            rw [HLY.out.2.2.1] at a2
            have q1 : ys[r]? = some (getI y r) := by rw [HYS.out]; exact take_get hlt (by rw [HA.out.ly]; exact hR64)
            have q2 : ys2[r]? = some (getI y2 r) := by rw [HYS2.out]; exact take_get (by omega) (by rw [HA2.out.ly]; omega)
            obtain ⟨ga, oa, hAy, e1⟩ := num_cell HK9.out.y q1
            obtain ⟨gc, oc, hBy, e2⟩ := num_cell HL9.out.y q2
            subst hAy hBy
            have hfin := HSM.out.1 r hlt
            have hrX : (r : Int) < ((R + 1 : Nat) : Int) := by omega
            clear q1 q2
            go_wp2
            go_quiet (fail)
            go_wp2
            exact ⟨⟨r + 1, by omega, by go_num, hid (below_tr HB9.out (below_dn _ _))⟩, by simp [intOf]; omega⟩
          · obtain rfl : r = R := by omega
            have hkr : ¬ ((r : Int) < (r : Int)) := by omega
            clear hr hlt
            go_wp2
            clear b0 hkr
            go_loopw [14] (fun i wx => ∃ j : Nat, j ≤ C ∧ i = .int .i64 j ∧ Hid (Below wr.heap.size wr wx)) (fun i _ => C - (intOf i).toNat)
            case atStart => exact ⟨0, by omega, rfl, hid (Below.refl _ _)⟩
            case round =>
              obtain ⟨c, hcl, rfl, HB10⟩ := hrel
              have HS10 := hid (HS9.out.kept HB10.out)
              have HK10 := hid (HK9.out.kept HB10.out)
              have HL10 := hid (HL9.out.kept HB10.out)
              have b0 := HS10.out.cols HCc.out
              have hc64 : (c : Int) ≤ 64 := by omega
              by_cases hlt : c < C
              · have hki : (c : Int) < (C : Int) := by omega
                have a1 := row_cell HK10.out.blk 2 (.slice Az zs.length cz) rfl
                have a2 := row_cell HL10.out.blk 2 (.slice Bz zs2.length dz) rfl
                rw [HLY.out.2.1] at a1
                rw [HLY.out.2.2.2] at a2
                have q1 : zs[c]? = some (getI z c) := by rw [HZS.out]; exact take_get hlt (by rw [HA.out.lz]; exact hC64)
                have q2 : zs2[c]? = some (getI z2 c) := by rw [HZS2.out]; exact take_get (by omega) (by rw [HA2.out.lz]; omega)
                obtain ⟨ga, oa, hAy, e1⟩ := num_cell HK10.out.z q1
                obtain ⟨gc, oc, hBy, e2⟩ := num_cell HL10.out.z q2
                subst hAy hBy
                have hfin := HSM.out.2 c hlt
                have hcX : (c : Int) < ((C : Nat) : Int) := by omega
                clear q1 q2
                go_wp2
                go_quiet (fail)
                go_wp2
                exact ⟨⟨c + 1, by omega, by go_num, hid (below_tr HB10.out (below_dn _ _))⟩, by simp [intOf]; omega⟩
              · obtain rfl : c = C := by omega
                have hkr : ¬ ((c : Int) < (c : Int)) := by omega
                clear hcl hlt
                go_wp2_with fail
                refine (lives_any _).mono ?_
                rintro e wl ⟨rfl, hb⟩
                have HB := hid (below_tr (HS10.out.below) hb)
                clear hb
                go_wp2
                go_ret
                exact ⟨rfl, HB.out⟩
end Go.Proofs.Ytmddhjoomlhbcaa
