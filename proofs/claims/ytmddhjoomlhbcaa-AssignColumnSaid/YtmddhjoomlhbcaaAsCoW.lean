/- The walk of AssignColumn. -/
import Derived.Test.YtmddhjoomlhbcaaAsHb
import Derived.Test.YtmddhjoomlhbcaaAsTb
import Derived.Test.YtmddhjoomlhbcaaAsRoW
import Derived.Maps.AppendAt
import Derived.Deep.AppendLies
namespace Go.Proofs.Ytmddhjoomlhbcaa
open Go.RowKit

theorem Mrg.weaken {es : List Ed} {C : Int} {wt : Nat → Int} {L : List Ed} {k r r1 r2 : Nat} (h : Mrg es C wt L k r r1) (hr : r1 ≤ r2) : Mrg es C wt L k r r2 :=
  ⟨h.up, h.mem, fun x hx => by have := h.lo x hx; omega, h.hi⟩
set_option maxRecDepth 100000 in
set_option maxHeartbeats 8000000 in
theorem acol_any (g : Gr) (a : Option Addr) (cap : Nat) (hok : GrOk g cap) (wl : List Int) (A : Option Addr) (cl : Nat) (hwi : ∀ n ∈ wl, I64 n) (hwl : wl.length * 8 ≤ 140737488351232) (w : World) (hr : RowsAt 3 edV w a g.es) (hm : RowsAt 1 numV w A wl) :
    Calls Try.prog 8 #[grV g a cap, .slice A wl.length cl] w fun e w' => e = .returned (.bool true) ∧ Below w.heap.size w w' := by
  have HR := hid hr
  have HM := hid hm
  have HOK := hid hok
  have HWI := hid hwi
  have HWL := hid hwl
  clear hr hok hm hwi hwl
  unfold grV at *
  go_enter Try.func8, Try.ntmps8
  go_upto_region 1 with fail
  have HS := hid (GBx.start (cap := cap) HR.out)
  generalize w.alloc (.cells #[.int .i64 g.rows, .int .i64 g.cols, .slice a g.es.length cap] 24) = w1 at *
  obtain ⟨gb, hgb⟩ : ∃ gb, gb = w.heap.size := ⟨_, rfl⟩
  rw [← hgb] at HS ⊢
  have HGB := hid hgb
  clear hgb
  go_wp2_with (refine wpList_load_w rfl 24 _ rfl _ rfl _ _ _ _ (HS.out.blk) Try.underlying24 rfl (info_gr) ?_)
  refine (may_any g a cap HOK.out w1 HS.out.es).mono ?_
  rintro e w2 ⟨rfl, hb⟩
  have HS2 := hid (HS.out.kept hb)
  clear hb HS
  by_cases hc : chk g = true
  case neg =>
    have hc' : chk g = false := by simpa using hc
    rw [hc']
    clear hc hc'
    go_wp2_with fail
    refine (lives_any _).mono ?_
    rintro e wl ⟨rfl, hb⟩
    have HB := hid (below_tr (HS2.out.below) hb)
    clear hb
    go_wp2
    go_ret
    exact ⟨rfl, HB.out⟩
  rw [hc]
  have HC := hid hc
  clear hc
  have hsz := BestAns.sizes HC.out
  obtain ⟨R, hR⟩ : ∃ R, R = g.rows.toNat := ⟨_, rfl⟩
  obtain ⟨C, hC⟩ : ∃ C, C = g.cols.toNat := ⟨_, rfl⟩
  rw [← hR, ← hC] at hsz
  obtain ⟨hR64, hC64, hRr, hCc⟩ := hsz
  have HRr := hid hRr
  have HCc := hid hCc
  have HRC := hid (And.intro hR hC)
  clear hRr hCc hR hC
  have b0 := HS2.out.rows HRr.out
  have b1 := HS2.out.cols HCc.out
  by_cases h64 : C = 64
  · subst h64
    go_wp2_with fail
    refine (lives_any _).mono ?_
    rintro e wl ⟨rfl, hb⟩
    have HB := hid (below_tr (HS2.out.below) hb)
    clear hb
    go_wp2
    go_ret
    exact ⟨rfl, HB.out⟩
  have hC63 : (C : Int) + 1 ≤ 64 := by omega
  have h64b : ((C : Int) == 64) = false := by simp; omega
  clear h64
  go_upto_region 4 with fail
  have HH0 := hid (HBx.start w2 (R : Int) ((C : Int) + 1))
  generalize w2.alloc (.cells #[.int .i64 (R : Int), .int .i64 ((C : Int) + 1), .slice none 0 0] 24) = w3 at *
  obtain ⟨hb, hhb⟩ : ∃ hb, hb = w2.heap.size := ⟨_, rfl⟩
  rw [← hhb] at HH0 ⊢
  have HGH : Hid (gb < hb) := hid (by rw [hhb]; exact heap_lt HS2.out.blk)
  generalize hb + 1 = B at *
  clear hhb b0 b1 h64b
  have HES := hid (es_len HC.out)
  have HUP := hid (edges_lt HC.out)
  have HCI := hid (fun x (hx : x ∈ g.es) => chk_in HC.out hx)
  go_wp2
  go_loopw [6, 7] (fun sk sr wr => ∃ (k r : Nat) (pv : Value) (L : List Ed), k ≤ g.es.length ∧ r ≤ R ∧ sk = .int .i64 k ∧ sr = .int .i64 r ∧ Hid (HBx w2 wr hb B R ((C : Int) + 1) pv L) ∧ Hid (Mrg g.es g.cols (wtOf wl) L k r r) ∧ Hid (L.length ≤ k + r)) (fun _ sr _ => R - (intOf sr).toNat)
  case atStart => exact ⟨0, 0, _, _, by omega, by omega, rfl, rfl, HH0, hid (Mrg.start _ _ _ fun x hx => (HCI.out x hx).1.1), hid (by simp)⟩
  case round =>
    clear HH0
    obtain ⟨k, r, pv, L, hk, hr, rfl, rfl, HH, HMG, HLN⟩ := hrel
    have HSr := hid (HS2.out.kept HH.out.below)
    have b0 := HSr.out.rows HRr.out
    have hr64 : (r : Int) ≤ 64 := by omega
    by_cases hlt : r < R
    · have hki : (r : Int) < (R : Int) := by omega
      have hwx : (wl.length : Int) ≤ 9000000000000000 := by have := HWL.out; omega
      go_wp2
      clear b0
      go_loopw [6] (fun sk wx => ∃ (k : Nat) (pv : Value) (L : List Ed), k ≤ g.es.length ∧ sk = .int .i64 k ∧ Hid (HBx w2 wx hb B R ((C : Int) + 1) pv L) ∧ Hid (Mrg g.es g.cols (wtOf wl) L k r (r + 1)) ∧ Hid (L.length ≤ k + r)) (fun sk _ => g.es.length - (intOf sk).toNat)
      case atStart => exact ⟨k, pv, L, hk, rfl, HH, hid (HMG.out.weaken (by omega)), HLN⟩
      case round =>
        clear HH HMG HLN HSr hk
        obtain ⟨k, pv, L, hk, rfl, HH, HMG, HLN⟩ := hrel
        have HSr := hid (HS2.out.kept HH.out.below)
        have c2 := HSr.out.list
        have hk64 : (k : Int) ≤ 4096 := by have := HES.out; omega
        by_cases hgo : ∃ x, g.es[k]? = some x ∧ x.r = r
        · -- L1
          obtain ⟨x, hx, hxr⟩ := hgo
          have hkl : k < g.es.length := (List.getElem?_eq_some_iff.1 hx).1
          have hkk : (k : Int) < (g.es.length : Int) := by omega
          have HMP := hid (HMG.out.push HUP.out hx hxr (by omega))
          obtain ⟨eg, eo, haa, _, hcc⟩ := HSr.out.es.get hx
          rw [Nat.mul_comm] at hcc
          have x0 : wr.cell? ⟨eg, eo + k * 3, none⟩ = some (.int .i64 r) := by rw [← hxr]; exact hcc 0 _ rfl
          have x1 : wr.cell? ⟨eg, eo + k * 3 + 1, none⟩ = some (.int .i64 x.c) := hcc 1 _ rfl
          have x2 : wr.cell? ⟨eg, eo + k * 3 + 2, none⟩ = some (.int .i64 x.w) := hcc 2 _ rfl
          have HXE : Hid (x = ⟨(r : Int), x.c, x.w⟩) := hid (by rw [← hxr])
          subst haa
          clear hx hxr hcc
          obtain ⟨xc, hxc⟩ : ∃ v, v = x.c := ⟨_, rfl⟩
          obtain ⟨xw, hxw⟩ : ∃ v, v = x.w := ⟨_, rfl⟩
          rw [← hxc] at x1 HXE
          rw [← hxw] at x2 HXE
          clear hxc hxw
          obtain ⟨wz, hwz⟩ : ∃ wz, wz = wr := ⟨_, rfl⟩
          subst hwz
          have HH10 := hid HH.out
          have HLL : Hid (L.length ≤ 9000) := hid (by have := HLN.out; have := HES.out; omega)
          have nhb : hb ≠ gb := by have := HGH.out; omega
          clear HH
          go_wp2
          have HHq := hid (HH10.out.kept (Below.refl _ _).drew)
          have HOW := hid (HHq.out.ownAt (below_new wz.drew (.cells #[.int .i64 r, .int .i64 xc, .int .i64 xw] 47)))
          have HSZ : Hid (B ≤ (wz.drew.alloc (.cells #[.int .i64 r, .int .i64 xc, .int .i64 xw] 47)).heap.size) := hid (by rw [alloc_size]; have := HHq.out.ord; omega)
          have HFIN := hid (fun (gu ucap : Nat) (w5 : World) ho hg => HHq.out.grow (m := [⟨r, xc, xw⟩]) (v2 := .slice (some ⟨gu, 0, none⟩) (L.length + 1) ucap) (w4 := w5) (below_new wz.drew (.cells #[.int .i64 r, .int .i64 xc, .int .i64 xw] 47)) rfl rfl ho hg)
          obtain ⟨i1, hi1, hz10, hz11, hz12⟩ := info_parts info_edge3
          have h2 := HH10.out.list
          have lhb := heap_lt HH10.out.blk
          go_region_law ((first | (refine step_append_lies _ (by rfl) _ _ 22 (by rfl) B 47 i1 (.agg #[.int .i64 0, .int .i64 0, .int .i64 0]) 3 24 Try.underlying22 hi1 hz10 hz11 hz12 (by rfl) (by decide) pv L.length (flatV edV L) (by rfl) HOW.out ⟨wz.heap.size, 0, none⟩ 1 1 [.int .i64 r, .int .i64 xc, .int .i64 xw] (by rfl) (by rfl) (cells_new _ _ _) (by simp [Value.oneCell']) (by omega) (by have := HLL.out; unfold maxLen; omega) (by have := HLL.out; omega) HSZ.out (wz.heap.size + 1) (by simp) ?_; intro gu ucap w5 hown' hgrow hat hgult; have hfin := HFIN.out gu ucap w5 hown' hgrow; have c5 := row_cell hfin.1 2 pv rfl; have f5 := free_row hfin.1 2; have HG5 := hid hfin.2; clear hown' hgrow hat hfin)))
          all_goals go_wp2
          all_goals go_roundw
          all_goals first
            | exact ⟨k + 1, _, _, by omega, by go_num, hid HG5.out, hid (by rw [← HXE.out]; exact HMP.out), hid (by have := HLN.out; rw [List.length_append]; simp; omega)⟩
            | (simp [intOf]; omega)
          -- /L1
        · -- L2
          have hno : ∀ x, g.es[k]? = some x → x.r ≠ r := fun x hx e => hgo ⟨x, hx, e⟩
          have HNX := hid (HMG.out.next HUP.out (fun x hx => (HCI.out x hx).2.1.2) hno (by omega))
          have hex : ¬ (k : Int) < (g.es.length : Int) ∨ ((k : Int) < (g.es.length : Int) ∧ ∃ (eg eo : Nat) (n : Int), a = some ⟨eg, eo, none⟩ ∧ wr.cell? ⟨eg, eo + k * 3, none⟩ = some (.int .i64 n) ∧ (n == (r : Int)) = false) := by
            by_cases hkl : k < g.es.length
            · refine .inr ⟨by omega, ?_⟩
              obtain ⟨eg, eo, haa, _, hcc⟩ := HSr.out.es.get (List.getElem?_eq_getElem hkl)
              rw [Nat.mul_comm] at hcc
              exact ⟨eg, eo, g.es[k].r, haa, hcc 0 _ rfl, by have := hno _ (List.getElem?_eq_getElem hkl); simpa using this⟩
            · exact .inl (by omega)
          clear hgo hno
          have HEX := hid hex
          clear hex
          rcases HEX.out with hex | ⟨hex1, eg, eo, n, rfl, hex2, hex3⟩
          all_goals clear HEX
          all_goals
            by_cases hlw : r < wl.length
            · have hkw : (r : Int) < (wl.length : Int) := by omega
              obtain ⟨x, hx⟩ : ∃ x, wl[r]? = some x := ⟨wl[r], by simp [hlw]⟩
              have HWX := hid (wtOf_at hx)
              have HXI := hid (HWI.out x (List.mem_of_getElem? hx))
              obtain ⟨ga, oa, hAy, e1⟩ := num_cell (HM.out.kept HSr.out.below) hx
              subst hAy
              clear hx
              have CWT := hid (fun w' : World => weight_any x w' HXI.out)
              have hpb := wtF_in x
              by_cases hpos : 0 < wtF x
              · rw [HWX.out, if_pos hpos] at HNX
                generalize wtF x = m at *
                have hpos2 : decide (0 < m) = true := decide_eq_true hpos
                go_wp2_with (go_at_call 24; refine (CWT.out _).mono ?_; rintro e w6 ⟨rfl, rfl⟩)
                obtain ⟨wz, hwz⟩ : ∃ wz, wz = wr := ⟨_, rfl⟩
                subst hwz
                have HH10 := hid HH.out
                have HLL : Hid (L.length ≤ 9000) := hid (by have := HLN.out; have := HES.out; omega)
                have b1 := HSr.out.cols HCc.out
                have nhb : hb ≠ gb := by have := HGH.out; omega
                clear HH c2
                have HHq := hid (HH10.out.kept (Below.refl _ _).drew)
                have HOW := hid (HHq.out.ownAt (below_new wz.drew (.cells #[.int .i64 r, .int .i64 C, .int .i64 m] 47)))
                have HSZ : Hid (B ≤ (wz.drew.alloc (.cells #[.int .i64 r, .int .i64 C, .int .i64 m] 47)).heap.size) := hid (by rw [alloc_size]; have := HHq.out.ord; omega)
                have HFIN := hid (fun (gu ucap : Nat) (w5 : World) ho hg => HHq.out.grow (m := [⟨r, C, m⟩]) (v2 := .slice (some ⟨gu, 0, none⟩) (L.length + 1) ucap) (w4 := w5) (below_new wz.drew (.cells #[.int .i64 r, .int .i64 C, .int .i64 m] 47)) rfl rfl ho hg)
                obtain ⟨i1, hi1, hz10, hz11, hz12⟩ := info_parts info_edge3
                have h2 := HH10.out.list
                have lhb := heap_lt HH10.out.blk
                go_region_law ((first | (refine step_append_lies _ (by rfl) _ _ 22 (by rfl) B 47 i1 (.agg #[.int .i64 0, .int .i64 0, .int .i64 0]) 3 24 Try.underlying22 hi1 hz10 hz11 hz12 (by rfl) (by decide) pv L.length (flatV edV L) (by rfl) HOW.out ⟨wz.heap.size, 0, none⟩ 1 1 [.int .i64 r, .int .i64 C, .int .i64 m] (by rfl) (by rfl) (cells_new _ _ _) (by simp [Value.oneCell']) (by omega) (by have := HLL.out; unfold maxLen; omega) (by have := HLL.out; omega) HSZ.out (wz.heap.size + 1) (by simp) ?_; intro gu ucap w5 hown' hgrow hat hgult; have hfin := HFIN.out gu ucap w5 hown' hgrow; have c5 := row_cell hfin.1 2 pv rfl; have f5 := free_row hfin.1 2; have HG5 := hid hfin.2; clear hown' hgrow hat hfin) | (go_simp; go_at_call 24; refine (CWT.out _).mono ?_; rintro e w6 ⟨rfl, rfl⟩)))
                all_goals go_wp2
                all_goals go_roundw
                all_goals first
                  | exact ⟨k, r + 1, _, _, by omega, by omega, rfl, by go_num, hid HG5.out, hid (by rw [← HCc.out]; exact HNX.out), hid (by have := HLN.out; rw [List.length_append]; simp; omega)⟩
                  | (simp [intOf]; omega)
              · rw [HWX.out, if_neg hpos, List.append_nil] at HNX
                generalize wtF x = m at *
                have hpos2 : decide (0 < m) = false := decide_eq_false hpos
                go_wp2_with (go_at_call 24; refine (CWT.out _).mono ?_; rintro e w6 ⟨rfl, rfl⟩)
                exact ⟨⟨k, r + 1, _, _, by omega, by omega, rfl, by go_num, HH, HNX, hid (by have := HLN.out; omega)⟩, by simp [intOf]; omega⟩
            · have hkw : ¬ ((r : Int) < (wl.length : Int)) := by omega
              rw [wtOf_no (by omega), if_neg (by omega), List.append_nil] at HNX
              go_wp2
              exact ⟨⟨k, r + 1, _, _, by omega, by omega, rfl, by go_num, HH, HNX, hid (by have := HLN.out; omega)⟩, by simp [intOf]; omega⟩
          -- /L2
    · -- L3
      obtain rfl : r = R := by omega
      have hkr : ¬ ((r : Int) < (r : Int)) := by omega
      obtain ⟨gx, hgx⟩ : ∃ gx, gx = (⟨g.rows, g.cols + 1, L⟩ : Gr) := ⟨_, rfl⟩
      have hC63' : g.cols < 64 := by rw [HCc.out]; omega
      have hcx : chk gx = true := by rw [hgx]; exact colMore_chk HC.out hC63' HRr.out (wtOf_in wl) HMG.out
      obtain ⟨Ax, capx, rfl, hx1, hx2, hx3⟩ := HH.out.graph (gx := gx) (by rw [hgx]; exact HRr.out) (by rw [hgx]; show g.cols + 1 = _; rw [HCc.out]) (by rw [hgx])
      have HWE : Hid (∀ x c : Nat, x < r → c < C → wG gx x c = wG g x c) := hid (fun x c _ hc => by rw [hgx]; exact colMore_w HC.out hC63' HRr.out (wtOf_in wl) HMG.out x c (by rw [← HRC.out.2]; exact hc))
      have HCX := hid hcx
      have HOX := hid (gr_ok hcx hx1 hx2)
      have HX := hid hx3
      have HRx : Hid (gx.rows = (r : Int) ∧ gx.cols = ((C + 1 : Nat) : Int) ∧ gx.rows.toNat = r ∧ gx.cols.toNat = C + 1) := hid (by
        have h1 : gx.rows = (r : Int) := by rw [hgx]; exact HRr.out
        have h2 : gx.cols = ((C + 1 : Nat) : Int) := by rw [hgx]; show g.cols + 1 = _; rw [HCc.out]; omega
        omega)
      have HSM0 : Hid (∀ tt y z tt2 y2 z2, BestAns g tt y z → BestAns gx tt2 y2 z2 → (∀ x, x < r → ¬ getI y2 x < getI y x) ∧ ∀ c, c < C → ¬ getI z c < getI z2 c) := hid (fun tt y z tt2 y2 z2 h1 h2 => by
        have q1 := h1.best
        have q2 := h2.best
        rw [← HRC.out.1, ← HRC.out.2] at q1
        rw [HRx.out.2.2.1, HRx.out.2.2.2] at q2
        obtain ⟨u1, u2⟩ := column_more q1 q2 HWE.out
        exact ⟨fun r hr => by have := u1 r hr; omega, fun c hc => by have := u2 c hc; omega⟩)
      clear hlt hgx hcx hx1 hx2 hx3 hC63' HH hr
      obtain ⟨R, hRR⟩ : ∃ R, R = r := ⟨_, rfl⟩
      subst hRR
      go_wp2_with (refine wpList_load_w rfl 24 _ rfl _ rfl _ _ _ _ (HSr.out.blk) Try.underlying24 rfl (info_gr) ?_)
      refine (lbest_any g a cap HOK.out (Nat.le_trans (es_len HC.out) (by omega)) _ HSr.out.es).mono ?_
      rintro e w4 ⟨hb4, hcase⟩
      have HS4 := hid (HSr.out.kept hb4)
      have HX4 := hid (HX.out.kept hb4)
      clear hb4 HSr HX
      rcases hcase with ⟨hc, _⟩ | ⟨_, tt, y, z, v, ha, rfl, hcv⟩
      · rw [HC.out] at hc; cases hc
      have HA := hid ha
      rw [← HRC.out.1, ← HRC.out.2] at hcv
      obtain ⟨ps, hps⟩ : ∃ ps, ps = prsTo tt R := ⟨_, rfl⟩
      obtain ⟨ys, hys⟩ : ∃ ys, ys = y.take R := ⟨_, rfl⟩
      obtain ⟨zs, hzs⟩ : ∃ zs, zs = z.take C := ⟨_, rfl⟩
      obtain ⟨va, hva⟩ : ∃ va, va = val (wG g) (upTo g.rows.toNat tt) g.rows.toNat := ⟨_, rfl⟩
      rw [← hps, ← hys, ← hzs] at hcv
      rw [← hva]
      have HVA := hid hva
      have HPS := hid hps
      have HYS := hid hys
      have HZS := hid hzs
      obtain ⟨Ap, cp, Ay, cy, Az, cz, rfl, _, _, _, r1, r2, r3⟩ := hcv.at_
      have HK := hid (CBx.start (cp := cp) (cy := cy) (cz := cz) r1 r2 r3)
      have hb5 := below_new w4 (.cells #[.slice Ap ps.length cp, .slice Ay ys.length cy, .slice Az zs.length cz] 39)
      have HS5 := hid (HS4.out.kept hb5)
      have HX5 := hid (HX4.out.kept hb5)
      clear ha hva hps hys hzs hcv r1 r2 r3 HS4 HX4 hb5
      go_upto_region 14 with fail
      generalize w4.alloc (.cells #[.slice Ap ps.length cp, .slice Ay ys.length cy, .slice Az zs.length cz] 39) = w5 at *
      generalize w4.heap.size = cb at *
      go_wp2_with (refine wpList_load_w rfl 24 _ rfl _ rfl _ _ _ _ (HX5.out.blk) Try.underlying24 rfl (info_gr) ?_)
      refine (lbest_any gx Ax capx HOX.out (Nat.le_trans (es_len HCX.out) (by omega)) w5 HX5.out.es).mono ?_
      rintro e w6 ⟨hb6, hcase⟩
      have HS6 := hid (HS5.out.kept hb6)
      have HK6 := hid (HK.out.kept hb6)
      clear hb6 HS5 HX5 HK
      rcases hcase with ⟨hc, _⟩ | ⟨_, tt2, y2, z2, v2, ha, rfl, hcv⟩
      · rw [HCX.out] at hc; cases hc
      have HA2 := hid ha
      rw [HRx.out.2.2.1, HRx.out.2.2.2] at hcv
      obtain ⟨ps2, hps⟩ : ∃ ps, ps = prsTo tt2 (R) := ⟨_, rfl⟩
      obtain ⟨ys2, hys⟩ : ∃ ys, ys = y2.take (R) := ⟨_, rfl⟩
      obtain ⟨zs2, hzs⟩ : ∃ zs, zs = z2.take (C + 1) := ⟨_, rfl⟩
      obtain ⟨vb, hvb⟩ : ∃ vb, vb = val (wG gx) (upTo gx.rows.toNat tt2) gx.rows.toNat := ⟨_, rfl⟩
      rw [← hps, ← hys, ← hzs] at hcv
      rw [← hvb]
      have HVB := hid hvb
      have HPS2 := hid hps
      have HYS2 := hid hys
      have HZS2 := hid hzs
      obtain ⟨Bp, dp, By, dy, Bz, dz, rfl, _, _, _, r1, r2, r3⟩ := hcv.at_
      have HL6 := hid (CBx.start (cp := dp) (cy := dy) (cz := dz) r1 r2 r3)
      have hb7 := below_new w6 (.cells #[.slice Bp ps2.length dp, .slice By ys2.length dy, .slice Bz zs2.length dz] 39)
      have HS7 := hid (HS6.out.kept hb7)
      have HK7 := hid (HK6.out.kept hb7)
      clear ha hvb hps hys hzs hcv r1 r2 r3 HS6 HK6 hb7
      go_upto_region 15 with fail
      generalize w6.alloc (.cells #[.slice Bp ps2.length dp, .slice By ys2.length dy, .slice Bz zs2.length dz] 39) = w7 at *
      generalize w6.heap.size = db at *
      have HLY : Hid (ys.length = R ∧ zs.length = C ∧ ys2.length = R ∧ zs2.length = C + 1) := hid ⟨by rw [HYS.out, List.length_take, HA.out.ly]; omega, by rw [HZS.out, List.length_take, HA.out.lz]; omega, by rw [HYS2.out, List.length_take, HA2.out.ly]; omega, by rw [HZS2.out, List.length_take, HA2.out.lz]; omega⟩
      have HSM := hid (HSM0.out _ _ _ _ _ _ HA.out HA2.out)
      clear HSM0
      go_wp2
      go_loopw [14] (fun i wx => ∃ j : Nat, j ≤ R ∧ i = .int .i64 j ∧ Hid (Below w7.heap.size w7 wx)) (fun i _ => R - (intOf i).toNat)
      case atStart => exact ⟨0, by omega, rfl, hid (Below.refl _ _)⟩
      case round =>
        obtain ⟨r, hr, rfl, HB9⟩ := hrel
        have HS9 := hid (HS7.out.kept HB9.out)
        have HK9 := hid (HK7.out.kept HB9.out)
        have HL9 := hid (HL6.out.kept HB9.out)
        have b0 := HS9.out.rows HRr.out
        have hr64 : (r : Int) ≤ 64 := by omega
        by_cases hlt : r < R
        · have hki : (r : Int) < (R : Int) := by omega
          have a1 := row_cell HK9.out.blk 1 (.slice Ay ys.length cy) rfl
          have a2 := row_cell HL9.out.blk 1 (.slice By ys2.length dy) rfl
          rw [HLY.out.1] at a1
          rw [HLY.out.2.2.1] at a2
          have q1 : ys[r]? = some (getI y r) := by rw [HYS.out]; exact take_get hlt (by rw [HA.out.ly]; exact hR64)
          have q2 : ys2[r]? = some (getI y2 r) := by rw [HYS2.out]; exact take_get (by omega) (by rw [HA2.out.ly]; omega)
          obtain ⟨ga, oa, hAy, e1⟩ := num_cell HK9.out.y q1
          obtain ⟨gc, oc, hBy, e2⟩ := num_cell HL9.out.y q2
          subst hAy hBy
          have hfin := HSM.out.1 r hlt
          have hrX : (r : Int) < ((R : Nat) : Int) := by omega
          clear q1 q2
          go_wp2
          go_quiet (fail)
          go_wp2
          exact ⟨⟨r + 1, by omega, by go_num, hid (below_tr HB9.out (below_dn _ _))⟩, by simp [intOf]; omega⟩
        · obtain rfl : r = R := by omega
          have hkr : ¬ ((r : Int) < (r : Int)) := by omega
          clear hr hlt
          go_wp2
          clear b0 hkr
          go_loopw [15] (fun i wx => ∃ j : Nat, j ≤ C ∧ i = .int .i64 j ∧ Hid (Below wr.heap.size wr wx)) (fun i _ => C - (intOf i).toNat)
          case atStart => exact ⟨0, by omega, rfl, hid (Below.refl _ _)⟩
          case round =>
            obtain ⟨c, hcl, rfl, HB10⟩ := hrel
            have HS10 := hid (HS9.out.kept HB10.out)
            have HK10 := hid (HK9.out.kept HB10.out)
            have HL10 := hid (HL9.out.kept HB10.out)
            have b0 := HS10.out.cols HCc.out
            have hc64 : (c : Int) ≤ 64 := by omega
            by_cases hlt : c < C
            · have hki : (c : Int) < (C : Int) := by omega
              have a1 := row_cell HK10.out.blk 2 (.slice Az zs.length cz) rfl
              have a2 := row_cell HL10.out.blk 2 (.slice Bz zs2.length dz) rfl
              rw [HLY.out.2.1] at a1
              rw [HLY.out.2.2.2] at a2
              have q1 : zs[c]? = some (getI z c) := by rw [HZS.out]; exact take_get hlt (by rw [HA.out.lz]; exact hC64)
              have q2 : zs2[c]? = some (getI z2 c) := by rw [HZS2.out]; exact take_get (by omega) (by rw [HA2.out.lz]; omega)
              obtain ⟨ga, oa, hAy, e1⟩ := num_cell HK10.out.z q1
              obtain ⟨gc, oc, hBy, e2⟩ := num_cell HL10.out.z q2
              subst hAy hBy
              have hfin := HSM.out.2 c hlt
              have hcX : (c : Int) < ((C + 1 : Nat) : Int) := by omega
              clear q1 q2
              go_wp2
              go_quiet (fail)
              go_wp2
              exact ⟨⟨c + 1, by omega, by go_num, hid (below_tr HB10.out (below_dn _ _))⟩, by simp [intOf]; omega⟩
            · obtain rfl : c = C := by omega
              have hkr : ¬ ((c : Int) < (c : Int)) := by omega
              clear hcl hlt
              go_wp2_with fail
              refine (lives_any _).mono ?_
              rintro e wl ⟨rfl, hb⟩
              have HB := hid (below_tr (HS10.out.below) hb)
              clear hb
              go_wp2
              go_ret
              exact ⟨rfl, HB.out⟩
      -- /L3
end Go.Proofs.Ytmddhjoomlhbcaa
