/- The walk of AssignLeast. -/
import Derived.Test.YtmddhjoomlhbcaaAsSt
namespace Go.Proofs.Ytmddhjoomlhbcaa
open Go.RowKit

set_option maxRecDepth 100000 in
set_option maxHeartbeats 8000000 in
theorem aleast_any (g : Gr) (a : Option Addr) (cap : Nat) (hok : GrOk g cap) (l : List (Int × Int)) (A : Option Addr) (cl : Nat) (hlp : ∀ p ∈ l, I64 p.1 ∧ I64 p.2) (hll : l.length * 16 ≤ 140737488351232) (w : World) (hr : RowsAt 3 edV w a g.es) (hm : RowsAt 2 prV w A l) :
    Calls Try.prog 5 #[grV g a cap, .slice A l.length cl] w fun e w' => e = .returned (.bool true) ∧ Below w.heap.size w w' := by
  have HR := hid hr
  have HM := hid hm
  have HOK := hid hok
  have HLP := hid hlp
  have HLL := hid hll
  clear hr hok hm hlp hll
  unfold grV at *
  go_enter Try.func5, Try.ntmps5
  go_upto_region 1 with fail
  have HS := hid (GBx.start (cap := cap) HR.out)
  generalize w.alloc (.cells #[.int .i64 g.rows, .int .i64 g.cols, .slice a g.es.length cap] 24) = w1 at *
  obtain ⟨gb, hgb⟩ : ∃ gb, gb = w.heap.size := ⟨_, rfl⟩
  rw [← hgb] at HS ⊢
  have HGB := hid hgb
  clear hgb
  go_wp2_with (refine wpList_load_w rfl 24 _ rfl _ rfl _ _ _ _ (HS.out.blk) Try.underlying24 rfl (info_gr) ?_)
  refine (may_any g a cap HOK.out w1 HS.out.es).mono ?_
  rintro e w2 ⟨rfl, hb⟩
  have HS2 := hid (HS.out.kept hb)
  clear hb HS
  by_cases hc : chk g = true
  case neg =>
    have hc' : chk g = false := by simpa using hc
    rw [hc']
    clear hc hc'
    go_wp2_with fail
    refine (lives_any _).mono ?_
    rintro e w3 ⟨rfl, hb⟩
    have HB := hid (below_tr HS2.out.below hb)
    clear hb
    go_wp2
    go_ret
    exact ⟨rfl, HB.out⟩
  rw [hc]
  have HC := hid hc
  clear hc
  go_wp2_with (refine wpList_load_w rfl 24 _ rfl _ rfl _ _ _ _ (HS2.out.blk) Try.underlying24 rfl (info_gr) ?_)
  refine (worth_any g a cap HOK.out l A cl (by have := HLL.out; omega) HLP.out w2 HS2.out.es (HM.out.kept HS2.out.below)).mono ?_
  rintro e w3 ⟨rfl, hb⟩
  have HS3 := hid (HS2.out.kept hb)
  clear hb HS2
  obtain ⟨nn, hnn⟩ : ∃ nn, nn = (worthF g l).1 := ⟨_, rfl⟩
  obtain ⟨ee, hee⟩ : ∃ ee, ee = (worthF g l).2 := ⟨_, rfl⟩
  rw [← hnn, ← hee]
  have HN := hid hnn
  have HE := hid hee
  clear hnn hee
  go_wp2_with (refine wpList_load_w rfl 24 _ rfl _ rfl _ _ _ _ (HS3.out.blk) Try.underlying24 rfl (info_gr) ?_)
  refine (lbest_any g a cap HOK.out (Nat.le_trans (es_len HC.out) (by omega)) w3 HS3.out.es).mono ?_
  rintro e w4 ⟨hb, hcase⟩
  have HS4 := hid (HS3.out.kept hb)
  clear hb HS3
  rcases hcase with ⟨hc, _⟩ | ⟨_, tt, y, z, v, ha, rfl, hcv⟩
  · rw [HC.out] at hc; cases hc
  obtain ⟨mm, hmm⟩ : ∃ mm, mm = val (wG g) (upTo g.rows.toNat tt) g.rows.toNat := ⟨_, rfl⟩
  have hle : nn ≤ mm := by rw [HN.out, hmm]; exact least_le HC.out ha l
  rw [← hmm]
  have HMM := hid hmm
  obtain ⟨ps, hps⟩ : ∃ ps, ps = prsTo tt g.rows.toNat := ⟨_, rfl⟩
  obtain ⟨ys, hys⟩ : ∃ ys, ys = y.take g.rows.toNat := ⟨_, rfl⟩
  obtain ⟨zs, hzs⟩ : ∃ zs, zs = z.take g.cols.toNat := ⟨_, rfl⟩
  have hlp : ps.length ≤ 64 := by have := prsTo_len tt g.rows.toNat; have := BestAns.sizes HC.out; rw [hps]; omega
  rw [← hps, ← hys, ← hzs] at hcv
  have HA := hid ha
  have HPS := hid hps
  have HPL := hid hlp
  obtain ⟨Ap, cp, Ay, cy, Az, cz, rfl, _, _, _, r1, r2, r3⟩ := hcv.at_
  have HK := hid (CBx.start (cp := cp) (cy := cy) (cz := cz) r1 r2 r3)
  have HS5 := hid (HS4.out.kept (below_new w4 (.cells #[.slice Ap ps.length cp, .slice Ay ys.length cy, .slice Az zs.length cz] 39)))
  have HCB : Hid (gb < w4.heap.size) := hid (heap_lt HS4.out.blk)
  clear ha hmm hps hys hzs hlp hcv r1 r2 r3 HS4
  go_upto_region 5 with fail
  generalize w4.alloc (.cells #[.slice Ap ps.length cp, .slice Ay ys.length cy, .slice Az zs.length cz] 39) = w5 at *
  generalize w4.heap.size = cb at *
  have hnm : decide (mm < nn) = false := decide_eq_false (by omega)
  by_cases hee : ee = 0
  case neg =>
    have h1 : (ee != 0) = true := by simpa using hee
    clear hee hle
    go_wp2_with fail
    refine (lives_any _).mono ?_
    rintro e w6 ⟨rfl, hb⟩
    have HB := hid (below_tr HS5.out.below hb)
    clear hb
    go_wp2
    go_ret
    exact ⟨rfl, HB.out⟩
  subst hee
  by_cases hlt : nn < mm
  · have h1 : decide (nn < mm) = true := decide_eq_true hlt
    clear hlt hle
    go_wp2_with fail
    refine (lives_any _).mono ?_
    rintro e w6 ⟨rfl, hb⟩
    have HB := hid (below_tr HS5.out.below hb)
    clear hb
    go_wp2
    go_ret
    exact ⟨rfl, HB.out⟩
  have h1 : decide (nn < mm) = false := decide_eq_false hlt
  have HMN : Hid (mm ≤ nn) := hid (by omega)
  clear hlt hle
  -- the lists
  have hsz := BestAns.sizes HC.out
  obtain ⟨R, hR⟩ : ∃ R, R = g.rows.toNat := ⟨_, rfl⟩
  obtain ⟨C, hC⟩ : ∃ C, C = g.cols.toNat := ⟨_, rfl⟩
  rw [← hR, ← hC] at hsz
  obtain ⟨hR64, hC64, hRr, hCc⟩ := hsz
  have HRr := hid hRr
  have HCc := hid hCc
  have HRC := hid (And.intro hR hC)
  clear hRr hCc hR hC
  have mk1 : ∀ w1 : World, (Instr.makeSlice 37 (.int .i64 (R : Int)) (.int .i64 (R : Int))).run Try.prog w1 = .ok (.slice (some ⟨w1.heap.size, 0, none⟩) R R) (w1.alloc (.cells (ints (List.replicate R 0)) 3)) := fun w1 => make_intsA w1 R hR64
  have b0 := HS5.out.rows HRr.out
  go_upto_region 10 with fail
  have HT6 : Hid (TabAt (w5.alloc (.cells (ints (List.replicate R 0)) 3)) w5.heap.size 3 (List.replicate R 0)) := hid (heap_alloc_new _ _)
  have HB6 := hid (below_new w5 (.cells (ints (List.replicate R 0)) 3))
  have b6 := (HS5.out.kept HB6.out).rows HRr.out
  obtain ⟨w6, hw6⟩ : ∃ w6, w6 = w5.alloc (.cells (ints (List.replicate R 0)) 3) := ⟨_, rfl⟩
  rw [← hw6] at HT6 HB6 b6 ⊢
  have HLT6 : Hid (w5.heap.size < w6.heap.size) := hid (heap_lt HT6.out)
  clear hw6 b0
  go_upto_region 11 with fail
  have HU7 : Hid (TabAt (w6.alloc (.cells (ints (List.replicate R 0)) 3)) w6.heap.size 3 (List.replicate R 0)) := hid (heap_alloc_new _ _)
  have HT7 := hid (HT6.out.kept (below_new w6 (.cells (ints (List.replicate R 0)) 3)))
  have HB7 := hid (below_tr HB6.out (below_new w6 (.cells (ints (List.replicate R 0)) 3)))
  clear b6 HT6 HB6 mk1
  generalize w6.alloc (.cells (ints (List.replicate R 0)) 3) = w7 at *
  obtain ⟨ab, hab⟩ : ∃ ab, ab = w5.heap.size := ⟨_, rfl⟩
  rw [← hab] at HT7 HLT6 ⊢
  generalize w6.heap.size = bb at *
  have HAB := hid hab
  have HO : Hid (gb < cb ∧ cb < ab ∧ ab < bb) := hid ⟨HCB.out, by rw [hab]; exact heap_lt HK.out.blk, HLT6.out⟩
  rw [← fillK_zero R (C : Int)] at HT7 HU7
  clear hab hnm h1
  go_wp2
  go_loopw [12] (fun i wr => ∃ k : Nat, k ≤ R ∧ i = .int .i64 k ∧ Hid (TabAt wr ab 3 (fillK R C k)) ∧ Hid (TabAt wr bb 3 (fillK R C k)) ∧ Hid (Below w5.heap.size w5 wr)) (fun i _ => R - (intOf i).toNat)
  case atStart => exact ⟨0, by omega, rfl, HT7, HU7, HB7⟩
  case round =>
    clear HT7 HU7 HB7
    obtain ⟨k, hk, rfl, HT, HU, HB⟩ := hrel
    have HSr := hid (HS5.out.kept HB.out)
    have b0 := HSr.out.rows HRr.out
    have hk64 : (k : Int) ≤ 64 := by omega
    by_cases hlt : k < R
    · -- L1
      have hki : (k : Int) < (R : Int) := by omega
      have b1 := HSr.out.cols HCc.out
      have e0 := HT.out.cellI (k := k) (by rw [fillK_len _ hk]; exact hlt)
      have e1 := HU.out.cellI (k := k) (by rw [fillK_len _ hk]; exact hlt)
      have f0 := free_row HT.out k
      have f1 := free_row HU.out k
      obtain ⟨o1, o2, o3⟩ := HO.out
      have n1 : ab ≠ gb := by omega
      have n2 : ab ≠ bb := by omega
      clear o1 o2 o3
      go_wp2
      refine ⟨⟨k + 1, by omega, by go_num, hid ?_, hid ?_, hid ?_⟩, by simp [intOf]; omega⟩
      · rw [← fillK_set _ hlt]
        exact (HT.out.set k C).other n2 k _
      · rw [← fillK_set _ hlt]
        exact (HU.out.other (Ne.symm n2) k _).set k C
      · have := HO.out; have := HAB.out; exact (HB.out.setCell (by show w5.heap.size ≤ ab; omega) _).setCell (by show w5.heap.size ≤ bb; omega) _
      -- /L1
    · -- L2
      obtain rfl : k = R := by omega
      have hkr : ¬ ((k : Int) < (k : Int)) := by omega
      rw [fillK_all] at HT HU
      have HK8 := hid (HK.out.kept HB.out)
      have d0 := row_cell HK8.out.blk 0 (.slice Ap ps.length cp) rfl
      clear hk hlt
      go_wp2
      clear b0 hkr
      go_loopw [13] (fun i wx => ∃ j : Nat, j ≤ ps.length ∧ i = .int .i64 j ∧ Hid (TabAt wx ab 3 (putL (List.replicate k C) (ps.take j))) ∧ Hid (TabAt wx bb 3 (List.replicate k C)) ∧ Hid (Below w5.heap.size w5 wx)) (fun i _ => ps.length - (intOf i).toNat)
      case atStart => exact ⟨0, by omega, rfl, HT, HU, HB⟩
      case round =>
        clear HT HU HB HK8 d0 HSr
        obtain ⟨j, hj, rfl, HT, HU, HB⟩ := hrel
        have HK8 := hid (HK.out.kept HB.out)
        have d0 := row_cell HK8.out.blk 0 (.slice Ap ps.length cp) rfl
        have hj64 : (j : Int) ≤ 64 := by have := HPL.out; omega
        by_cases hlt : j < ps.length
        · -- L3
          have hki : (j : Int) < (ps.length : Int) := by omega
          obtain ⟨p, hx⟩ : ∃ x, ps[j]? = some x := ⟨ps[j], by simp [hlt]⟩
          obtain ⟨r, c, rfl, hr1, hc1, _⟩ := HA.out.pair_in (p := p) (by rw [← HPS.out]; exact List.mem_of_getElem? hx)
          rw [← HRC.out.1] at hr1
          have HTK : Hid (ps.take (j + 1) = ps.take j ++ [((r : Int), (c : Int))]) := hid (by
            obtain ⟨h1, h2⟩ := List.getElem?_eq_some_iff.1 hx
            rw [List.take_succ_eq_append_getElem h1, h2])
          obtain ⟨pg, po, hAp, hpg, hcc⟩ := HK.out.p.get hx
          rw [← HAB.out] at hpg
          have q0 : wr.cell? ⟨pg, po + j * 2, none⟩ = some (.int .i64 r) := by
            have := (hcc.kept HB.out (by rw [← HAB.out]; exact hpg)) 0 (.int .i64 r) rfl
            rw [Nat.mul_comm] at this; exact this
          have q1 : wr.cell? ⟨pg, po + j * 2 + 1, none⟩ = some (.int .i64 c) := by
            have := (hcc.kept HB.out (by rw [← HAB.out]; exact hpg)) 1 (.int .i64 c) rfl
            rw [Nat.mul_comm] at this; exact this
          have hlR : (putL (List.replicate k (C : Int)) (ps.take j)).length = k := by rw [putL_len]; simp
          have e0 := HT.out.cellI (k := r) (by rw [hlR]; exact hr1)
          have f0 := free_row HT.out r
          obtain ⟨o1, o2, o3⟩ := HO.out
          have n1 : ab ≠ cb := by omega
          have n2 : ab ≠ pg := by omega
          have n3 : ab ≠ bb := by omega
          have hrR : (r : Int) < (k : Int) := by omega
          subst hAp
          clear hx hcc hlR hpg o1 o2 o3
          go_wp2
          go_region
          go_wp2
          refine ⟨⟨j + 1, by omega, by go_num, hid ?_, hid ?_, hid ?_⟩, by simp [intOf]; omega⟩
          · rw [HTK.out, putL_snoc]
            exact HT.out.set r c
          · exact HU.out.other (Ne.symm n3) r _
          · have := HAB.out; exact (HB.out.setCell (by show w5.heap.size ≤ ab; omega) _).drew
          -- /L3
        · -- L4
          obtain rfl : j = ps.length := by omega
          have hkr : ¬ ((ps.length : Int) < (ps.length : Int)) := by omega
          rw [List.take_length] at HT
          have hl64 : (l.length : Int) ≤ 9000000000000 := by have := HLL.out; omega
          clear hj hlt
          go_wp2
          clear d0 hkr
          go_loopw [14] (fun i wx => ∃ j : Nat, j ≤ l.length ∧ i = .int .i64 j ∧ Hid (TabAt wx ab 3 (putL (List.replicate k C) ps)) ∧ Hid (TabAt wx bb 3 (putL (List.replicate k C) (l.take j))) ∧ Hid (Below w5.heap.size w5 wx)) (fun i _ => l.length - (intOf i).toNat)
          case atStart => exact ⟨0, by omega, rfl, HT, HU, HB⟩
          case round =>
            clear HT HU HB HK8
            obtain ⟨j, hj, rfl, HT, HU, HB⟩ := hrel
            have hjl : (j : Int) ≤ 9000000000000 := by omega
            by_cases hlt : j < l.length
            · -- L5
              have hki : (j : Int) < (l.length : Int) := by omega
              obtain ⟨⟨p1, p2⟩, hx⟩ : ∃ x, l[j]? = some x := ⟨l[j], by simp [hlt]⟩
              have hgood := good_in (BestAns.sizes HC.out).2.1 (by simp) (worthF_no l HC.out HE.out.symm).1 _ (List.mem_of_getElem? hx)
              rw [← HRC.out.1] at hgood
              obtain ⟨r, rfl⟩ : ∃ r : Nat, p1 = r := ⟨p1.toNat, by have := hgood.1; omega⟩
              have hr1 : r < k := by have := hgood.2.1; simp at this; exact this
              have HTK : Hid (l.take (j + 1) = l.take j ++ [((r : Int), p2)]) := hid (by
                obtain ⟨h1, h2⟩ := List.getElem?_eq_some_iff.1 hx
                rw [List.take_succ_eq_append_getElem h1, h2])
              obtain ⟨pg, po, hAp, hpg, hcc⟩ := HM.out.get hx
              have hb5 := below_tr HS5.out.below HB.out
              have q0 : wr.cell? ⟨pg, po + j * 2, none⟩ = some (.int .i64 r) := by
                have := (hcc.kept hb5 hpg) 0 (.int .i64 r) rfl
                rw [Nat.mul_comm] at this; exact this
              have q1 : wr.cell? ⟨pg, po + j * 2 + 1, none⟩ = some (.int .i64 p2) := by
                have := (hcc.kept hb5 hpg) 1 (.int .i64 p2) rfl
                rw [Nat.mul_comm] at this; exact this
              rw [← HGB.out] at hpg
              have hlR : (putL (List.replicate k (C : Int)) (l.take j)).length = k := by rw [putL_len]; simp
              have e0 := HU.out.cellI (k := r) (by rw [hlR]; exact hr1)
              have f0 := free_row HU.out r
              obtain ⟨o1, o2, o3⟩ := HO.out
              have n2 : bb ≠ pg := by omega
              have n3 : bb ≠ ab := by omega
              have hrR : (r : Int) < (k : Int) := by omega
              subst hAp
              clear hx hcc hlR hpg o1 o2 o3 hgood hb5
              go_wp2
              go_region
              go_wp2
              refine ⟨⟨j + 1, by omega, by go_num, hid ?_, hid ?_, hid ?_⟩, by simp [intOf]; omega⟩
              · exact HT.out.other (Ne.symm n3) r _
              · rw [HTK.out, putL_snoc]
                exact HU.out.set r p2
              · have := HAB.out; have := HO.out; exact (HB.out.setCell (by show w5.heap.size ≤ bb; omega) _).drew
              -- /L5
            · -- L6
              obtain rfl : j = l.length := by omega
              have hkr : ¬ ((l.length : Int) < (l.length : Int)) := by omega
              rw [List.take_length] at HU
              have HSr := hid (HS5.out.kept HB.out)
              have b0 := HSr.out.rows HRr.out
              clear hj hlt hl64 hjl
              go_wp2
              clear hkr b0
              go_loopw [15] (fun i wx => ∃ j : Nat, j ≤ k ∧ i = .int .i64 j ∧ Hid (∀ x, x < j → colOr C (getI tt) x = colOr C (mtOf l) x) ∧ Hid (Below wr.heap.size wr wx)) (fun i _ => k - (intOf i).toNat)
              case atStart => exact ⟨0, by omega, rfl, hid (fun x hx => absurd hx (by omega)), hid (Below.refl _ _)⟩
              case round =>
                obtain ⟨j, hj, rfl, HQ, HX⟩ := hrel
                have HSx := hid (HSr.out.kept HX.out)
                have b0 := HSx.out.rows HRr.out
                have hj64 : (j : Int) ≤ 64 := by omega
                by_cases hlt : j < k
                · -- L7
                  have hki : (j : Int) < (k : Int) := by omega
                  have E0 : Hid (getI (putL (List.replicate k (C : Int)) ps) j = colOr C (getI tt) j) := hid (by rw [HPS.out, ← HRC.out.1]; exact colOr_best HA.out HRC.out.1 hlt)
                  have E1 : Hid (getI (putL (List.replicate k (C : Int)) l) j = colOr C (mtOf l) j) := hid (colOr_put (good_up (BestAns.sizes HC.out).2.1 (by simp) (worthF_no l HC.out HE.out.symm).1) (fun p hp => by have := good_in (BestAns.sizes HC.out).2.1 (by simp) (worthF_no l HC.out HE.out.symm).1 p hp; omega) hlt)
                  have e0 := (HT.out.kept HX.out).cellI (k := j) (by rw [putL_len]; simpa using hlt)
                  have e1 := (HU.out.kept HX.out).cellI (k := j) (by rw [putL_len]; simpa using hlt)
                  rw [E0.out] at e0
                  rw [E1.out] at e1
                  have HLX : Hid (colOr C (getI tt) j ≠ colOr C (mtOf l) j → colOr C (getI tt) j < colOr C (mtOf l) j) := hid (fun hne => by
                    have := least_lex HC.out HA.out HE.out.symm (by rw [← HN.out, ← HMM.out]; exact HMN.out) (i := j) (by rw [← HRC.out.1]; exact hlt) (by rw [← HRC.out.2]; exact HQ.out) (by rw [← HRC.out.2]; exact hne)
                    rw [← HRC.out.2] at this; exact this)
                  have HQ1 : Hid (colOr C (getI tt) j = colOr C (mtOf l) j → ∀ x, x < j + 1 → colOr C (getI tt) x = colOr C (mtOf l) x) := hid (fun he x hx => by
                    by_cases e : x = j
                    · rw [e]; exact he
                    · exact HQ.out x (by omega))
                  generalize colOr C (getI tt) j = xa at *
                  generalize colOr C (mtOf l) j = xb at *
                  by_cases he : xa = xb
                  · subst he
                    have HQ2 := hid (HQ1.out rfl)
                    clear HQ1 HLX
                    go_wp2
                    go_quiet (fail)
                    go_wp2
                    refine ⟨⟨j + 1, by omega, by go_num, HQ2, hid ?_⟩, by simp [intOf]; omega⟩
                    exact below_tr HX.out (below_dn _ nq)
                  · have hne : (xa != xb) = true := by simpa using he
                    have hl9 := HLX.out he
                    have hl8 : decide (xa < xb) = true := decide_eq_true hl9
                    clear he hl9
                    go_wp2
                    go_quiet (fail)
                    go_wp2
                    have HY := hid (below_tr HSx.out.below (below_dn wr nq))
                    have d0 : (wr.drewN nq).cell? ⟨ab, j, none⟩ = some (.int .i64 xa) := e0
                    have d1 : (wr.drewN nq).cell? ⟨bb, j, none⟩ = some (.int .i64 xb) := e1
                    clear e0 e1 b0 HSx
                    generalize wr.drewN nq = wy at *
                    have DL := hid (fun X : Bw wy => lives_any X.1)
                    refine wp_region_bw (by kernel_rfl) (by kernel_rfl) ?_
                    iterate 3 (go_big_quiet_step (fail))
                    (go_big_quiet_want; refine quiet_load_cell 3 _ rfl _ _ rfl _ (d0) (fun w h => by go_simp) ?_; simp only [Act.put, List.setIfInBounds_toArray, List.set_cons_zero, List.set_cons_succ]; go_big_quiet_on)
                    iterate 3 (go_big_quiet_step (fail))
                    (go_big_quiet_want; refine quiet_load_cell 3 _ rfl _ _ rfl _ (d1) (fun w h => by go_simp) ?_; simp only [Act.put, List.setIfInBounds_toArray, List.set_cons_zero, List.set_cons_succ]; go_big_quiet_on)
                    iterate 2 (go_big_quiet_step (fail))
                    (go_big_quiet_want; go_big_quiet_op; go_big_quiet_call ((go_at_call 20; exact Calls.bw (DL.out _))))
                    iterate 2 (first | go_big_quiet_step (fail) | (go_big_quiet_want; go_simp; go_big_quiet_on))
                    refine wpQuiet_nil ?_; rintro w' ⟨X, rfl⟩
                    have HZ := hid (below_tr HY.out X.2)
                    go_wp2
                    go_ret
                    exact ⟨rfl, HZ.out⟩
                  -- /L7
                · -- L8
                  obtain rfl : j = k := by omega
                  have hkr : ¬ ((j : Int) < (j : Int)) := by omega
                  clear hj hlt
                  go_wp2_with fail
                  refine (lives_any _).mono ?_
                  rintro e w6 ⟨rfl, hb⟩
                  have HB9 := hid (below_tr HSx.out.below hb)
                  clear hb
                  go_wp2
                  go_ret
                  exact ⟨rfl, HB9.out⟩
                  -- /L8
              -- /L6
          -- /L4
      -- /L2
end Go.Proofs.Ytmddhjoomlhbcaa
