/- The walk of AssignEnds. -/
import Derived.Test.YtmddhjoomlhbcaaAsSt
import Derived.Test.YtmddhjoomlhbcaaAsBc
namespace Go.Proofs.Ytmddhjoomlhbcaa
open Go.RowKit

/-- Prices that are laid beside a graph. -/
theorem ends_dual {g : Gr} (hc : chk g = true) {yl zl : List Int} (hy : yl.length = g.rows.toNat) (hz : zl.length = g.cols.toNat) (h1 : ∀ x ∈ yl, 0 ≤ x) (h2 : ∀ x ∈ zl, 0 ≤ x) (h3 : ∀ x ∈ g.es, x.w ≤ getI yl x.r.toNat + getI zl x.c.toNat) : Dual (wG g) g.rows.toNat g.cols.toNat (getI yl) (getI zl) := by
  have gy : ∀ r, r < g.rows.toNat → 0 ≤ getI yl r := fun r hr => by
    unfold getI; rw [List.getElem?_eq_getElem (by omega)]; exact h1 _ (List.getElem_mem _)
  have gz : ∀ c, c < g.cols.toNat → 0 ≤ getI zl c := fun c hcc => by
    unfold getI; rw [List.getElem?_eq_getElem (by omega)]; exact h2 _ (List.getElem_mem _)
  refine ⟨gy, gz, fun r c hr hcc => ?_⟩
  by_cases e : wG g r c = 0
  · have := gy r hr; have := gz c hcc; omega
  · obtain ⟨x, q1, q2, q3, q4⟩ := wG_some hc e
    have := h3 x q1
    rw [q2, q3, Int.toNat_natCast, Int.toNat_natCast] at this
    omega
theorem sum_all {l : List Int} {n : Nat} (h : l.length = n) : l.sum = sumN (getI l) n := by
  have := sum_takeN (l := l) (n := n) (by omega)
  rwa [← h, List.take_length, h] at this
theorem take_snoc {α : Type} {l : List α} {k : Nat} {x : α} (h : l[k]? = some x) : l.take (k + 1) = l.take k ++ [x] := by
  obtain ⟨h1, h2⟩ := List.getElem?_eq_some_iff.1 h
  rw [List.take_succ_eq_append_getElem h1, h2]
theorem getI_at {l : List Int} {k : Nat} (h : k < l.length) : l[k]? = some (getI l k) := by unfold getI; rw [List.getElem?_eq_getElem h]; rfl
set_option maxRecDepth 100000 in
set_option maxHeartbeats 8000000 in
theorem aends_any (g : Gr) (a : Option Addr) (cap : Nat) (hok : GrOk g cap) (hes : g.es.length * 24 ≤ 140737488351232) (yl : List Int) (Y : Option Addr) (cyl : Nat) (zl : List Int) (Z : Option Addr) (czl : Nat) (w : World) (hr : RowsAt 3 edV w a g.es) (hy : RowsAt 1 numV w Y yl) (hz : RowsAt 1 numV w Z zl) :
    Calls Try.prog 6 #[grV g a cap, .slice Y yl.length cyl, .slice Z zl.length czl] w fun e w' => e = .returned (.bool true) ∧ Below w.heap.size w w' := by
  have HR := hid hr
  have HY := hid hy
  have HZ := hid hz
  have HOK := hid hok
  have HES := hid hes
  clear hr hok hy hz hes
  unfold grV at *
  go_enter Try.func6, Try.ntmps6
  go_upto_region 1 with fail
  have HS := hid (GBx.start (cap := cap) HR.out)
  generalize w.alloc (.cells #[.int .i64 g.rows, .int .i64 g.cols, .slice a g.es.length cap] 24) = w1 at *
  obtain ⟨gb, hgb⟩ : ∃ gb, gb = w.heap.size := ⟨_, rfl⟩
  rw [← hgb] at HS ⊢
  have HGB := hid hgb
  clear hgb
  go_wp2_with (refine wpList_load_w rfl 24 _ rfl _ rfl _ _ _ _ (HS.out.blk) Try.underlying24 rfl (info_gr) ?_)
  refine (lbest_big g a cap HOK.out HES.out w1 HS.out.es).mono ?_
  rintro e w2 ⟨hb, hcase⟩
  have HS2 := hid (HS.out.kept hb)
  clear hb HS
  rcases hcase with ⟨hc, rfl⟩ | ⟨hc, tt, y, z, v, ha, rfl, hcv⟩
  · have HC := hid hc
    clear hc
    go_upto_region 2 with fail
    have HS3 := hid (HS2.out.kept (below_new w2 (.cells #[.slice none 0 0, .slice none 0 0, .slice none 0 0] 39)))
    clear HS2
    generalize w2.alloc (.cells #[.slice none 0 0, .slice none 0 0, .slice none 0 0] 39) = w3 at *
    generalize w2.heap.size = cb at *
    go_wp2_with (refine wpList_load_w rfl 24 _ rfl _ rfl _ _ _ _ (HS3.out.blk) Try.underlying24 rfl (info_gr) ?_)
    refine (may_any g a cap HOK.out w3 HS3.out.es).mono ?_
    rintro e w4 ⟨rfl, hb⟩
    have HS4 := hid (HS3.out.kept hb)
    clear hb HS3
    rw [HC.out]
    go_wp2_with fail
    refine (lives_any _).mono ?_
    rintro e wl ⟨rfl, hb⟩
    have HB := hid (below_tr (HS4.out.below) hb)
    clear hb
    go_wp2
    go_ret
    exact ⟨rfl, HB.out⟩
  have HC := hid hc
  have HA := hid ha
  have hsz := BestAns.sizes hc
  obtain ⟨R, hR⟩ : ∃ R, R = g.rows.toNat := ⟨_, rfl⟩
  obtain ⟨C, hC⟩ : ∃ C, C = g.cols.toNat := ⟨_, rfl⟩
  rw [← hR, ← hC] at hsz
  obtain ⟨hR64, hC64, hRr, hCc⟩ := hsz
  have HRr := hid hRr
  have HCc := hid hCc
  have HRC := hid (And.intro hR hC)
  rw [← hR, ← hC] at hcv
  obtain ⟨ps, hps⟩ : ∃ ps, ps = prsTo tt R := ⟨_, rfl⟩
  obtain ⟨ys, hys⟩ : ∃ ys, ys = y.take R := ⟨_, rfl⟩
  obtain ⟨zs, hzs⟩ : ∃ zs, zs = z.take C := ⟨_, rfl⟩
  obtain ⟨va, hva⟩ : ∃ va, va = val (wG g) (upTo g.rows.toNat tt) g.rows.toNat := ⟨_, rfl⟩
  have hvb : 0 ≤ va ∧ va ≤ 70368878395456 := by
    rw [hva]
    refine ⟨val_nonneg (wG_ok hc) _ _, ?_⟩
    have h1 : val (wG g) (upTo g.rows.toNat tt) g.rows.toNat ≤ 1099513724929 * (g.rows.toNat : Int) := sumN_bound fun i hi => by
      have := (wG_ok hc).hi i (upTo g.rows.toNat tt i).toNat
      split <;> omega
    omega
  rw [← hps, ← hys, ← hzs] at hcv
  rw [← hva]
  have HVA := hid hva
  have HYS := hid hys
  have HZS := hid hzs
  obtain ⟨Ap, cp, Ay, cy, Az, cz, rfl, _, _, _, r1, r2, r3⟩ := hcv.at_
  have HK := hid (CBx.start (cp := cp) (cy := cy) (cz := cz) r1 r2 r3)
  have hb3 := below_new w2 (.cells #[.slice Ap ps.length cp, .slice Ay ys.length cy, .slice Az zs.length cz] 39)
  have HS3 := hid (HS2.out.kept hb3)
  have HLY : Hid (ys.length = R ∧ zs.length = C) := hid ⟨by rw [hys, List.length_take, ha.ly]; omega, by rw [hzs, List.length_take, ha.lz]; omega⟩
  clear ha hc hva hps hys hzs hcv r1 r2 r3 HS2 hb3 hR hC hRr hCc
  go_upto_region 2 with fail
  generalize w2.alloc (.cells #[.slice Ap ps.length cp, .slice Ay ys.length cy, .slice Az zs.length cz] 39) = w3 at *
  generalize w2.heap.size = cb at *
  go_wp2_with (refine wpList_load_w rfl 24 _ rfl _ rfl _ _ _ _ (HS3.out.blk) Try.underlying24 rfl (info_gr) ?_)
  refine (may_any g a cap HOK.out w3 HS3.out.es).mono ?_
  rintro e w4 ⟨rfl, hb⟩
  have HS4 := hid (HS3.out.kept hb)
  have HK4 := hid (HK.out.kept hb)
  clear hb HS3 HK
  rw [HC.out]
  have b0 := HS4.out.rows HRr.out
  have b1 := HS4.out.cols HCc.out
  by_cases hly : yl.length = R
  case neg =>
    have g1 : ((yl.length : Int) != (R : Int)) = true := by simp; omega
    have g2 : (yl.length != R) = true := by simp; omega
    clear hly
    go_wp2_with fail
    refine (lives_any _).mono ?_
    rintro e wl ⟨rfl, hb⟩
    have HB := hid (below_tr (HS4.out.below) hb)
    clear hb
    go_wp2
    go_ret
    exact ⟨rfl, HB.out⟩
  have g1 : ((yl.length : Int) != (R : Int)) = false := by simp; omega
  have g2 : (yl.length != R) = false := by simp; omega
  have HYL := hid hly
  clear hly
  by_cases hlz : zl.length = C
  case neg =>
    have g3 : ((zl.length : Int) != (C : Int)) = true := by simp; omega
    have g4 : (zl.length != C) = true := by simp; omega
    clear hlz
    go_wp2_with fail
    refine (lives_any _).mono ?_
    rintro e wl ⟨rfl, hb⟩
    have HB := hid (below_tr (HS4.out.below) hb)
    clear hb
    go_wp2
    go_ret
    exact ⟨rfl, HB.out⟩
  have g3 : ((zl.length : Int) != (C : Int)) = false := by simp; omega
  have g4 : (zl.length != C) = false := by simp; omega
  have HZL := hid hlz
  clear hlz
  go_wp2
  clear b0 b1 g1 g2 g3 g4
  go_loopw [10, 11] (fun s i wx => ∃ (k : Nat) (n : Int), k ≤ R ∧ i = .int .i64 k ∧ s = .int .i64 n ∧ (0 ≤ n ∧ n ≤ 70368878395456 * (k : Int)) ∧ Hid (n = (yl.take k).sum) ∧ Hid (∀ x ∈ yl.take k, 0 ≤ x ∧ x ≤ 70368878395456) ∧ Hid (wx = w4)) (fun _ i _ => R - (intOf i).toNat)
  case atStart => exact ⟨0, 0, by omega, rfl, rfl, by omega, hid rfl, hid (fun x hx => by simp at hx), hid rfl⟩
  case round =>
    obtain ⟨k, n, hk, rfl, rfl, hnb, HN, HP, hwx⟩ := hrel
    obtain rfl := hwx.out
    clear hwx
    have b0 := HS4.out.rows HRr.out
    have hk64 : (k : Int) ≤ 64 := by omega
    by_cases hlt : k < R
    · -- L1
      have hki : (k : Int) < (R : Int) := by omega
      obtain ⟨x, hx⟩ : ∃ x, yl[k]? = some x := ⟨yl[k]'(by rw [HYL.out]; exact hlt), by simp⟩
      obtain ⟨ga, oa, hAy, e1⟩ := num_cell (HY.out.kept HS4.out.below) hx
      have hkl : (k : Int) < (yl.length : Int) := by rw [HYL.out]; exact hki
      have HSN : Hid ((yl.take (k + 1)).sum = n + x) := hid (by rw [take_snoc hx, List.sum_append, ← HN.out]; simp)
      have HPN : Hid (0 ≤ x ∧ x ≤ 70368878395456 → ∀ v ∈ yl.take (k + 1), 0 ≤ v ∧ v ≤ 70368878395456) := hid (fun h0 v hv => by
        rw [take_snoc hx] at hv
        rcases List.mem_append.1 hv with hv | hv
        · exact HP.out v hv
        · have : v = x := by simpa using hv
          rw [this]; exact h0)
      subst hAy
      clear hx
      by_cases h1 : x < 0
      · have h2 : decide (x < 0) = true := decide_eq_true h1
        go_wp2_with fail
        refine (lives_any _).mono ?_
        rintro e wl ⟨rfl, hb⟩
        have HB := hid (below_tr (HS4.out.below) hb)
        clear hb
        go_wp2
        go_ret
        exact ⟨rfl, HB.out⟩
      have h2 : decide (x < 0) = false := decide_eq_false h1
      by_cases h3 : va < x
      · have h4 : decide (va < x) = true := decide_eq_true h3
        clear h1
        go_wp2_with fail
        refine (lives_any _).mono ?_
        rintro e wl ⟨rfl, hb⟩
        have HB := hid (below_tr (HS4.out.below) hb)
        clear hb
        go_wp2
        go_ret
        exact ⟨rfl, HB.out⟩
      have h4 : decide (va < x) = false := decide_eq_false h3
      have hsum : n + x ≤ 70368878395456 * ((k : Int) + 1) := by omega
      go_wp2
      exact ⟨⟨k + 1, n + x, by omega, by go_num, rfl, by omega, hid HSN.out.symm, hid (HPN.out (by omega)), hid trivial⟩, by simp [intOf]; omega⟩
      -- /L1
    · -- L2
      obtain rfl : k = R := by omega
      have hkr : ¬ ((k : Int) < (k : Int)) := by omega
      have HNY : Hid (n = yl.sum) := hid (by rw [HN.out, ← HYL.out, List.take_length])
      have HPY : Hid (∀ x ∈ yl, 0 ≤ x ∧ x ≤ 70368878395456) := hid (fun x hx => HP.out x (by rw [← HYL.out, List.take_length]; exact hx))
      clear hlt hk HN HP
      obtain ⟨sy, hsy⟩ : ∃ sy, sy = n := ⟨_, rfl⟩
      rw [← hsy] at hnb HNY ⊢
      clear hsy
      have hsy : 0 ≤ sy ∧ sy ≤ 4503608217309184 := by omega
      clear hnb
      go_wp2
      clear b0 hkr
      go_loopw [10, 12] (fun s i wx => ∃ (j : Nat) (n : Int), j ≤ C ∧ i = .int .i64 j ∧ s = .int .i64 (sy + n) ∧ (0 ≤ n ∧ n ≤ 70368878395456 * (j : Int)) ∧ Hid (n = (zl.take j).sum) ∧ Hid (∀ x ∈ zl.take j, 0 ≤ x ∧ x ≤ 70368878395456) ∧ Hid (wx = wr)) (fun _ i _ => C - (intOf i).toNat)
      case atStart => exact ⟨0, 0, by omega, rfl, by rw [Int.add_zero], by omega, hid rfl, hid (fun x hx => by simp at hx), hid rfl⟩
      case round =>
        obtain ⟨j, n, hj, rfl, rfl, hnb, HN, HP, hwx⟩ := hrel
        obtain rfl := hwx.out
        clear hwx
        have b1 := HS4.out.cols HCc.out
        have hj64 : (j : Int) ≤ 64 := by omega
        by_cases hlt : j < C
        · -- L3
          have hki : (j : Int) < (C : Int) := by omega
          obtain ⟨x, hx⟩ : ∃ x, zl[j]? = some x := ⟨zl[j]'(by rw [HZL.out]; exact hlt), by simp⟩
          obtain ⟨ga, oa, hAz, e1⟩ := num_cell (HZ.out.kept HS4.out.below) hx
          have hkl : (j : Int) < (zl.length : Int) := by rw [HZL.out]; exact hki
          have HSN : Hid ((zl.take (j + 1)).sum = n + x) := hid (by rw [take_snoc hx, List.sum_append, ← HN.out]; simp)
          have HPN : Hid (0 ≤ x ∧ x ≤ 70368878395456 → ∀ v ∈ zl.take (j + 1), 0 ≤ v ∧ v ≤ 70368878395456) := hid (fun h0 v hv => by
            rw [take_snoc hx] at hv
            rcases List.mem_append.1 hv with hv | hv
            · exact HP.out v hv
            · have : v = x := by simpa using hv
              rw [this]; exact h0)
          subst hAz
          clear hx
          by_cases h1 : x < 0
          · have h2 : decide (x < 0) = true := decide_eq_true h1
            go_wp2_with fail
            refine (lives_any _).mono ?_
            rintro e wl ⟨rfl, hb⟩
            have HB := hid (below_tr (HS4.out.below) hb)
            clear hb
            go_wp2
            go_ret
            exact ⟨rfl, HB.out⟩
          have h2 : decide (x < 0) = false := decide_eq_false h1
          by_cases h3 : va < x
          · have h4 : decide (va < x) = true := decide_eq_true h3
            clear h1
            go_wp2_with fail
            refine (lives_any _).mono ?_
            rintro e wl ⟨rfl, hb⟩
            have HB := hid (below_tr (HS4.out.below) hb)
            clear hb
            go_wp2
            go_ret
            exact ⟨rfl, HB.out⟩
          have h4 : decide (va < x) = false := decide_eq_false h3
          have hsum : n + x ≤ 70368878395456 * ((j : Int) + 1) := by omega
          go_wp2
          exact ⟨⟨j + 1, n + x, by omega, by go_num, by go_num, by omega, hid HSN.out.symm, hid (HPN.out (by omega)), hid trivial⟩, by simp [intOf]; omega⟩
          -- /L3
        · -- L4
          obtain rfl : j = C := by omega
          have hkr : ¬ ((j : Int) < (j : Int)) := by omega
          have HNZ : Hid (n = zl.sum) := hid (by rw [HN.out, ← HZL.out, List.take_length])
          have HPZ : Hid (∀ x ∈ zl, 0 ≤ x ∧ x ≤ 70368878395456) := hid (fun x hx => HP.out x (by rw [← HZL.out, List.take_length]; exact hx))
          clear hlt hj HN HP
          obtain ⟨st, hst⟩ : ∃ st, st = sy + n := ⟨_, rfl⟩
          rw [← hst]
          have HST : Hid (st = yl.sum + zl.sum) := hid (by rw [hst, HNY.out, HNZ.out])
          have hstb : 0 ≤ st ∧ st ≤ 9007216434618368 := by omega
          clear hst hnb hsy
          have hesl : (g.es.length : Int) ≤ 4096 := by have := es_len HC.out; omega
          have c2 := HS4.out.list
          go_wp2
          clear b1 hkr c2
          go_loopw [13] (fun i wx => ∃ q : Nat, q ≤ g.es.length ∧ i = .int .i64 q ∧ Hid (∀ x ∈ g.es.take q, x.w ≤ getI yl x.r.toNat + getI zl x.c.toNat) ∧ Hid (Below wr.heap.size wr wx)) (fun i _ => g.es.length - (intOf i).toNat)
          case atStart => exact ⟨0, by omega, rfl, hid (fun x hx => by simp at hx), hid (Below.refl _ _)⟩
          case round =>
            obtain ⟨q, hq, rfl, HF, HX⟩ := hrel
            have HSx := hid (HS4.out.kept HX.out)
            have HKx := hid (HK4.out.kept HX.out)
            have c2 := HSx.out.list
            have hql : (q : Int) ≤ 4096 := by omega
            by_cases hlt : q < g.es.length
            · -- L5
              have hki : (q : Int) < (g.es.length : Int) := by omega
              obtain ⟨x, hx⟩ : ∃ x, g.es[q]? = some x := ⟨g.es[q], by simp [hlt]⟩
              obtain ⟨r, c, h1, h2, h3, h4, _, _⟩ := edge_ok HC.out (List.mem_of_getElem? hx)
              have hw1 := edge_w HC.out (List.mem_of_getElem? hx)
              have hrk : r < k := by have := HRr.out; omega
              have hcj : c < j := by have := HCc.out; omega
              have HFN : Hid (x.w ≤ getI yl r + getI zl c → ∀ v ∈ g.es.take (q + 1), v.w ≤ getI yl v.r.toNat + getI zl v.c.toNat) := hid (fun h0 v hv => by
                rw [take_snoc hx] at hv
                rcases List.mem_append.1 hv with hv | hv
                · exact HF.out v hv
                · have : v = x := by simpa using hv
                  rw [this, h1, h2, Int.toNat_natCast, Int.toNat_natCast]; exact h0)
              obtain ⟨eg, eo, haa, _, hcc⟩ := HSx.out.es.get hx
              have HCE : Hid (CellsAt wr eg (eo + q * 3) #[.int .i64 r, .int .i64 c, .int .i64 x.w]) := hid (by rw [Nat.mul_comm, ← h1, ← h2]; exact hcc)
              subst haa
              clear hx hcc h1 h2 h3 h4
              go_upto_region 23 with (refine wpList_load_cells rfl 47 _ rfl _ _ rfl _ _ HCE.out Try.underlying47 rfl info_ed ?_)
              have hb9 := below_new wr (.cells #[.int .i64 r, .int .i64 c, .int .i64 x.w] 47)
              have HX9 := hid (heap_alloc_new wr (.cells #[.int .i64 r, .int .i64 c, .int .i64 x.w] 47))
              have HXX := hid (below_tr HX.out hb9)
              have HSy := hid (HSx.out.kept hb9)
              clear HCE c2 hb9 HSx HKx
              generalize wr.alloc (.cells #[.int .i64 r, .int .i64 c, .int .i64 x.w] 47) = wy at *
              generalize wr.heap.size = eb at *
              have x0 := row_cell HX9.out 0 (.int .i64 r) rfl
              have x1 := row_cell HX9.out 1 (.int .i64 c) rfl
              have x2 := row_cell HX9.out 2 (.int .i64 x.w) rfl
              have q1 := getI_at (l := yl) (k := r) (by rw [HYL.out]; exact hrk)
              have q2 := getI_at (l := zl) (k := c) (by rw [HZL.out]; exact hcj)
              have hyb := HPY.out _ (List.mem_of_getElem? q1)
              have hzb := HPZ.out _ (List.mem_of_getElem? q2)
              obtain ⟨ga, oa, hAy, e1⟩ := num_cell (HY.out.kept HSy.out.below) q1
              obtain ⟨gc, oc, hAz, e2⟩ := num_cell (HZ.out.kept HSy.out.below) q2
              have hrl : (r : Int) < (yl.length : Int) := by rw [HYL.out]; omega
              have hcl : (c : Int) < (zl.length : Int) := by rw [HZL.out]; omega
              subst hAy hAz
              clear q1 q2
              generalize getI yl r = yr at *
              generalize getI zl c = zc at *
              go_quiet (fail)
              by_cases hbad : yr + zc < x.w
              · have HB9 := hid (below_tr HSy.out.below (below_dn wy nq))
                go_wp2_with fail
                refine (lives_any _).mono ?_
                rintro e wl ⟨rfl, hb⟩
                have HB := hid (below_tr (HB9.out) hb)
                clear hb
                go_wp2
                go_ret
                exact ⟨rfl, HB.out⟩
              have HFN2 := hid (HFN.out (by omega))
              clear HFN
              go_wp2
              exact ⟨⟨q + 1, by omega, by go_num, HFN2, hid (below_tr HXX.out (below_dn _ _))⟩, by simp [intOf]; omega⟩
              -- /L5
            · -- L6
              obtain rfl : q = g.es.length := by omega
              have hkr : ¬ ((g.es.length : Int) < (g.es.length : Int)) := by omega
              rw [List.take_length] at HF
              have hdual := ends_dual HC.out (yl := yl) (zl := zl) (by rw [HYL.out, HRC.out.1]) (by rw [HZL.out, HRC.out.2]) (fun x hx => (HPY.out x hx).1) (fun x hx => (HPZ.out x hx).1) HF.out
              have hs1 := sum_all HYL.out
              have hs2 := sum_all HZL.out
              have hv1 := (val_le HA.out.best.mat hdual).1
              rw [← HRC.out.1, ← HRC.out.2, ← hs1, ← hs2, ← HST.out] at hv1
              have hv2 : ¬ st < va := by rw [HVA.out, ← HRC.out.1]; omega
              have HEQ : Hid (st = va → (∀ x, x < k → getI yl x ≤ getI y x) ∧ ∀ x, x < j → getI z x ≤ getI zl x) := hid (fun he => by
                have hle : sumN (getI yl) g.rows.toNat + sumN (getI zl) g.cols.toNat ≤ val (wG g) (upTo g.rows.toNat tt) g.rows.toNat := by
                  rw [← HRC.out.1, ← HRC.out.2, ← hs1, ← hs2, ← HST.out, he, HVA.out, ← HRC.out.1]; exact Int.le_refl _
                obtain ⟨p1, p2⟩ := HA.out.best.le_prices hdual (HA.out.best.shows hdual hle)
                rw [← HRC.out.1] at p2
                rw [← HRC.out.2] at p1
                exact ⟨p2, p1⟩)
              have b0 := HSx.out.rows HRr.out
              have b1 := HSx.out.cols HCc.out
              clear hdual hs1 hs2 hv1 hlt hq
              have HV2 := hid hv2
              clear hv2
              have hv3 : decide (st < va) = false := decide_eq_false HV2.out
              go_wp2
              clear b0 b1 hkr hv3
              by_cases hst : st = va
              · have hse : (st == va) = true := by simpa using hst
                have HE := hid (HEQ.out hst)
                clear hst HEQ
                go_loopw [15] (fun i wx => ∃ r : Nat, r ≤ k ∧ i = .int .i64 r ∧ Hid (Below wr.heap.size wr wx)) (fun i _ => k - (intOf i).toNat)
                case atStart => exact ⟨0, by omega, rfl, hid (Below.refl _ _)⟩
                case round =>
                  obtain ⟨r, hr, rfl, HB9⟩ := hrel
                  have HS9 := hid (HSx.out.kept HB9.out)
                  have HK9 := hid (HKx.out.kept HB9.out)
                  have b0 := HS9.out.rows HRr.out
                  have hr64 : (r : Int) ≤ 64 := by omega
                  by_cases hlt : r < k
                  · have hki : (r : Int) < (k : Int) := by omega
                    have hfin : ¬ (getI y r < getI yl r) := by have := HE.out.1 r hlt; omega
                    have a1 := row_cell HK9.out.blk 1 (.slice Ay ys.length cy) rfl
                    rw [HLY.out.1] at a1
                    have q1 := getI_at (l := yl) (k := r) (by rw [HYL.out]; exact hlt)
                    have q2 : ys[r]? = some (getI y r) := by rw [HYS.out]; exact take_get hlt (by rw [HA.out.ly]; exact hR64)
                    obtain ⟨ga, oa, hAy, e1⟩ := num_cell (HY.out.kept HS9.out.below) q1
                    obtain ⟨gc, oc, hBy, e2⟩ := num_cell HK9.out.y q2
                    have hrl : (r : Int) < (yl.length : Int) := by rw [HYL.out]; omega
                    subst hAy hBy
                    clear q1 q2
                    go_wp2
                    go_quiet (fail)
                    go_wp2
                    exact ⟨⟨r + 1, by omega, by go_num, hid (below_tr HB9.out (below_dn _ _))⟩, by simp [intOf]; omega⟩
                  · have hex : ¬ (r : Int) < (k : Int) := by omega
                    clear hlt hr
                    go_wp2
                    go_loopw [16] (fun i wx => ∃ c : Nat, c ≤ j ∧ i = .int .i64 c ∧ Hid (Below wr.heap.size wr wx)) (fun i _ => j - (intOf i).toNat)
                    case atStart => exact ⟨0, by omega, rfl, hid (Below.refl _ _)⟩
                    case round =>
                      obtain ⟨c, hcl, rfl, HB10⟩ := hrel
                      have HS10 := hid (HS9.out.kept HB10.out)
                      have HK10 := hid (HK9.out.kept HB10.out)
                      have b1 := HS10.out.cols HCc.out
                      have hc64 : (c : Int) ≤ 64 := by omega
                      by_cases hlt : c < j
                      · have hki : (c : Int) < (j : Int) := by omega
                        have hfin : ¬ (getI zl c < getI z c) := by have := HE.out.2 c hlt; omega
                        have a2 := row_cell HK10.out.blk 2 (.slice Az zs.length cz) rfl
                        rw [HLY.out.2] at a2
                        have q1 := getI_at (l := zl) (k := c) (by rw [HZL.out]; exact hlt)
                        have q2 : zs[c]? = some (getI z c) := by rw [HZS.out]; exact take_get hlt (by rw [HA.out.lz]; exact hC64)
                        obtain ⟨ga, oa, hAz, e1⟩ := num_cell (HZ.out.kept HS10.out.below) q1
                        obtain ⟨gc, oc, hBz, e2⟩ := num_cell HK10.out.z q2
                        have hrl : (c : Int) < (zl.length : Int) := by rw [HZL.out]; omega
                        subst hAz hBz
                        clear q1 q2
                        go_wp2
                        go_quiet (fail)
                        go_wp2
                        exact ⟨⟨c + 1, by omega, by go_num, hid (below_tr HB10.out (below_dn _ _))⟩, by simp [intOf]; omega⟩
                      · have hey : ¬ (c : Int) < (j : Int) := by omega
                        clear hlt hcl
                        go_wp2_with fail
                        refine (lives_any _).mono ?_
                        rintro e wl ⟨rfl, hb⟩
                        have HB := hid (below_tr (HS10.out.below) hb)
                        clear hb
                        go_wp2
                        go_ret
                        exact ⟨rfl, HB.out⟩
              · have hse : (st == va) = false := by simpa using hst
                clear hst HEQ
                go_loopw [15] (fun i wx => i = .int .i64 0 ∧ Hid (wx = wr)) (fun i _ => 0)
                case atStart => exact ⟨rfl, hid rfl⟩
                case round =>
                  obtain ⟨rfl, hwx⟩ := hrel
                  obtain rfl := hwx.out
                  clear hwx
                  have b0 := HSx.out.rows HRr.out
                  have hex : ¬ (0 : Int) < (k : Int) ∨ (0 : Int) < (k : Int) := by omega
                  rcases hex with hex | hex
                  all_goals
                    go_wp2
                    go_loopw [16] (fun i wx => i = .int .i64 0 ∧ Hid (wx = wr)) (fun i _ => 0)
                    case atStart => exact ⟨rfl, hid rfl⟩
                    case round =>
                      obtain ⟨rfl, hwx⟩ := hrel
                      obtain rfl := hwx.out
                      clear hwx
                      have b1 := HSx.out.cols HCc.out
                      have hey : ¬ (0 : Int) < (j : Int) ∨ (0 : Int) < (j : Int) := by omega
                      rcases hey with hey | hey
                      all_goals
                        go_wp2_with fail
                        refine (lives_any _).mono ?_
                        rintro e wl ⟨rfl, hb⟩
                        have HB := hid (below_tr (HSx.out.below) hb)
                        clear hb
                        go_wp2
                        go_ret
                        exact ⟨rfl, HB.out⟩
              -- /L6
          -- /L4
      -- /L2
end Go.Proofs.Ytmddhjoomlhbcaa
