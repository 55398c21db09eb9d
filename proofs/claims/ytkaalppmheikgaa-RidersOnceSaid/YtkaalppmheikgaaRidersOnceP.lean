/- RidersOnce, proved: for every input the call returns true, and the arguments read behind it as before. No condition. Ahead of it, in the same text: The books of a script, walked. A script of riders, walked. A script of riders, walked: plays. The chapter's examples, walked: lives. RidersOnce, walked. Opening the arguments of a law: an array of integers by value. Scripts of riders as arguments. -/
import Derived.Test.YtkaalppmheikgaaRvF
import Derived.Test.YtkaalppmheikgaaCntR
import Derived.Test.YtkaalppmheikgaaTwWaiting
import Derived.Test.YtkaalppmheikgaaOpPl
import Derived.Test.YtkaalppmheikgaaSlB1
import Derived.Test.YtkaalppmheikgaaRdN
import Derived.Test.YtkaalppmheikgaaRows
import Derived.ProofKit
import Derived.OpenShut
import Derived.ShutString
import Derived.ChangeOld
import Derived.Below
import Derived.KernelRfl
import Derived.SizedLaws

namespace Go.Proofs.Ytkaalppmheikgaa
open Go.RowKit

theorem cnt_zero {x : Id8} {l : List Id8} (h : x ∉ l) : cnt x l = 0 := by
  have : ¬ 0 < cnt x l := fun e => h (cnt_pos.1 e)
  omega
theorem wp_region_lit {P : Program} {id : Nat} {Q : Exit → Act → World → Prop} {a : Act} {w : World} {l : List Oper} (hm : P.follows .mixedOrders = true) (hB : Region.lexB .any l.toArray = true) (wq : World) (hq : wq = w.drew)
    (h : wpStill P l.toArray wq (fun a' => Q .normal a' wq) l a) : (Code.region id l.toArray true).wp P Q a w := by
  subst hq
  exact wp_region_still_lit hm hB h
/-- Each that came is known, and waits or left once. -/
structure Books (R : RS) (left : List Id8) : Prop where
  perm : (left ++ Keys R.T).Perm R.S
theorem Books.cases {R : RS} {left : List Id8} (h : Books R left) (hi : RInv R) {x : Id8} (hx : x ∈ R.S) : ((lkp x R.T).isSome = true ∧ cnt x left = 0) ∨ ((lkp x R.T).isSome = false ∧ cnt x left = 1) := by
  have hn := h.perm.nodup_iff.2 hi.known
  obtain ⟨h1, h2, h3⟩ := List.nodup_append.1 hn
  cases e : lkp x R.T with
  | none =>
    right
    have hk := lkp_none.1 e
    have hm : x ∈ left := by
      rcases List.mem_append.1 (h.perm.mem_iff.2 hx) with q | q
      · exact q
      · exact absurd q hk
    exact ⟨rfl, cnt_one h1 hm⟩
  | some y =>
    left
    have hk : x ∈ Keys R.T := List.mem_map.2 ⟨(x, y), (lkp_mem hi.keys).1 e, rfl⟩
    exact ⟨rfl, cnt_zero fun q => h3 x q x hk rfl⟩
theorem Books.len {R : RS} {left : List Id8} (h : Books R left) : left.length + R.T.length = R.S.length := by
  have := h.perm.length_eq
  unfold Keys at this
  simpa using this
set_option maxRecDepth 100000 in
set_option maxHeartbeats 16000000 in
theorem books_any {w0 w : World} {p : Nat} {R : RS} (h : Rd w0 w p R) (left : List Id8) (hb : Books R left) (hS : R.S.length ≤ 4398046511104) (AC AL : Option Addr) (cc cl : Nat) (hAC : RowsAt 8 idE w AC R.S) (hAL : RowsAt 8 idE w AL left) :
    Calls Try.prog 23 #[.pointer (some ⟨p, 0, none⟩), .agg (cfE R.cf), .slice AC R.S.length cc, .slice AL left.length cl] w fun e w' => e = .returned (.bool true) ∧ Below w.heap.size w w' := by
  have HR := hid h
  have HI := hid h.inv
  have HBK := hid hb
  have HAC := hid hAC
  have HAL := hid hAL
  have hlen := hb.len
  have hnx := h.inv.cnt
  have hro := h.inv.room
  have hll := lst_len R.T
  have hsl := sortI_len R.S
  have HNX := hid hnx
  have HB0 := hid ((Below.refl w.heap.size w).alloc (Nat.le_refl _) (.cells (cfE R.cf) 23))
  have HC0 := hid (heap_alloc_new w (.cells (cfE R.cf) 23))
  have hln : (R.T.length : Int) + left.length = R.S.length := by omega
  have hwr := IntWalk.i64_in ((R.T.length : Int) + left.length) (by omega)
  have hq1 : ¬ R.cf.q < (R.T.length : Int) := by omega
  have KL := hid (fun u (q : Below w.heap.size w u) => rd_list (h.kept q) (by omega))
  have KS := hid (fun u (q : Below w.heap.size w u) => rd_state (h.kept q) (by omega))
  have KF := hid (fun (x : Id8) u (q : Below w.heap.size w u) => rd_find (h.kept q) x)
  have KK := hid (fun (x : Id8) u (q : Below w.heap.size w u) => rd_known (h.kept q) x)
  rw [hll] at KL
  rw [hsl] at KS
  clear h hb hAC hAL hnx hro
  obtain ⟨nT, hnT⟩ : ∃ n : Nat, n = R.T.length := ⟨_, rfl⟩
  obtain ⟨nL, hnL⟩ : ∃ n : Nat, n = left.length := ⟨_, rfl⟩
  obtain ⟨nS, hnS⟩ : ∃ n : Nat, n = R.S.length := ⟨_, rfl⟩
  have HNT := hid hnT
  have HNL := hid hnL
  have HNS := hid hnS
  rw [← hnT] at hlen hll KL hln hwr hq1
  rw [← hnL] at hlen hln hwr ⊢
  rw [← hnS] at hlen hln hS hsl KS ⊢
  have HNX2 := hid (show R.next = (nS : Int) by rw [HNX.out, HNS.out])
  rw [HNX2.out] at KS
  clear hnT hnL hnS
  go_enter Try.func23, Try.ntmps23
  go_wp2_with (first | (go_at_call 11; (with_reducible refine (KL.out _ HB0.out).mono ?_); rintro e w1 ⟨Al, kl, rfl, hr1, ho1, hb1⟩; have HL1 := hid hr1; have HB1 := hid (HB0.out.trans (hb1.mono HB0.out.size)); have hcq : w1.cell? ⟨w.heap.size, 0, none⟩ = some (.int .i64 R.cf.q) := row_cell (below_keep hb1 HC0.out) 0 _ rfl; have HC1 := hid (below_keep hb1 HC0.out); clear hr1 ho1 hb1) | (go_at_call 12; (with_reducible refine (KS.out _ HB1.out).mono ?_); rintro e w2 ⟨Ak, kk, rfl, hr2, ho2, hb2⟩; have HK2 := hid hr2; have HL2 := hid (HL1.out.kept hb2); have HB2 := hid (HB1.out.trans (hb2.mono HB1.out.size)); have hcq2 : w2.cell? ⟨w.heap.size, 0, none⟩ = some (.int .i64 R.cf.q) := row_cell (below_keep hb2 HC1.out) 0 _ rfl; clear hr2 ho2 hb2 hcq))
  clear hq1 hwr hcq2 KL KS HB0 HC0 HL1 HC1
  go_loopw [13] (fun i wr => ∃ k : Nat, k ≤ nS ∧ i = .int .i64 k ∧ Hid (Below w2.heap.size w2 wr)) (fun i _ => nS - (intOf i).toNat)
  case atStart => exact ⟨0, by omega, rfl, hid (Below.refl _ _)⟩
  case round =>
    obtain ⟨k, hk, rfl, HU⟩ := hrel
    by_cases hlt : k < nS
    · have hki : (k : Int) < (nS : Int) := by omega
      have hkl : k < R.S.length := by rw [← HNS.out]; exact hlt
      obtain ⟨x, hx⟩ : ∃ x, R.S[k]? = some x := ⟨R.S[k], by simp [hkl]⟩
      have hxm := List.mem_of_getElem? hx
      obtain ⟨g, o, rfl, _, _⟩ := HAC.out.get hx
      have HROW : Hid (∀ u, Below w2.heap.size w2 u → CellsAt u g (o + k * 8) (bys x.1)) := hid (fun u q => by
        obtain ⟨g', o', e, _, h2⟩ := ((HAC.out.kept HB2.out).kept q).get hx
        cases e
        rw [Nat.mul_comm] at h2; exact h2)
      have HXI := hid (idV_info x)
      have KC : Hid (∀ u, Below w2.heap.size w2 u → Calls Try.prog 42 #[.slice (some ⟨g, o, none⟩) nS cc, .agg (bys x.1)] u fun e w' => e = .returned (.int .i64 1) ∧ Below u.heap.size u w') := hid (fun u q => by
        have h := count_any R.S (some ⟨g, o, none⟩) cc x (by rw [← HNS.out]; omega) u ((HAC.out.kept HB2.out).kept q)
        rw [cnt_one HI.out.known hxm, ← HNS.out] at h; exact h)
      have KCK : Hid (∀ u, Below w2.heap.size w2 u → Calls Try.prog 42 #[.slice Ak nS kk, .agg (bys x.1)] u fun e w' => e = .returned (.int .i64 1) ∧ Below u.heap.size u w') := hid (fun u q => by
        have h := count_any (sortI R.S) Ak kk x (by rw [hsl]; omega) u (HK2.out.kept q)
        rw [cnt_one ((sortI_perm _).nodup_iff.2 HI.out.known) (sortI_mem.2 hxm), hsl] at h; exact h)
      have KCL : Hid (∀ u, Below w2.heap.size w2 u → Calls Try.prog 42 #[.slice AL nL cl, .agg (bys x.1)] u fun e w' => e = .returned (.int .i64 (cnt x left)) ∧ Below u.heap.size u w') := hid (fun u q => by
        have h := count_any left AL cl x (by rw [← HNL.out]; omega) u ((HAL.out.kept HB2.out).kept q)
        rw [← HNL.out] at h; exact h)
      have KF := hid (fun u q => KF.out x u q)
      have KK := hid (fun u q => KK.out x u q)
      rw [decide_eq_true hxm] at KK
      rcases HBK.out.cases HI.out hxm with ⟨hs, hc⟩ | ⟨hs, hc⟩
      · rw [hs] at KF
        rw [hc] at KCL
        clear hs hc hx hxm hkl
        go_wp2_with (first | (refine wpList_load_cells rfl 31 _ rfl _ _ rfl _ _ (HROW.out _ HU.out) Try.underlying31 rfl HXI.out ?_) | (go_at_call 41; (with_reducible refine (KF.out _ (HB2.out.trans (HU.out.mono HB2.out.size))).mono ?_); rintro e w3 ⟨rfl, hq⟩; have HV := hid (HU.out.trans (hq.mono HU.out.size)); clear hq HU; have HU := HV; clear HV) | (refine wpList_store_row rfl 48 _ _ rfl _ rfl _ rfl _ _ (heap_alloc_new _ _) (by rw [wtE_size]; rfl) (wtE_ones _) (wtE_info _) _ (setRow_alloc _ _ _ _) ?_; have HV := hid (HU.out.alloc HU.out.size (.cells (wtE (wtOf R x)) 48)); clear HU; have HU := HV; clear HV) | (go_at_call 42; (with_reducible first | refine (KC.out _ HU.out).mono ?_ | refine (KCK.out _ HU.out).mono ?_ | refine (KCL.out _ HU.out).mono ?_); rintro e w4 ⟨rfl, hq⟩; have HV := hid (HU.out.trans (hq.mono HU.out.size)); clear hq HU; have HU := HV; clear HV) | (go_at_call 13; (with_reducible refine (KK.out _ (HB2.out.trans (HU.out.mono HB2.out.size))).mono ?_); rintro e w5 ⟨rfl, hq⟩; have HV := hid (HU.out.trans (hq.mono HU.out.size)); clear hq HU; have HU := HV; clear HV))
        refine ⟨⟨k + 1, by omega, by go_num, HU⟩, by simp [intOf]; omega⟩
      · rw [hs] at KF
        rw [hc] at KCL
        clear hs hc hx hxm hkl
        go_wp2_with (first | (refine wpList_load_cells rfl 31 _ rfl _ _ rfl _ _ (HROW.out _ HU.out) Try.underlying31 rfl HXI.out ?_) | (go_at_call 41; (with_reducible refine (KF.out _ (HB2.out.trans (HU.out.mono HB2.out.size))).mono ?_); rintro e w3 ⟨rfl, hq⟩; have HV := hid (HU.out.trans (hq.mono HU.out.size)); clear hq HU; have HU := HV; clear HV) | (refine wpList_store_row rfl 48 _ _ rfl _ rfl _ rfl _ _ (heap_alloc_new _ _) (by rw [wtE_size]; rfl) (wtE_ones _) (wtE_info _) _ (setRow_alloc _ _ _ _) ?_; have HV := hid (HU.out.alloc HU.out.size (.cells (wtE (wtOf R x)) 48)); clear HU; have HU := HV; clear HV) | (go_at_call 42; (with_reducible first | refine (KC.out _ HU.out).mono ?_ | refine (KCK.out _ HU.out).mono ?_ | refine (KCL.out _ HU.out).mono ?_); rintro e w4 ⟨rfl, hq⟩; have HV := hid (HU.out.trans (hq.mono HU.out.size)); clear hq HU; have HU := HV; clear HV) | (go_at_call 13; (with_reducible refine (KK.out _ (HB2.out.trans (HU.out.mono HB2.out.size))).mono ?_); rintro e w5 ⟨rfl, hq⟩; have HV := hid (HU.out.trans (hq.mono HU.out.size)); clear hq HU; have HU := HV; clear HV))
        refine ⟨⟨k + 1, by omega, by go_num, HU⟩, by simp [intOf]; omega⟩
    · have hki : ¬ ((k : Int) < (nS : Int)) := by omega
      go_wp2_with fail
      go_loopw [16] (fun i wr => ∃ k : Nat, k ≤ nT ∧ i = .int .i64 k ∧ Hid (Below w2.heap.size w2 wr)) (fun i _ => nT - (intOf i).toNat)
      case atStart => exact ⟨0, by omega, rfl, HU⟩
      case round =>
        clear HU hlt hk hki
        obtain ⟨k, hk, rfl, HU⟩ := hrel
        by_cases hlt : k < nT
        · have hki : (k : Int) < (nT : Int) := by omega
          obtain ⟨y, hy⟩ : ∃ y, (lstOf R.T)[k]? = some y := ⟨(lstOf R.T)[k]'(by rw [hll]; exact hlt), by simp [hll, hlt]⟩
          have hym := List.mem_of_getElem? hy
          obtain ⟨g, o, rfl, hg0, _⟩ := HL2.out.get hy
          have HG0 := hid hg0
          clear hg0
          have HEL : Hid (∀ u, Below w2.heap.size w2 u → CellsAt u g (o + k * 18) (wtE y)) := hid (fun u q => by
            obtain ⟨g', o', e, _, h2⟩ := (HL2.out.kept q).get hy
            cases e
            rw [Nat.mul_comm] at h2; exact h2)
          have HROW : Hid (∀ u, Below w2.heap.size w2 u → CellsAt u g (o + k * 18) (bys y.rq.id.1)) := hid (fun u q => rq_id (wt_rq (HEL.out u q)))
          have HXI := hid (idV_info y.rq.id)
          have hlk := HI.out.next hym
          obtain ⟨q0, hq0, hq1⟩ := lst_mem.1 hym
          have hlow := HI.out.low q0 hq0
          rw [hq1, HNX2.out] at hlow
          have KF2 := hid (fun u q => KF.out y.rq.id u q)
          rw [show wtOf R y.rq.id = y by unfold wtOf; rw [hlk]; rfl, hlk] at KF2
          have hlow1 : ¬ y.num < 0 := by omega
          have hlow2 : ¬ (nS : Int) ≤ y.num := by omega
          clear hlow hq0 hq1
          by_cases hk0 : k = 0
          · have hkz : ¬ 0 < k := by omega
            clear hy hym hlk hk0
            go_wp2_with (first | (refine wpList_load_cells rfl 31 _ rfl _ _ rfl _ _ (HROW.out _ HU.out) Try.underlying31 rfl HXI.out ?_) | (go_at_call 41; (with_reducible refine (KF2.out _ (HB2.out.trans (HU.out.mono HB2.out.size))).mono ?_); rintro e w3 ⟨rfl, hq⟩; have HV := hid (HU.out.trans (hq.mono HU.out.size)); clear hq HU; have HU := HV; clear HV) | (refine wpList_store_row rfl 48 _ _ rfl _ rfl _ rfl _ _ (heap_alloc_new _ _) (by rw [wtE_size]; rfl) (wtE_ones _) (wtE_info _) _ (setRow_alloc _ _ _ _) ?_; have HV := hid (HU.out.alloc HU.out.size (.cells (wtE y) 48)); clear HU; have HU := HV; clear HV; have HNB := hid (heap_alloc_new w3 (.cells (wtE y) 48))))
            obtain ⟨U, hU⟩ : ∃ U, U = w3.alloc (.cells (wtE y) 48) := ⟨_, rfl⟩
            rw [← hU] at HU HNB ⊢
            have HCY := hid (HEL.out U HU.out)
            have hcn := wt_num HCY.out
            have hlb1 : decide (y.num < 0) = false := decide_eq_false (by omega)
            have hlb2 : decide ((nS : Int) ≤ y.num) = false := decide_eq_false (by omega)
            have HGB := hid (Nat.lt_of_lt_of_le HG0.out HU.out.size)
            clear hU
            have heqq := fun w => wtE_eq y y w
            rw [decide_eq_true (rfl : y = y)] at heqq
            refine wp_region_bw (by kernel_rfl) (by kernel_rfl) ?_
            iterate 3 (first | go_big_quiet_step (fail) | (go_big_quiet_want; go_simp; go_big_quiet_on))
            (go_big_quiet_want; refine quiet_load_row 48 _ rfl _ rfl _ _ _ _ (HNB.out) Try.underlying48 rfl (wtE_info y) ?_; simp only [Act.put, List.setIfInBounds_toArray, List.set_cons_zero, List.set_cons_succ]; go_big_quiet_on)
            iterate 3 (first | go_big_quiet_step (fail) | (go_big_quiet_want; go_simp; go_big_quiet_on))
            (go_big_quiet_want; refine quiet_load_cells 48 _ rfl _ _ rfl _ _ (HCY.out) (HGB.out) Try.underlying48 rfl (wtE_info y) ?_; simp only [Act.put, List.setIfInBounds_toArray, List.set_cons_zero, List.set_cons_succ]; go_big_quiet_on)
            iterate 25 (first | go_big_quiet_step (fail) | (go_big_quiet_want; go_simp; go_big_quiet_on))
            (go_big_quiet_want; refine quiet_load_cell 3 _ rfl _ _ rfl _ (hcn) (fun w h => by go_simp) ?_; simp only [Act.put, List.setIfInBounds_toArray, List.set_cons_zero, List.set_cons_succ]; go_big_quiet_on)
            iterate 7 (first | go_big_quiet_step (fail) | (go_big_quiet_want; go_simp; go_big_quiet_on))
            (go_big_quiet_want; refine quiet_load_cell 3 _ rfl _ _ rfl _ (hcn) (fun w h => by go_simp) ?_; simp only [Act.put, List.setIfInBounds_toArray, List.set_cons_zero, List.set_cons_succ]; go_big_quiet_on)
            iterate 3 (first | go_big_quiet_step (fail) | (go_big_quiet_want; go_simp; go_big_quiet_on))
            refine wpQuiet_nil ?_; rintro w' ⟨X, rfl⟩
            go_wp2_with fail
            refine ⟨⟨k + 1, by omega, by go_num, hid (HU.out.trans (X.2.mono HU.out.size))⟩, by simp [intOf]; omega⟩
          · obtain ⟨z, hz⟩ : ∃ z, (lstOf R.T)[k - 1]? = some z := ⟨(lstOf R.T)[k - 1]'(by rw [hll]; omega), List.getElem?_eq_getElem _⟩
            have HPR : Hid (∀ u, Below w2.heap.size w2 u → CellsAt u g (o + (k - 1) * 18) (wtE z)) := hid (fun u q => by
              obtain ⟨g', o', e, _, h2⟩ := (HL2.out.kept q).get hz
              cases e
              rw [Nat.mul_comm] at h2; exact h2)
            have hzy : z.num < y.num := by
              have h1 := List.pairwise_iff_getElem.1 (lst_rising HI.out) (k - 1) k (by rw [hll]; omega) (by rw [hll]; omega) (by omega)
              rw [List.getElem?_eq_some_iff] at hz hy
              obtain ⟨_, e1⟩ := hz
              obtain ⟨_, e2⟩ := hy
              rw [e1, e2] at h1; exact h1
            have hzy2 : ¬ y.num ≤ z.num := by omega
            have hkp : 0 < k := by omega
            have hwk := IntWalk.i64_in ((k : Int) - 1) (by omega)
            have hk1 : (1 : Int) ≤ (k : Int) := by omega
            have hk2 : (k : Int) - 1 < (nT : Int) := by omega
            clear hy hym hlk hz
            go_wp2_with (first | (refine wpList_load_cells rfl 31 _ rfl _ _ rfl _ _ (HROW.out _ HU.out) Try.underlying31 rfl HXI.out ?_) | (go_at_call 41; (with_reducible refine (KF2.out _ (HB2.out.trans (HU.out.mono HB2.out.size))).mono ?_); rintro e w3 ⟨rfl, hq⟩; have HV := hid (HU.out.trans (hq.mono HU.out.size)); clear hq HU; have HU := HV; clear HV) | (refine wpList_store_row rfl 48 _ _ rfl _ rfl _ rfl _ _ (heap_alloc_new _ _) (by rw [wtE_size]; rfl) (wtE_ones _) (wtE_info _) _ (setRow_alloc _ _ _ _) ?_; have HV := hid (HU.out.alloc HU.out.size (.cells (wtE y) 48)); clear HU; have HU := HV; clear HV; have HNB := hid (heap_alloc_new w3 (.cells (wtE y) 48))))
            obtain ⟨W1, hW1⟩ : ∃ W1, W1 = (w3.alloc (.cells (wtE y) 48)).drew := ⟨_, rfl⟩
            have HU1 := hid (show Below w2.heap.size w2 W1 by rw [hW1]; exact HU.out.drew)
            have HNB1 := hid (show W1.heap[w3.heap.size]? = some (.cells (wtE y) 48 (0, 0)) by rw [hW1]; exact HNB.out)
            have HW1 := hid hW1
            have HCY := hid (HEL.out W1 HU1.out)
            have hcn := wt_num HCY.out
            have hcz := wt_num (HPR.out W1 HU1.out)
            have heqq := fun w => wtE_eq y y w
            rw [decide_eq_true (rfl : y = y)] at heqq
            clear hW1 HU HNB
            refine wp_region_lit (by kernel_rfl) (by kernel_rfl) W1 HW1.out ?_
            iterate 3 still_step
            refine still_execg (by go_simp) (exec_load 48 _ rfl _ rfl HNB1.out Try.underlying48 rfl (wtE_info y)) ?_
            simp only [Act.put, List.setIfInBounds_toArray, List.set_cons_zero, List.set_cons_succ]
            iterate 3 still_step
            refine still_execg (by go_simp) (exec_load_cells 48 _ rfl _ _ rfl HCY.out Try.underlying48 rfl (wtE_info y)) ?_
            simp only [Act.put, List.setIfInBounds_toArray, List.set_cons_zero, List.set_cons_succ]
            iterate 37 still_step
            refine wpStill_nil ?_
            go_wp2_with fail
            refine ⟨⟨k + 1, by omega, by go_num, HU1⟩, by simp [intOf]; omega⟩
        · have hki : ¬ ((k : Int) < (nT : Int)) := by omega
          go_wp2_with fail
          go_ret
          exact ⟨rfl, HB2.out.trans (HU.out.mono HB2.out.size)⟩
end Go.Proofs.Ytkaalppmheikgaa

namespace Go.Proofs.Ytkaalppmheikgaa
open Go.RowKit

theorem zero_op (w : World) : ∃ z : ROp, (zeroValue 58).run Try.prog w = .ok (.agg (opE z)) w := ⟨⟨0, 0, 0, false, rqZ, zI⟩, by kernel_rfl⟩
theorem Books.start {c : Cf} : Books ⟨c, 0, 0, [], []⟩ [] := ⟨List.Perm.nil⟩
theorem Books.admit {R : RS} {left : List Id8} (h : Books R left) {now : Int} {x : Rq} (he : admE R now x = 0) : Books (admR R now x) left := by
  refine ⟨?_⟩
  unfold admR
  rw [if_pos he]
  show (left ++ x.id :: Keys R.T).Perm (R.S ++ [x.id])
  exact (List.perm_middle).trans ((List.Perm.cons _ h.perm).trans (List.perm_append_comm (l₁ := [x.id])))
theorem admR_no {R : RS} {now : Int} {x : Rq} (he : admE R now x ≠ 0) : admR R now x = R := by unfold admR; rw [if_neg he]
theorem takR_no {R : RS} {x : Id8} (h : takE R x ≠ 0) : takR R x = R := by
  unfold takE at h
  cases e : lkp x R.T with
  | none => unfold takR; rw [delM_none (lkp_none.1 e)]
  | some y => rw [e] at h; exact absurd rfl h
theorem Books.take {R : RS} {left : List Id8} (h : Books R left) (hi : RInv R) {x : Id8} (he : takE R x = 0) : Books (takR R x) (left ++ [x]) ∧ (wtOf R x).rq.id = x := by
  unfold takE at he
  cases e : lkp x R.T with
  | none => rw [e] at he; exact absurd he (by decide)
  | some y =>
    have hm := (lkp_mem hi.keys).1 e
    have hp := perm_delM hm hi.keys
    refine ⟨⟨?_⟩, ?_⟩
    · refine List.Perm.trans ?_ h.perm
      show ((left ++ [x]) ++ Keys (delM R.T x)).Perm (left ++ Keys R.T)
      rw [List.append_assoc]
      exact List.Perm.append_left _ (hp.map (fun q : Id8 × Wt => q.1)).symm
    · unfold wtOf; rw [e]; exact (hi.ids _ hm).1
theorem Books.expire {R R2 : RS} {left : List Id8} (h : Books R left) (_ : RInv R) {now : Int} {L : List Wt} (he : ExpR R now L R2) : Books R2 (left ++ L.map fun x => x.rq.id) := by
  rcases he with ⟨_, rfl, rfl⟩ | ⟨_, _, U, hU, rfl⟩
  · rw [List.map_nil, List.append_nil]; exact h
  · refine ⟨?_⟩
    show ((left ++ L.map fun x => x.rq.id) ++ Keys U).Perm R.S
    rw [List.append_assoc]
    refine List.Perm.trans (List.Perm.append_left _ ?_) h.perm
    have h1 := hU.perm.map (fun q : Id8 × Wt => q.1)
    rw [List.map_append, List.map_map] at h1
    exact h1
theorem ExpR.S {R R2 : RS} {now : Int} {L : List Wt} (he : ExpR R now L R2) : R2.S = R.S ∧ R2.cf = R.cf := by
  rcases he with ⟨_, _, rfl⟩ | ⟨_, _, U, _, rfl⟩ <;> exact ⟨rfl, rfl⟩
/-- While a script is played: the riders, who came, who left. -/
structure PlS (w0 w : World) (p : Nat) (R : RS) (left : List Id8) (vc vl : Value) : Prop where
  rd : Rd w0 w p R
  came : w.ownsRow w0.heap.size 31 8 vc R.S.length (fl idE R.S)
  gone : w.ownsRow w0.heap.size 31 8 vl left.length (fl idE left)
  c1 : ∀ k, vc.ownBlock = some k → ¬ Foot w p k
  c2 : ∀ k, vl.ownBlock = some k → ¬ Foot w p k
  ne : ∀ k, vc.ownBlock = some k → vl.ownBlock ≠ some k
  bk : Books R left
section
variable {w0 w w' : World} {p : Nat} {R R2 : RS} {left : List Id8} {vc vl : Value}
theorem PlS.kept (h : PlS w0 w p R left vc vl) (hb : Below w.heap.size w w') : PlS w0 w' p R left vc vl :=
  ⟨h.rd.kept hb, ownsRow_other h.came fun g hg => hb.block g (ownsRow_lt h.came hg), ownsRow_other h.gone fun g hg => hb.block g (ownsRow_lt h.gone hg), fun k hk hf => h.c1 k hk (h.rd.foot_kept hb hf), fun k hk hf => h.c2 k hk (h.rd.foot_kept hb hf), h.ne, h.bk⟩
theorem Foot.no {k : Nat} (ho : OnlyOwn w w' p) (h1 : ¬ Foot w p k) (h2 : k < w.heap.size) : ¬ Foot w' p k := by
  obtain ⟨S, q1, q2, q3⟩ := ho
  intro hf
  rcases q3 k hf with h | h
  · exact h1 h
  · omega
theorem ownsRow_op {base size n : Nat} {e : TypeId} {v : Value} {xs : List Value} (h : w.ownsRow base e size v n xs) (ho : OnlyOwn w w' p) (hn : ∀ k, v.ownBlock = some k → ¬ Foot w p k) : w'.ownsRow base e size v n xs := by
  obtain ⟨S, q1, q2, q3⟩ := ho
  exact ownsRow_other h fun g hg => q1.block g (ownsRow_lt h hg) fun hS => hn g hg (q2 g hS)
/-- Behind a call of the riders', the lists as they were. -/
structure PlM (w0 w : World) (p : Nat) (R2 : RS) (S left : List Id8) (vc vl : Value) : Prop where
  rd : Rd w0 w p R2
  came : w.ownsRow w0.heap.size 31 8 vc S.length (fl idE S)
  gone : w.ownsRow w0.heap.size 31 8 vl left.length (fl idE left)
  c1 : ∀ k, vc.ownBlock = some k → ¬ Foot w p k
  c2 : ∀ k, vl.ownBlock = some k → ¬ Foot w p k
  ne : ∀ k, vc.ownBlock = some k → vl.ownBlock ≠ some k
theorem PlS.op (h : PlS w0 w p R left vc vl) (hr : Rd w0 w' p R2) (ho : OnlyOwn w w' p) : PlM w0 w' p R2 R.S left vc vl :=
  ⟨hr, ownsRow_op h.came ho h.c1, ownsRow_op h.gone ho h.c2, fun k hk => Foot.no ho (h.c1 k hk) (ownsRow_lt h.came hk), fun k hk => Foot.no ho (h.c2 k hk) (ownsRow_lt h.gone hk), h.ne⟩
variable {S : List Id8}
theorem PlM.kept (h : PlM w0 w p R S left vc vl) (hb : Below w.heap.size w w') : PlM w0 w' p R S left vc vl :=
  ⟨h.rd.kept hb, ownsRow_other h.came fun g hg => hb.block g (ownsRow_lt h.came hg), ownsRow_other h.gone fun g hg => hb.block g (ownsRow_lt h.gone hg), fun k hk hf => h.c1 k hk (h.rd.foot_kept hb hf), fun k hk hf => h.c2 k hk (h.rd.foot_kept hb hf), h.ne⟩
theorem PlM.pls (h : PlM w0 w p R S left vc vl) (hS : S = R.S) (hb : Books R left) : PlS w0 w p R left vc vl := by subst hS; exact ⟨h.rd, h.came, h.gone, h.c1, h.c2, h.ne, hb⟩
theorem Rd.grown (h : Rd w0 w p R) {row : Option Nat} (hg : w.grownBy w' row) (hn : ∀ k, row = some k → ¬ Foot w p k ∧ w0.heap.size ≤ k) : Rd w0 w' p R ∧ ∀ k, Foot w' p k → Foot w p k := by
  obtain ⟨B, H, l, came, h1, h2, h3, h4⟩ := h
  have h5 : RdAt w' p B R H l came := h1.same fun k hk => hg.block k (h1.lt hk) fun e => (hn k e.symm).1 (h1.foot.2 hk)
  exact ⟨⟨B, H, l, came, h5, h2.grown hg h2.size (fun k e => (hn k e).2), h3, h4⟩, fun k hk => h1.foot.2 (h5.foot.1 hk)⟩
/-- One more that came. -/
theorem PlM.addC (h : PlM w0 w p R S left vc vl) {w5 w6 : World} {v' : Value} {x : Id8} (hb : Below w.heap.size w w5) (ho : w6.ownsRow w0.heap.size 31 8 v' (S.length + 1) (fl idE S ++ (idE x).toList)) (hg : w5.grownBy w6 vc.ownBlock)
    (hat : v'.ownBlock = vc.ownBlock ∨ v'.ownBlock = some w5.heap.size) : PlM w0 w6 p R (S ++ [x]) left v' vl := by
  have h5 := h.kept hb
  obtain ⟨r1, r2⟩ := h5.rd.grown hg (fun k e => ⟨h5.c1 k e, own_base' h5.came e⟩)
  refine ⟨r1, ?_, ownsRow_other h5.gone fun g hg2 => hg.block g (ownsRow_lt h5.gone hg2) fun e => h5.ne g e.symm hg2, fun k hk hf => ?_, fun k hk hf => h5.c2 k hk (r2 k hf), fun k hk hk2 => ?_⟩
  · rw [fl_append, fl_one, List.length_append]; exact ho
  · rcases hat with e | e
    · exact h5.c1 k (e ▸ hk) (r2 k hf)
    · have := h5.rd.foot_lt (r2 k hf)
      rw [e] at hk; injection hk with hk; omega
  · rcases hat with e | e
    · exact h5.ne k (e ▸ hk) hk2
    · have := ownsRow_lt h5.gone hk2
      rw [e] at hk; injection hk with hk; omega
/-- One more that left. -/
theorem PlM.addL (h : PlM w0 w p R S left vc vl) {w5 w6 : World} {v' : Value} {x : Id8} (hb : Below w.heap.size w w5) (ho : w6.ownsRow w0.heap.size 31 8 v' (left.length + 1) (fl idE left ++ (idE x).toList)) (hg : w5.grownBy w6 vl.ownBlock)
    (hat : v'.ownBlock = vl.ownBlock ∨ v'.ownBlock = some w5.heap.size) : PlM w0 w6 p R S (left ++ [x]) vc v' := by
  have h5 := h.kept hb
  obtain ⟨r1, r2⟩ := h5.rd.grown hg (fun k e => ⟨h5.c2 k e, own_base' h5.gone e⟩)
  refine ⟨r1, ownsRow_other h5.came fun g hg2 => hg.block g (ownsRow_lt h5.came hg2) fun e => h5.ne g hg2 e.symm, ?_, fun k hk hf => h5.c1 k hk (r2 k hf), fun k hk hf => ?_, fun k hk hk2 => ?_⟩
  · rw [fl_append, fl_one, List.length_append]; exact ho
  · rcases hat with e | e
    · exact h5.c2 k (e ▸ hk) (r2 k hf)
    · have := h5.rd.foot_lt (r2 k hf)
      rw [e] at hk; injection hk with hk; omega
  · rcases hat with e | e
    · exact h5.ne k hk (e ▸ hk2)
    · have := ownsRow_lt h5.came hk
      rw [e] at hk2; injection hk2 with hk2; omega
end
end Go.Proofs.Ytkaalppmheikgaa

namespace Go.Proofs.Ytkaalppmheikgaa
open Go.RowKit

theorem opE_now (x : ROp) (n : Int) : (opE x).setIfInBounds 2 (.int .i64 n) = opE { x with now := n } := by
  apply Array.toList_inj.1
  unfold opE
  simp
/-- A step as it lies in a box of its own. -/
structure OpBx (w : World) (k : Nat) (x : ROp) : Prop where
  blk : w.heap[k]? = some (.cells (opE x) 58 (0, 0))
theorem OpBx.kept {w w' : World} {k : Nat} {x : ROp} (h : OpBx w k x) (hb : Below w.heap.size w w') : OpBx w' k x := ⟨below_keep hb h.blk⟩
theorem OpBx.kind {w : World} {k : Nat} {x : ROp} (h : OpBx w k x) : w.cell? ⟨k, 1, none⟩ = some (.int .i64 x.kind) := by have := op_kind (box_cells h.blk); rwa [Nat.zero_add] at this
theorem OpBx.now {w : World} {k : Nat} {x : ROp} (h : OpBx w k x) : w.cell? ⟨k, 2, none⟩ = some (.int .i64 x.now) := by have := op_now (box_cells h.blk); rwa [Nat.zero_add] at this
theorem OpBx.later {w : World} {k : Nat} {x : ROp} (h : OpBx w k x) : w.cell? ⟨k, 3, none⟩ = some (.bool x.later) := by have := op_later (box_cells h.blk); rwa [Nat.zero_add] at this
theorem OpBx.rq {w : World} {k : Nat} {x : ROp} (h : OpBx w k x) : CellsAt w k 4 (rqE x.x) := by have := op_rq (box_cells h.blk); rwa [Nat.zero_add] at this
theorem OpBx.id {w : World} {k : Nat} {x : ROp} (h : OpBx w k x) : CellsAt w k 20 (bys x.id.1) := by have := op_id (box_cells h.blk); rwa [Nat.zero_add] at this
theorem OpBx.own {w w' : World} {p k : Nat} {x : ROp} (h : OpBx w k x) (ho : OnlyOwn w w' p) (hn : ¬ Foot w p k) : OpBx w' k x := by
  obtain ⟨S, q1, q2, q3⟩ := ho
  exact ⟨(q1.block k (heap_lt h.blk) fun hS => hn (q2 k hS)).trans h.blk⟩
theorem PlS.books {w0 w : World} {p : Nat} {R : RS} {left : List Id8} {AC AL : Option Addr} {nC nL cc cl : Nat} (h : PlS w0 w p R left (.slice AC nC cc) (.slice AL nL cl)) {c : Cf} (hc : R.cf = c) (hS : R.S.length ≤ 4398046511104) :
    Calls Try.prog 23 #[.pointer (some ⟨p, 0, none⟩), .agg (cfE c), .slice AC nC cc, .slice AL nL cl] w fun e w' => e = .returned (.bool true) ∧ PlS w0 w' p R left (.slice AC nC cc) (.slice AL nL cl) ∧ Below w.heap.size w w' := by
  obtain ⟨a1, c1, e1, r1⟩ := Row.rows idE_size rfl (Row.of_owns h.came)
  obtain ⟨a2, c2, e2, r2⟩ := Row.rows idE_size rfl (Row.of_owns h.gone)
  cases e1; cases e2; subst hc
  exact (books_any h.rd left h.bk hS _ _ _ _ r1 r2).mono fun e w' ⟨q1, q2⟩ => ⟨q1, h.kept q2, q2⟩
theorem idE_tableN : (Try.prog.info? 31).map (fun i => (i.zero, i.size, i.bytes)) = some (some (.agg (bys (zs 8))), 8, 8) := by kernel_rfl
theorem len_of {w : World} {base e n m : Nat} {v : Value} {l : List Id8} (h : w.ownsRow base e 8 v n (fl idE l)) (hv : v.sliceLen = m) : m = n := by
  obtain ⟨a, c, rfl⟩ := ownsRow_shape h
  exact hv.symm
set_option maxRecDepth 100000 in
theorem plays_no {c : Cf} (hc : cfOk c = false) (sv : Value) (w : World) : Calls Try.prog 8 #[.agg (cfE c), sv] w fun e w' => e = .returned (.tuple #[.pointer none, .bool true]) ∧ Below w.heap.size w w' := by
  have HB0 := hid ((Below.refl w.heap.size w).alloc (Nat.le_refl _) (.cells (cfE c) 23))
  have HCI := hid (cfE_info c)
  have HN := hid (new_no hc (w.alloc (.cells (cfE c) 23)))
  clear hc
  go_enter Try.func8, Try.ntmps8
  go_wp2_with (first | (refine wpList_load_w rfl 23 _ rfl _ rfl _ _ _ _ (heap_alloc_new _ _) Try.underlying23 rfl HCI.out ?_) | (go_at_call 17; (with_reducible refine HN.out.mono ?_); rintro r w2 ⟨rfl, hq⟩; have HB2 := hid (HB0.out.trans (hq.mono HB0.out.size)); clear hq))
  go_ret2
  exact ⟨rfl, HB2.out⟩
set_option maxRecDepth 100000 in
set_option maxHeartbeats 16000000 in
theorem plays_any {c : Cf} (hc : cfOk c = true) (S : List ROp) (A : Option Addr) (cap : Nat) (w : World) (hr : ScAt w A S) :
    Calls Try.prog 8 #[.agg (cfE c), .slice A S.length cap] w fun e w' => ∃ p R, e = .returned (.tuple #[.pointer (some ⟨p, 0, none⟩), .bool true]) ∧ Rd w w' p R ∧ R.cf = c ∧ R.S.length ≤ 1759218604442 := by
  have hB0 := (Below.refl w.heap.size w).alloc (Nat.le_refl _) (.cells (cfE c) 23)
  have HCI := hid (cfE_info c)
  have hmost := hr.most
  have HR := hid (hr.kept hB0)
  have HK0 := hid (heap_alloc_new w (.cells (cfE c) 23))
  have HN := hid (new_any hc (w.alloc (.cells (cfE c) 23)))
  have HB0 := hid hB0
  clear hr hc hB0
  obtain ⟨i0, hi, hz0, hz1, hz2⟩ := info_parts idE_tableN
  go_enter Try.func8, Try.ntmps8
  go_wp2_with (first | (refine wpList_load_w rfl 23 _ rfl _ rfl _ _ _ _ (heap_alloc_new _ _) Try.underlying23 rfl HCI.out ?_) | (go_at_call 17; (with_reducible refine HN.out.mono ?_); rintro r w2 ⟨p, rfl, hq⟩; have HS := hid hq; clear hq))
  generalize w.alloc (.cells (cfE c) 23) = w0 at *
  have HS0 : Hid (PlS w0 w2 p ⟨c, 0, 0, [], []⟩ [] (.slice none 0 0) (.slice none 0 0)) := hid ⟨HS.out, World.ownsRow_nil _ _ _ _, World.ownsRow_nil _ _ _ _, fun k hk => (by cases hk), fun k hk => (by cases hk), fun k hk => (by cases hk), Books.start⟩
  clear HS HN
  go_loopw [8, 9, 10] (fun vc vl i wr => ∃ (k : Nat) (R : RS) (left : List Id8), k ≤ S.length ∧ i = .int .i64 k ∧ R.S.length ≤ k ∧ Hid (R.cf = c) ∧ Hid (PlS w0 wr p R left vc vl)) (fun _ _ i _ => S.length - (intOf i).toNat)
  case atStart => exact ⟨0, _, _, by omega, rfl, by simp, hid rfl, HS0⟩
  case round =>
    clear HS0
    obtain ⟨k, R, left, hk, rfl, hSk, HCF, HP⟩ := hrel
    by_cases hlt : k < S.length
    · have hki : (k : Int) < (S.length : Int) := by omega
      obtain ⟨x, hx⟩ : ∃ x, S[k]? = some x := ⟨S[k], by simp [hlt]⟩
      have hxm := List.mem_of_getElem? hx
      have HSC := hid (HR.out.kept HP.out.rd.below)
      obtain ⟨gg, o, rfl, hgg, hcc⟩ := HSC.out.rows.get hx
      rw [show o + 28 * k = o + k * 28 by omega] at hcc
      have HC := hid hcc
      obtain ⟨n1, n2, n3, n4, n5, n6⟩ := HSC.out.nums x hxm
      have N1 := hid n1
      have N2 := hid n2
      obtain ⟨z, hz⟩ := zero_op wr
      have HXI := hid (opE_info x)
      have HSX : Hid ((opE x).size = 28) := hid (opE_size x)
      have HSZ2 : Hid ((opE z).size = 28) := hid (opE_size z)
      obtain ⟨va, vcc, rfl⟩ := ownsRow_shape HP.out.came
      obtain ⟨la, lcc, rfl⟩ := ownsRow_shape HP.out.gone
      have hclk := HP.out.rd.inv.clock
      have hbl := HP.out.bk.len
      clear hx hxm hgg hcc n1 n2 n3 n4 n5 n6
      go_wp2_with (first | (refine wpList_load_cells rfl 58 _ rfl _ _ rfl _ _ HC.out Try.underlying58 rfl HXI.out ?_) | (refine wpList_store_row rfl 58 _ _ rfl _ rfl _ rfl _ _ (heap_alloc_new _ _) (by rw [HSX.out, HSZ2.out]) (opE_ones x) HXI.out _ (setRow_alloc _ _ _ _) ?_; refine Hid.out ?_))
      refine hid ?_
      obtain ⟨wz, hwz⟩ : ∃ wz, wz = wr.alloc (.cells (opE x) 58) := ⟨_, rfl⟩
      have hbz := (Below.refl wr.heap.size wr).alloc (Nat.le_refl _) (.cells (opE x) 58)
      have hbx : OpBx (wr.alloc (.cells (opE x) 58)) wr.heap.size x := ⟨heap_alloc_new _ _⟩
      rw [← hwz] at hbz hbx ⊢
      have HPy := hid (HP.out.kept hbz)
      have HBY := hid hbx
      have HNY : Hid (¬ Foot wz p wr.heap.size) := hid (fun hf => by have := HP.out.rd.foot_lt (HP.out.rd.foot_kept hbz hf); omega)
      have HKB : Hid (w0.heap.size ≤ wr.heap.size ∧ (∀ j, (Value.slice va R.S.length vcc).ownBlock = some j → j < wr.heap.size) ∧ ∀ j, (Value.slice la left.length lcc).ownBlock = some j → j < wr.heap.size) := hid ⟨HP.out.rd.below.size, fun j q => ownsRow_lt HP.out.came q, fun j q => ownsRow_lt HP.out.gone q⟩
      clear hbz hwz hbx HP HC HSC hz
      generalize wr.heap.size = kb at *
      have KS := hid (rd_state HPy.out.rd (by omega))
      rcases Bool.eq_false_or_eq_true x.later with hl | hl
      · have hw := IntWalk.i64_in (R.now + x.now % 64) (by omega)
        have KR0 := hid (fun w => round_any x.now 64 N2.out (by omega) w)
        go_wp2_with (first | (go_at_call 12; (with_reducible refine KS.out.mono ?_); rintro e w3 ⟨Ak, kk, rfl, _, _, hb3⟩; have HP3 := hid (HPy.out.kept hb3); have HB3 := hid (HBY.out.kept hb3); have HN3 : Hid (¬ Foot w3 p kb) := hid (fun q => HNY.out (HPy.out.rd.foot_kept hb3 q)); have hcl3 := HB3.out.later; rw [hl] at hcl3; have hck3 := HB3.out.kind; have hcn3 := HB3.out.now; have hfn3 : w3.frozen? ⟨kb, 2, none⟩ = false := free_row HB3.out.blk 2; clear hb3) | (go_at_call 10; (with_reducible refine (KR0.out _).mono ?_); rintro e wq ⟨rfl, hwq⟩; rw [hwq]; clear hwq; have hckS : (w3.setCell ⟨kb, 2, none⟩ (.int .i64 (R.now + x.now % 64))).cell? ⟨kb, 1, none⟩ = some (.int .i64 x.kind) := by (rw [cell_of_row _ _ _ _ _ _ (by rw [row_setCell HB3.out.blk, opE_now])]; exact (opE_get { x with now := R.now + x.now % 64 }).1)) | (go_at_call 10; refine Hid.out ?_))
        obtain ⟨W, hW⟩ : ∃ W, W = w3.setCell ⟨kb, 2, none⟩ (.int .i64 (R.now + x.now % 64)) := ⟨_, rfl⟩
        obtain ⟨y, hy⟩ : ∃ y, y = ({ x with now := R.now + x.now % 64 } : ROp) := ⟨_, rfl⟩
        have hgrow : w3.grownBy W (some kb) := by rw [hW]; exact ⟨rfl, rfl, rfl, by rw [setCell_size]; exact Nat.le_refl _, fun j _ hj => heap_setCell_ne (fun e => hj (by rw [e]))⟩
        have HBX := hid (show OpBx W kb y by rw [hW, hy]; exact ⟨by rw [row_setCell HB3.out.blk, opE_now]⟩)
        obtain ⟨r1, r2⟩ := HP3.out.rd.grown hgrow (fun j e => by cases e; exact ⟨HN3.out, HKB.out.1⟩)
        have HPz := hid (show PlS w0 W p R left (.slice va R.S.length vcc) (.slice la left.length lcc) from ⟨r1, ownsRow_other HP3.out.came fun g hg => hgrow.block g (ownsRow_lt HP3.out.came hg) (fun e => by cases e; have := HKB.out.2.1 _ hg; omega), ownsRow_other HP3.out.gone fun g hg => hgrow.block g (ownsRow_lt HP3.out.gone hg) (fun e => by cases e; have := HKB.out.2.2 _ hg; omega), fun j q1 q2 => HP3.out.c1 j q1 (r2 j q2), fun j q1 q2 => HP3.out.c2 j q1 (r2 j q2), HP3.out.ne, HP3.out.bk⟩)
        have HNK : Hid (¬ Foot W p kb) := hid (fun q => HN3.out (r2 _ q))
        have HYK : Hid (I64 y.kind) := hid (by rw [hy]; exact N1.out)
        have hyk : x.kind = y.kind := by rw [hy]
        rw [← hW, hyk]
        clear hW hy hgrow r1 r2 HP3 HB3 HN3 hcl3 hck3 hcn3 hfn3 hckS hyk HPy HBY HNY KS KR0 hw
        have hck := HBX.out.kind
        have hcn := HBX.out.now
        have KR := hid (fun w => round_any y.kind 5 HYK.out (by omega) w)
        have hq5 : y.kind % 5 = 0 ∨ y.kind % 5 = 1 ∨ y.kind % 5 = 2 ∨ y.kind % 5 = 3 ∨ y.kind % 5 = 4 := by omega
        obtain ⟨q, hq⟩ : ∃ q, q = y.kind % 5 := ⟨_, rfl⟩
        rw [← hq] at KR hq5
        clear hq
        refine hid ?_
        rcases hq5 with rfl | rfl | rfl | rfl | rfl
        · (with_reducible refine (KR.out _).mono ?_)
          rintro e wq ⟨rfl, hwq⟩
          rw [hwq]
          clear hwq
          have KA := hid (rd_admit HPz.out.rd y.now y.x (by omega))
          have HCR := hid HBX.out.rq
          by_cases he : admE R y.now y.x = 0
          · have HE := hid he
            rw [he] at KA
            have HR2 : Hid (admR R y.now y.x = ⟨R.cf, y.now, R.next + 1, R.S ++ [y.x.id], (y.x.id, ⟨y.x, y.now, R.next⟩) :: R.T⟩) := hid (by unfold admR; rw [if_pos he])
            clear he
            go_wp2_with (first | (refine wpList_load_cells rfl 37 _ rfl _ _ rfl _ _ (HCR.out) Try.underlying37 rfl (rqE_info y.x) ?_) | (go_at_call 14; (with_reducible refine KA.out.mono ?_); rintro e w4 ⟨rfl, h1, h2⟩; have HM4 := hid (HPz.out.op h1 h2); have HCX := hid (rq_id (HBX.out.own h2 HNK.out).rq); clear h1 h2; refine Hid.out ?_))
            refine hid ?_
            have hw04 := HM4.out.rd.below.size
            have HROW := hid (show w4.ownsRow w0.heap.size 31 8 (.slice va R.S.length vcc) R.S.length (fl idE R.S) from HM4.out.came)
            go_wp2_with (first | (refine wpList_load_cells rfl 31 _ rfl _ _ rfl _ _ (HCX.out) Try.underlying31 rfl (idV_info y.x.id) ?_) | (refine wpList_build1 rfl 40 31 _ rfl (bys y.x.id.1) rfl i0 _ Try.underlying40 hi hz0 (by rw [hz1, bys_size, y.x.id.2.1]) (by rw [bys_size, y.x.id.2.1]; decide) (by rw [bys_size, y.x.id.2.1]; decide) ?_) | (at_builtin; refine wpList_append_own_at _ rfl _ _ 40 rfl w0.heap.size 31 i0 _ 8 8 Try.underlying40 hi hz0 hz1 hz2 rfl (by decide) _ _ _ rfl (HROW.out.alloc _) ⟨_, 0, none⟩ 1 1 (bys y.x.id.1).toList rfl (by rw [Array.length_toList, bys_size, y.x.id.2.1]) (cells_at (heap_alloc_new _ _)) (bys_one y.x.id.1) (by unfold maxLen; omega) (by omega) (by simp; omega) ?_))
            intro v6 w6 ho6 hg6 hnil6 hat6
            have hm6 := HM4.out.addC (x := y.x.id) ((Below.refl _ _).alloc (Nat.le_refl _) _) ho6 hg6 (by rw [alloc_size]; exact hat6)
            have HP6 := hid (hm6.pls (by rw [HR2.out]) (HPz.out.bk.admit HE.out))
            have HCF6 : Hid ((admR R y.now y.x).cf = c) := hid (by rw [HR2.out]; exact HCF.out)
            have hs6 : (admR R y.now y.x).S.length = R.S.length + 1 := by rw [HR2.out]; simp
            obtain ⟨va6, vc6, rfl⟩ := ownsRow_shape ho6
            clear ho6 hg6 hnil6 hat6 hm6
            have HKC := hid (below_keep HP6.out.rd.below HK0.out)
            have HBK := hid (HP6.out.books HCF6.out (by first | omega | (simp; omega)))
            go_wp2_with (first | (refine wpList_load_w rfl 23 _ rfl _ rfl _ _ _ _ HKC.out Try.underlying23 rfl HCI.out ?_) | (go_at_call 23; (with_reducible refine HBK.out.mono ?_); rintro e w9 ⟨rfl, h9, _⟩; have HP9 := hid h9; clear h9))
            refine ⟨⟨k + 1, _, _, by omega, by go_num, by first | omega | (simp; omega), HCF6, HP9⟩, by simp [intOf]; omega⟩
          · have HR2 : Hid (admR R y.now y.x = R) := hid (admR_no he)
            have hc1 : (admE R y.now y.x == 0) = false := by simpa using he
            obtain ⟨ce, hce⟩ : ∃ ce, ce = admE R y.now y.x := ⟨_, rfl⟩
            rw [← hce] at KA hc1
            rw [HR2.out] at KA
            have hc2 : ¬ ce = 0 := by rw [hce]; exact he
            clear he hce
            go_wp2_with (first | (refine wpList_load_cells rfl 37 _ rfl _ _ rfl _ _ (HCR.out) Try.underlying37 rfl (rqE_info y.x) ?_) | (go_at_call 14; (with_reducible refine KA.out.mono ?_); rintro e w4 ⟨rfl, h1, h2⟩; have HP4 := hid ((HPz.out.op h1 h2).pls rfl HPz.out.bk); clear h1 h2; have HKC := hid (below_keep HP4.out.rd.below HK0.out); have HBK := hid (HP4.out.books HCF.out (by omega))) | (refine wpList_load_w rfl 23 _ rfl _ rfl _ _ _ _ HKC.out Try.underlying23 rfl HCI.out ?_) | (go_at_call 23; (with_reducible refine HBK.out.mono ?_); rintro e w9 ⟨rfl, h9, _⟩; have HP9 := hid h9; clear h9))
            refine ⟨⟨k + 1, R, left, by omega, by go_num, by omega, HCF, HP9⟩, by simp [intOf]; omega⟩
        · (with_reducible refine (KR.out _).mono ?_)
          rintro e wq ⟨rfl, hwq⟩
          rw [hwq]
          clear hwq
          have KC := hid (rd_cancel HPz.out.rd y.id)
          have HCD := hid HBX.out.id
          by_cases he : takE R y.id = 0
          · have HBT := hid (HPz.out.bk.take HPz.out.rd.inv he)
            rw [he] at KC
            clear he
            go_wp2_with (first | (refine wpList_load_cells rfl 31 _ rfl _ _ rfl _ _ (HCD.out) Try.underlying31 rfl (idV_info y.id) ?_) | (go_at_call 20; (with_reducible refine KC.out.mono ?_); rintro e w4 ⟨rfl, h1, h2⟩; have HM4 := hid (HPz.out.op h1 h2); have HCX := hid (HBX.out.own h2 HNK.out).id; clear h1 h2; refine Hid.out ?_))
            refine hid ?_
            have hw04 := HM4.out.rd.below.size
            have HROW := hid (show w4.ownsRow w0.heap.size 31 8 (.slice la left.length lcc) left.length (fl idE left) from HM4.out.gone)
            go_wp2_with (first | (refine wpList_load_cells rfl 31 _ rfl _ _ rfl _ _ (HCX.out) Try.underlying31 rfl (idV_info y.id) ?_) | (refine wpList_build1 rfl 40 31 _ rfl (bys y.id.1) rfl i0 _ Try.underlying40 hi hz0 (by rw [hz1, bys_size, y.id.2.1]) (by rw [bys_size, y.id.2.1]; decide) (by rw [bys_size, y.id.2.1]; decide) ?_) | (at_builtin; refine wpList_append_own_at _ rfl _ _ 40 rfl w0.heap.size 31 i0 _ 8 8 Try.underlying40 hi hz0 hz1 hz2 rfl (by decide) _ _ _ rfl (HROW.out.alloc _) ⟨_, 0, none⟩ 1 1 (bys y.id.1).toList rfl (by rw [Array.length_toList, bys_size, y.id.2.1]) (cells_at (heap_alloc_new _ _)) (bys_one y.id.1) (by unfold maxLen; omega) (by omega) (by simp; omega) ?_))
            intro v6 w6 ho6 hg6 hnil6 hat6
            have hm6 := HM4.out.addL (x := y.id) ((Below.refl _ _).alloc (Nat.le_refl _) _) ho6 hg6 (by rw [alloc_size]; exact hat6)
            have HP6 := hid (hm6.pls rfl HBT.out.1)
            have HCF6 : Hid ((takR R y.id).cf = c) := hid HCF.out
            have hs6 : (takR R y.id).S.length = R.S.length := rfl
            obtain ⟨va6, vc6, rfl⟩ := ownsRow_shape ho6
            clear ho6 hg6 hnil6 hat6 hm6
            have HKC := hid (below_keep HP6.out.rd.below HK0.out)
            have HBK := hid (HP6.out.books HCF6.out (by first | omega | (simp; omega)))
            go_wp2_with (first | (refine wpList_load_w rfl 23 _ rfl _ rfl _ _ _ _ HKC.out Try.underlying23 rfl HCI.out ?_) | (go_at_call 23; (with_reducible refine HBK.out.mono ?_); rintro e w9 ⟨rfl, h9, _⟩; have HP9 := hid h9; clear h9))
            refine ⟨⟨k + 1, _, _, by omega, by go_num, by first | omega | (simp; omega), HCF6, HP9⟩, by simp [intOf]; omega⟩
          · have HR2 : Hid (takR R y.id = R) := hid (takR_no he)
            have hc1 : (takE R y.id == 0) = false := by simpa using he
            obtain ⟨ce, hce⟩ : ∃ ce, ce = takE R y.id := ⟨_, rfl⟩
            rw [← hce] at KC hc1
            rw [HR2.out] at KC
            have hc2 : ¬ ce = 0 := by rw [hce]; exact he
            clear he hce
            go_wp2_with (first | (refine wpList_load_cells rfl 31 _ rfl _ _ rfl _ _ (HCD.out) Try.underlying31 rfl (idV_info y.id) ?_) | (go_at_call 20; (with_reducible refine KC.out.mono ?_); rintro e w4 ⟨rfl, h1, h2⟩; have HP4 := hid ((HPz.out.op h1 h2).pls rfl HPz.out.bk); clear h1 h2; have HKC := hid (below_keep HP4.out.rd.below HK0.out); have HBK := hid (HP4.out.books HCF.out (by omega))) | (refine wpList_load_w rfl 23 _ rfl _ rfl _ _ _ _ HKC.out Try.underlying23 rfl HCI.out ?_) | (go_at_call 23; (with_reducible refine HBK.out.mono ?_); rintro e w9 ⟨rfl, h9, _⟩; have HP9 := hid h9; clear h9))
            refine ⟨⟨k + 1, R, left, by omega, by go_num, by omega, HCF, HP9⟩, by simp [intOf]; omega⟩
        · (with_reducible refine (KR.out _).mono ?_)
          rintro e wq ⟨rfl, hwq⟩
          rw [hwq]
          clear hwq
          have KE := hid (rd_expire HPz.out.rd y.now)
          go_wp2_with (first | (go_at_call 16; (with_reducible refine KE.out.mono ?_); rintro e w4 ⟨AE, cE, L, R2, rfl, hr4, hn4, he4, h1, h2, hA4⟩; have HM4 := hid (HPz.out.op h1 h2); have HR4 := hid hr4; have HN4 := hid hn4; have HE4 := hid he4; have hszz := HPz.out.gone; have HBE := hid (HPz.out.bk.expire HPz.out.rd.inv he4); clear h1 h2 hr4 hn4 he4 hA4; refine Hid.out ?_))
          refine hid ?_
          have HLEN : Hid (left.length + L.length ≤ R.S.length) := hid (by have h1 := HBE.out.len; rw [HE4.out.S.1, List.length_append, List.length_map] at h1; omega)
          have HV0 : Hid (∀ g o, AE = some ⟨g, o, none⟩ → (Value.slice la left.length lcc).ownBlock ≠ some g) := hid (fun g o e q => by have := HN4.out g o e; have := ownsRow_lt hszz q; omega)
          clear hszz
          go_wp2_with fail
          go_loopw [9, 16] (fun vl j wq => ∃ m : Nat, m ≤ L.length ∧ j = .int .i64 m ∧ Hid (PlM w0 wq p R2 R.S (left ++ (L.take m).map fun x => x.rq.id) (.slice va R.S.length vcc) vl) ∧ Hid (RowsAt 18 wtE wq AE L) ∧ Hid (∀ g o, AE = some ⟨g, o, none⟩ → vl.ownBlock ≠ some g)) (fun _ j _ => L.length - (intOf j).toNat)
          case atStart => exact ⟨0, by omega, rfl, hid (by simpa using HM4.out), HR4, HV0⟩
          case round =>
            clear HM4 HR4 HV0
            obtain ⟨m, hm, rfl, HM, HRL, HV⟩ := hrel
            by_cases hml : m < L.length
            · have hmi : (m : Int) < (L.length : Int) := by omega
              obtain ⟨z, hz⟩ : ∃ z, L[m]? = some z := ⟨L[m], by simp [hml]⟩
              obtain ⟨g, o, rfl, hg0, hcz⟩ := HRL.out.get hz
              have HCX := hid (rq_id (wt_rq hcz))
              rw [show o + 18 * m = o + m * 18 by omega] at HCX
              have HTK : Hid ((left ++ (L.take (m + 1)).map fun x => x.rq.id) = (left ++ (L.take m).map fun x => x.rq.id) ++ [z.rq.id]) := hid (by obtain ⟨h1, h2⟩ := List.getElem?_eq_some_iff.1 hz; rw [List.take_succ_eq_append_getElem h1, List.map_append, h2, List.append_assoc]; rfl)
              have hlm : (left ++ (L.take m).map fun x => x.rq.id).length = left.length + m := by simp; omega
              have hll := HLEN.out
              have hw04 := HM.out.rd.below.size
              have HG0 := hid hg0
              obtain ⟨la2, lc2, hvl⟩ := ownsRow_shape HM.out.gone
              rw [hlm] at hvl
              subst hvl
              generalize (left ++ (L.take m).map fun x => x.rq.id) = lefm at *
              have HROW := hid (show wr.ownsRow w0.heap.size 31 8 (.slice la2 (left.length + m) lc2) (left.length + m) (fl idE lefm) by have hgn := HM.out.gone; rw [hlm] at hgn; exact hgn)
              clear hz hcz hg0
              go_wp2_with (first | (refine wpList_load_cells rfl 31 _ rfl _ _ rfl _ _ (HCX.out) Try.underlying31 rfl (idV_info z.rq.id) ?_) | (refine wpList_build1 rfl 40 31 _ rfl (bys z.rq.id.1) rfl i0 _ Try.underlying40 hi hz0 (by rw [hz1, bys_size, z.rq.id.2.1]) (by rw [bys_size, z.rq.id.2.1]; decide) (by rw [bys_size, z.rq.id.2.1]; decide) ?_) | (at_builtin; refine wpList_append_own_at _ rfl _ _ 40 rfl w0.heap.size 31 i0 _ 8 8 Try.underlying40 hi hz0 hz1 hz2 rfl (by decide) _ _ _ rfl (HROW.out.alloc _) ⟨_, 0, none⟩ 1 1 (bys z.rq.id.1).toList rfl (by rw [Array.length_toList, bys_size, z.rq.id.2.1]) (cells_at (heap_alloc_new _ _)) (bys_one z.rq.id.1) (by unfold maxLen; omega) (by omega) (by simp; omega) ?_))
              intro v6 w6 ho6 hg6 hnil6 hat6
              rw [← hlm] at ho6
              have hm6 := HM.out.addL (x := z.rq.id) ((Below.refl _ _).alloc (Nat.le_refl _) _) ho6 hg6 (by rw [alloc_size]; exact hat6)
              have hr6 : RowsAt 18 wtE w6 (some ⟨g, o, none⟩) L := (HRL.out.kept ((Below.refl _ _).alloc (Nat.le_refl _) _)).kp ((Kp.refl (fun q => (Value.slice la2 (left.length + m) lc2).ownBlock = some q) _).grown hg6 (fun q e => .inl e)) (fun g' o' e q => HV.out g' o' e q)
              have hv6 : ∀ g' o', some (⟨g, o, none⟩ : Addr) = some ⟨g', o', none⟩ → v6.ownBlock ≠ some g' := fun g' o' e q => by
                cases e
                rcases hat6 with r | r
                · exact HV.out g o rfl (by rw [← r]; exact q)
                · rw [r] at q; injection q with q; have := HG0.out; omega
              go_wp2
              refine ⟨⟨m + 1, by omega, by go_num, hid (by rw [HTK.out]; exact hm6), hid hr6, hid hv6⟩, by simp [intOf]; omega⟩
            · have hmi : ¬ ((m : Int) < (L.length : Int)) := by omega
              have hmm : L.take m = L := List.take_of_length_le (by omega)
              rw [hmm] at HM
              obtain ⟨la6, lc6, hv6⟩ := ownsRow_shape HM.out.gone
              rw [List.length_append, List.length_map] at hv6
              subst hv6
              have HP6 := hid (HM.out.pls HE4.out.S.1.symm HBE.out)
              have HCF6 : Hid (R2.cf = c) := hid (by rw [HE4.out.S.2]; exact HCF.out)
              have hs6 : R2.S.length = R.S.length := by rw [HE4.out.S.1]
              clear HM
              have HKC := hid (below_keep HP6.out.rd.below HK0.out)
              have HBK := hid (HP6.out.books HCF6.out (by first | omega | (simp; omega)))
              go_wp2_with (first | (refine wpList_load_w rfl 23 _ rfl _ rfl _ _ _ _ HKC.out Try.underlying23 rfl HCI.out ?_) | (go_at_call 23; (with_reducible refine HBK.out.mono ?_); rintro e w9 ⟨rfl, h9, _⟩; have HP9 := hid h9; clear h9))
              refine ⟨⟨k + 1, _, _, by omega, by go_num, by first | omega | (simp; omega), HCF6, HP9⟩, by simp [intOf]; omega⟩
        · (with_reducible refine (KR.out _).mono ?_)
          rintro e wq ⟨rfl, hwq⟩
          rw [hwq]
          clear hwq
          have KT := hid (rd_take HPz.out.rd y.id)
          have HCD := hid HBX.out.id
          have HWI := hid (wtE_info (wtOf R y.id))
          have HWS : Hid ((wtE (wtOf R y.id)).size = 18) := hid (wtE_size _)
          by_cases he : takE R y.id = 0
          ·
            have HBT := hid (HPz.out.bk.take HPz.out.rd.inv he)
            rw [he] at KT
            clear he
            go_wp2_with (first | (refine wpList_load_cells rfl 31 _ rfl _ _ rfl _ _ (HCD.out) Try.underlying31 rfl (idV_info y.id) ?_) | (go_at_call 21; (with_reducible refine KT.out.mono ?_); rintro e w4 ⟨rfl, h1, h2⟩; have HM4 := hid (HPz.out.op h1 h2); clear h1 h2) | (refine wpList_store_row rfl 48 _ _ rfl _ rfl _ rfl _ _ (heap_alloc_new _ _) (by rw [HWS.out]; rfl) (wtE_ones _) HWI.out _ (setRow_alloc _ _ _ _) ?_; refine Hid.out ?_))
            refine hid ?_
            have HCX : Hid (CellsAt (w4.alloc (.cells (wtE (wtOf R y.id)) 48)) w4.heap.size 0 (bys y.id.1)) := hid (by have h5 := rq_id (wt_rq (box_cells (heap_alloc_new w4 (.cells (wtE (wtOf R y.id)) 48)))); rw [HBT.out.2] at h5; exact h5)
            have HM5 := hid (HM4.out.kept ((Below.refl _ _).alloc (Nat.le_refl _) (.cells (wtE (wtOf R y.id)) 48)))
            obtain ⟨w5, hw5⟩ : ∃ w5, w5 = w4.alloc (.cells (wtE (wtOf R y.id)) 48) := ⟨_, rfl⟩
            rw [← hw5] at HCX HM5 ⊢
            generalize w4.heap.size = kb2 at *
            clear hw5 HM4
            have hw04 := HM5.out.rd.below.size
            have HROW := hid (show w5.ownsRow w0.heap.size 31 8 (.slice la left.length lcc) left.length (fl idE left) from HM5.out.gone)
            go_wp2_with (first | (refine wpList_load_cells rfl 31 _ rfl _ _ rfl _ _ (HCX.out) Try.underlying31 rfl (idV_info y.id) ?_) | (refine wpList_build1 rfl 40 31 _ rfl (bys y.id.1) rfl i0 _ Try.underlying40 hi hz0 (by rw [hz1, bys_size, y.id.2.1]) (by rw [bys_size, y.id.2.1]; decide) (by rw [bys_size, y.id.2.1]; decide) ?_) | (at_builtin; refine wpList_append_own_at _ rfl _ _ 40 rfl w0.heap.size 31 i0 _ 8 8 Try.underlying40 hi hz0 hz1 hz2 rfl (by decide) _ _ _ rfl (HROW.out.alloc _) ⟨_, 0, none⟩ 1 1 (bys y.id.1).toList rfl (by rw [Array.length_toList, bys_size, y.id.2.1]) (cells_at (heap_alloc_new _ _)) (bys_one y.id.1) (by unfold maxLen; omega) (by omega) (by simp; omega) ?_))
            intro v6 w6 ho6 hg6 hnil6 hat6
            have hm6 := HM5.out.addL (x := y.id) ((Below.refl _ _).alloc (Nat.le_refl _) _) ho6 hg6 (by rw [alloc_size]; exact hat6)
            have HP6 := hid (hm6.pls rfl HBT.out.1)
            have HCF6 : Hid ((takR R y.id).cf = c) := hid HCF.out
            have hs6 : (takR R y.id).S.length = R.S.length := rfl
            obtain ⟨va6, vc6, rfl⟩ := ownsRow_shape ho6
            clear ho6 hg6 hnil6 hat6 hm6
            have HKC := hid (below_keep HP6.out.rd.below HK0.out)
            have HBK := hid (HP6.out.books HCF6.out (by first | omega | (simp; omega)))
            go_wp2_with (first | (refine wpList_load_w rfl 23 _ rfl _ rfl _ _ _ _ HKC.out Try.underlying23 rfl HCI.out ?_) | (go_at_call 23; (with_reducible refine HBK.out.mono ?_); rintro e w9 ⟨rfl, h9, _⟩; have HP9 := hid h9; clear h9))
            refine ⟨⟨k + 1, _, _, by omega, by go_num, by first | omega | (simp; omega), HCF6, HP9⟩, by simp [intOf]; omega⟩
          ·
            have HR2 : Hid (takR R y.id = R) := hid (takR_no he)
            have hc1 : (takE R y.id == 0) = false := by simpa using he
            obtain ⟨ce, hce⟩ : ∃ ce, ce = takE R y.id := ⟨_, rfl⟩
            rw [← hce] at KT hc1
            rw [HR2.out] at KT
            have hc2 : ¬ ce = 0 := by rw [hce]; exact he
            clear he hce
            go_wp2_with (first | (refine wpList_load_cells rfl 31 _ rfl _ _ rfl _ _ (HCD.out) Try.underlying31 rfl (idV_info y.id) ?_) | (go_at_call 21; (with_reducible refine KT.out.mono ?_); rintro e w4 ⟨rfl, h1, h2⟩; have HP3 := hid ((HPz.out.op h1 h2).pls rfl HPz.out.bk); clear h1 h2) | (refine wpList_store_row rfl 48 _ _ rfl _ rfl _ rfl _ _ (heap_alloc_new _ _) (by rw [HWS.out]; rfl) (wtE_ones _) HWI.out _ (setRow_alloc _ _ _ _) ?_; have HP4 := hid (HP3.out.kept ((Below.refl _ _).alloc (Nat.le_refl _) (.cells (wtE (wtOf R y.id)) 48))); have HKC := hid (below_keep HP4.out.rd.below HK0.out); have HBK := hid (HP4.out.books HCF.out (by omega))) | (refine wpList_load_w rfl 23 _ rfl _ rfl _ _ _ _ HKC.out Try.underlying23 rfl HCI.out ?_) | (go_at_call 23; (with_reducible refine HBK.out.mono ?_); rintro e w9 ⟨rfl, h9, _⟩; have HP9 := hid h9; clear h9))
            refine ⟨⟨k + 1, R, left, by omega, by go_num, by omega, HCF, HP9⟩, by simp [intOf]; omega⟩
        · (with_reducible refine (KR.out _).mono ?_)
          rintro e wq ⟨rfl, hwq⟩
          rw [hwq]
          clear hwq
          have HKC := hid (below_keep HPz.out.rd.below HK0.out)
          have HBK := hid (HPz.out.books HCF.out (by omega))
          go_wp2_with (first | (refine wpList_load_w rfl 23 _ rfl _ rfl _ _ _ _ HKC.out Try.underlying23 rfl HCI.out ?_) | (go_at_call 23; (with_reducible refine HBK.out.mono ?_); rintro e w9 ⟨rfl, h9, _⟩; have HP9 := hid h9; clear h9))
          refine ⟨⟨k + 1, R, left, by omega, by go_num, by omega, HCF, HP9⟩, by simp [intOf]; omega⟩
      · go_wp2_with (first | (go_at_call 12; (with_reducible refine KS.out.mono ?_); rintro e w3 ⟨Ak, kk, rfl, _, _, hb3⟩; have HP3 := hid (HPy.out.kept hb3); have HB3 := hid (HBY.out.kept hb3); have HN3 : Hid (¬ Foot w3 p kb) := hid (fun q => HNY.out (HPy.out.rd.foot_kept hb3 q)); have hcl3 := HB3.out.later; rw [hl] at hcl3; have hck3 := HB3.out.kind; have hcn3 := HB3.out.now; have hfn3 : w3.frozen? ⟨kb, 2, none⟩ = false := free_row HB3.out.blk 2; clear hb3) | (go_at_call 10; refine Hid.out ?_))
        have HPz := HP3
        have HBX := HB3
        have HNK := HN3
        have HYK := N1
        generalize hyx : x = y at *
        generalize hWw : w3 = W at *
        clear hcl3 hck3 hcn3 hfn3 HPy HBY HNY KS HP3 HB3 HN3
        have hck := HBX.out.kind
        have hcn := HBX.out.now
        have KR := hid (fun w => round_any y.kind 5 HYK.out (by omega) w)
        have hq5 : y.kind % 5 = 0 ∨ y.kind % 5 = 1 ∨ y.kind % 5 = 2 ∨ y.kind % 5 = 3 ∨ y.kind % 5 = 4 := by omega
        obtain ⟨q, hq⟩ : ∃ q, q = y.kind % 5 := ⟨_, rfl⟩
        rw [← hq] at KR hq5
        clear hq
        refine hid ?_
        rcases hq5 with rfl | rfl | rfl | rfl | rfl
        · (with_reducible refine (KR.out _).mono ?_)
          rintro e wq ⟨rfl, hwq⟩
          rw [hwq]
          clear hwq
          have KA := hid (rd_admit HPz.out.rd y.now y.x (by omega))
          have HCR := hid HBX.out.rq
          by_cases he : admE R y.now y.x = 0
          · have HE := hid he
            rw [he] at KA
            have HR2 : Hid (admR R y.now y.x = ⟨R.cf, y.now, R.next + 1, R.S ++ [y.x.id], (y.x.id, ⟨y.x, y.now, R.next⟩) :: R.T⟩) := hid (by unfold admR; rw [if_pos he])
            clear he
            go_wp2_with (first | (refine wpList_load_cells rfl 37 _ rfl _ _ rfl _ _ (HCR.out) Try.underlying37 rfl (rqE_info y.x) ?_) | (go_at_call 14; (with_reducible refine KA.out.mono ?_); rintro e w4 ⟨rfl, h1, h2⟩; have HM4 := hid (HPz.out.op h1 h2); have HCX := hid (rq_id (HBX.out.own h2 HNK.out).rq); clear h1 h2; refine Hid.out ?_))
            refine hid ?_
            have hw04 := HM4.out.rd.below.size
            have HROW := hid (show w4.ownsRow w0.heap.size 31 8 (.slice va R.S.length vcc) R.S.length (fl idE R.S) from HM4.out.came)
            go_wp2_with (first | (refine wpList_load_cells rfl 31 _ rfl _ _ rfl _ _ (HCX.out) Try.underlying31 rfl (idV_info y.x.id) ?_) | (refine wpList_build1 rfl 40 31 _ rfl (bys y.x.id.1) rfl i0 _ Try.underlying40 hi hz0 (by rw [hz1, bys_size, y.x.id.2.1]) (by rw [bys_size, y.x.id.2.1]; decide) (by rw [bys_size, y.x.id.2.1]; decide) ?_) | (at_builtin; refine wpList_append_own_at _ rfl _ _ 40 rfl w0.heap.size 31 i0 _ 8 8 Try.underlying40 hi hz0 hz1 hz2 rfl (by decide) _ _ _ rfl (HROW.out.alloc _) ⟨_, 0, none⟩ 1 1 (bys y.x.id.1).toList rfl (by rw [Array.length_toList, bys_size, y.x.id.2.1]) (cells_at (heap_alloc_new _ _)) (bys_one y.x.id.1) (by unfold maxLen; omega) (by omega) (by simp; omega) ?_))
            intro v6 w6 ho6 hg6 hnil6 hat6
            have hm6 := HM4.out.addC (x := y.x.id) ((Below.refl _ _).alloc (Nat.le_refl _) _) ho6 hg6 (by rw [alloc_size]; exact hat6)
            have HP6 := hid (hm6.pls (by rw [HR2.out]) (HPz.out.bk.admit HE.out))
            have HCF6 : Hid ((admR R y.now y.x).cf = c) := hid (by rw [HR2.out]; exact HCF.out)
            have hs6 : (admR R y.now y.x).S.length = R.S.length + 1 := by rw [HR2.out]; simp
            obtain ⟨va6, vc6, rfl⟩ := ownsRow_shape ho6
            clear ho6 hg6 hnil6 hat6 hm6
            have HKC := hid (below_keep HP6.out.rd.below HK0.out)
            have HBK := hid (HP6.out.books HCF6.out (by first | omega | (simp; omega)))
            go_wp2_with (first | (refine wpList_load_w rfl 23 _ rfl _ rfl _ _ _ _ HKC.out Try.underlying23 rfl HCI.out ?_) | (go_at_call 23; (with_reducible refine HBK.out.mono ?_); rintro e w9 ⟨rfl, h9, _⟩; have HP9 := hid h9; clear h9))
            refine ⟨⟨k + 1, _, _, by omega, by go_num, by first | omega | (simp; omega), HCF6, HP9⟩, by simp [intOf]; omega⟩
          · have HR2 : Hid (admR R y.now y.x = R) := hid (admR_no he)
            have hc1 : (admE R y.now y.x == 0) = false := by simpa using he
            obtain ⟨ce, hce⟩ : ∃ ce, ce = admE R y.now y.x := ⟨_, rfl⟩
            rw [← hce] at KA hc1
            rw [HR2.out] at KA
            have hc2 : ¬ ce = 0 := by rw [hce]; exact he
            clear he hce
            go_wp2_with (first | (refine wpList_load_cells rfl 37 _ rfl _ _ rfl _ _ (HCR.out) Try.underlying37 rfl (rqE_info y.x) ?_) | (go_at_call 14; (with_reducible refine KA.out.mono ?_); rintro e w4 ⟨rfl, h1, h2⟩; have HP4 := hid ((HPz.out.op h1 h2).pls rfl HPz.out.bk); clear h1 h2; have HKC := hid (below_keep HP4.out.rd.below HK0.out); have HBK := hid (HP4.out.books HCF.out (by omega))) | (refine wpList_load_w rfl 23 _ rfl _ rfl _ _ _ _ HKC.out Try.underlying23 rfl HCI.out ?_) | (go_at_call 23; (with_reducible refine HBK.out.mono ?_); rintro e w9 ⟨rfl, h9, _⟩; have HP9 := hid h9; clear h9))
            refine ⟨⟨k + 1, R, left, by omega, by go_num, by omega, HCF, HP9⟩, by simp [intOf]; omega⟩
        · (with_reducible refine (KR.out _).mono ?_)
          rintro e wq ⟨rfl, hwq⟩
          rw [hwq]
          clear hwq
          have KC := hid (rd_cancel HPz.out.rd y.id)
          have HCD := hid HBX.out.id
          by_cases he : takE R y.id = 0
          · have HBT := hid (HPz.out.bk.take HPz.out.rd.inv he)
            rw [he] at KC
            clear he
            go_wp2_with (first | (refine wpList_load_cells rfl 31 _ rfl _ _ rfl _ _ (HCD.out) Try.underlying31 rfl (idV_info y.id) ?_) | (go_at_call 20; (with_reducible refine KC.out.mono ?_); rintro e w4 ⟨rfl, h1, h2⟩; have HM4 := hid (HPz.out.op h1 h2); have HCX := hid (HBX.out.own h2 HNK.out).id; clear h1 h2; refine Hid.out ?_))
            refine hid ?_
            have hw04 := HM4.out.rd.below.size
            have HROW := hid (show w4.ownsRow w0.heap.size 31 8 (.slice la left.length lcc) left.length (fl idE left) from HM4.out.gone)
            go_wp2_with (first | (refine wpList_load_cells rfl 31 _ rfl _ _ rfl _ _ (HCX.out) Try.underlying31 rfl (idV_info y.id) ?_) | (refine wpList_build1 rfl 40 31 _ rfl (bys y.id.1) rfl i0 _ Try.underlying40 hi hz0 (by rw [hz1, bys_size, y.id.2.1]) (by rw [bys_size, y.id.2.1]; decide) (by rw [bys_size, y.id.2.1]; decide) ?_) | (at_builtin; refine wpList_append_own_at _ rfl _ _ 40 rfl w0.heap.size 31 i0 _ 8 8 Try.underlying40 hi hz0 hz1 hz2 rfl (by decide) _ _ _ rfl (HROW.out.alloc _) ⟨_, 0, none⟩ 1 1 (bys y.id.1).toList rfl (by rw [Array.length_toList, bys_size, y.id.2.1]) (cells_at (heap_alloc_new _ _)) (bys_one y.id.1) (by unfold maxLen; omega) (by omega) (by simp; omega) ?_))
            intro v6 w6 ho6 hg6 hnil6 hat6
            have hm6 := HM4.out.addL (x := y.id) ((Below.refl _ _).alloc (Nat.le_refl _) _) ho6 hg6 (by rw [alloc_size]; exact hat6)
            have HP6 := hid (hm6.pls rfl HBT.out.1)
            have HCF6 : Hid ((takR R y.id).cf = c) := hid HCF.out
            have hs6 : (takR R y.id).S.length = R.S.length := rfl
            obtain ⟨va6, vc6, rfl⟩ := ownsRow_shape ho6
            clear ho6 hg6 hnil6 hat6 hm6
            have HKC := hid (below_keep HP6.out.rd.below HK0.out)
            have HBK := hid (HP6.out.books HCF6.out (by first | omega | (simp; omega)))
            go_wp2_with (first | (refine wpList_load_w rfl 23 _ rfl _ rfl _ _ _ _ HKC.out Try.underlying23 rfl HCI.out ?_) | (go_at_call 23; (with_reducible refine HBK.out.mono ?_); rintro e w9 ⟨rfl, h9, _⟩; have HP9 := hid h9; clear h9))
            refine ⟨⟨k + 1, _, _, by omega, by go_num, by first | omega | (simp; omega), HCF6, HP9⟩, by simp [intOf]; omega⟩
          · have HR2 : Hid (takR R y.id = R) := hid (takR_no he)
            have hc1 : (takE R y.id == 0) = false := by simpa using he
            obtain ⟨ce, hce⟩ : ∃ ce, ce = takE R y.id := ⟨_, rfl⟩
            rw [← hce] at KC hc1
            rw [HR2.out] at KC
            have hc2 : ¬ ce = 0 := by rw [hce]; exact he
            clear he hce
            go_wp2_with (first | (refine wpList_load_cells rfl 31 _ rfl _ _ rfl _ _ (HCD.out) Try.underlying31 rfl (idV_info y.id) ?_) | (go_at_call 20; (with_reducible refine KC.out.mono ?_); rintro e w4 ⟨rfl, h1, h2⟩; have HP4 := hid ((HPz.out.op h1 h2).pls rfl HPz.out.bk); clear h1 h2; have HKC := hid (below_keep HP4.out.rd.below HK0.out); have HBK := hid (HP4.out.books HCF.out (by omega))) | (refine wpList_load_w rfl 23 _ rfl _ rfl _ _ _ _ HKC.out Try.underlying23 rfl HCI.out ?_) | (go_at_call 23; (with_reducible refine HBK.out.mono ?_); rintro e w9 ⟨rfl, h9, _⟩; have HP9 := hid h9; clear h9))
            refine ⟨⟨k + 1, R, left, by omega, by go_num, by omega, HCF, HP9⟩, by simp [intOf]; omega⟩
        · (with_reducible refine (KR.out _).mono ?_)
          rintro e wq ⟨rfl, hwq⟩
          rw [hwq]
          clear hwq
          have KE := hid (rd_expire HPz.out.rd y.now)
          go_wp2_with (first | (go_at_call 16; (with_reducible refine KE.out.mono ?_); rintro e w4 ⟨AE, cE, L, R2, rfl, hr4, hn4, he4, h1, h2, hA4⟩; have HM4 := hid (HPz.out.op h1 h2); have HR4 := hid hr4; have HN4 := hid hn4; have HE4 := hid he4; have hszz := HPz.out.gone; have HBE := hid (HPz.out.bk.expire HPz.out.rd.inv he4); clear h1 h2 hr4 hn4 he4 hA4; refine Hid.out ?_))
          refine hid ?_
          have HLEN : Hid (left.length + L.length ≤ R.S.length) := hid (by have h1 := HBE.out.len; rw [HE4.out.S.1, List.length_append, List.length_map] at h1; omega)
          have HV0 : Hid (∀ g o, AE = some ⟨g, o, none⟩ → (Value.slice la left.length lcc).ownBlock ≠ some g) := hid (fun g o e q => by have := HN4.out g o e; have := ownsRow_lt hszz q; omega)
          clear hszz
          go_wp2_with fail
          go_loopw [9, 16] (fun vl j wq => ∃ m : Nat, m ≤ L.length ∧ j = .int .i64 m ∧ Hid (PlM w0 wq p R2 R.S (left ++ (L.take m).map fun x => x.rq.id) (.slice va R.S.length vcc) vl) ∧ Hid (RowsAt 18 wtE wq AE L) ∧ Hid (∀ g o, AE = some ⟨g, o, none⟩ → vl.ownBlock ≠ some g)) (fun _ j _ => L.length - (intOf j).toNat)
          case atStart => exact ⟨0, by omega, rfl, hid (by simpa using HM4.out), HR4, HV0⟩
          case round =>
            clear HM4 HR4 HV0
            obtain ⟨m, hm, rfl, HM, HRL, HV⟩ := hrel
            by_cases hml : m < L.length
            · have hmi : (m : Int) < (L.length : Int) := by omega
              obtain ⟨z, hz⟩ : ∃ z, L[m]? = some z := ⟨L[m], by simp [hml]⟩
              obtain ⟨g, o, rfl, hg0, hcz⟩ := HRL.out.get hz
              have HCX := hid (rq_id (wt_rq hcz))
              rw [show o + 18 * m = o + m * 18 by omega] at HCX
              have HTK : Hid ((left ++ (L.take (m + 1)).map fun x => x.rq.id) = (left ++ (L.take m).map fun x => x.rq.id) ++ [z.rq.id]) := hid (by obtain ⟨h1, h2⟩ := List.getElem?_eq_some_iff.1 hz; rw [List.take_succ_eq_append_getElem h1, List.map_append, h2, List.append_assoc]; rfl)
              have hlm : (left ++ (L.take m).map fun x => x.rq.id).length = left.length + m := by simp; omega
              have hll := HLEN.out
              have hw04 := HM.out.rd.below.size
              have HG0 := hid hg0
              obtain ⟨la2, lc2, hvl⟩ := ownsRow_shape HM.out.gone
              rw [hlm] at hvl
              subst hvl
              generalize (left ++ (L.take m).map fun x => x.rq.id) = lefm at *
              have HROW := hid (show wr.ownsRow w0.heap.size 31 8 (.slice la2 (left.length + m) lc2) (left.length + m) (fl idE lefm) by have hgn := HM.out.gone; rw [hlm] at hgn; exact hgn)
              clear hz hcz hg0
              go_wp2_with (first | (refine wpList_load_cells rfl 31 _ rfl _ _ rfl _ _ (HCX.out) Try.underlying31 rfl (idV_info z.rq.id) ?_) | (refine wpList_build1 rfl 40 31 _ rfl (bys z.rq.id.1) rfl i0 _ Try.underlying40 hi hz0 (by rw [hz1, bys_size, z.rq.id.2.1]) (by rw [bys_size, z.rq.id.2.1]; decide) (by rw [bys_size, z.rq.id.2.1]; decide) ?_) | (at_builtin; refine wpList_append_own_at _ rfl _ _ 40 rfl w0.heap.size 31 i0 _ 8 8 Try.underlying40 hi hz0 hz1 hz2 rfl (by decide) _ _ _ rfl (HROW.out.alloc _) ⟨_, 0, none⟩ 1 1 (bys z.rq.id.1).toList rfl (by rw [Array.length_toList, bys_size, z.rq.id.2.1]) (cells_at (heap_alloc_new _ _)) (bys_one z.rq.id.1) (by unfold maxLen; omega) (by omega) (by simp; omega) ?_))
              intro v6 w6 ho6 hg6 hnil6 hat6
              rw [← hlm] at ho6
              have hm6 := HM.out.addL (x := z.rq.id) ((Below.refl _ _).alloc (Nat.le_refl _) _) ho6 hg6 (by rw [alloc_size]; exact hat6)
              have hr6 : RowsAt 18 wtE w6 (some ⟨g, o, none⟩) L := (HRL.out.kept ((Below.refl _ _).alloc (Nat.le_refl _) _)).kp ((Kp.refl (fun q => (Value.slice la2 (left.length + m) lc2).ownBlock = some q) _).grown hg6 (fun q e => .inl e)) (fun g' o' e q => HV.out g' o' e q)
              have hv6 : ∀ g' o', some (⟨g, o, none⟩ : Addr) = some ⟨g', o', none⟩ → v6.ownBlock ≠ some g' := fun g' o' e q => by
                cases e
                rcases hat6 with r | r
                · exact HV.out g o rfl (by rw [← r]; exact q)
                · rw [r] at q; injection q with q; have := HG0.out; omega
              go_wp2
              refine ⟨⟨m + 1, by omega, by go_num, hid (by rw [HTK.out]; exact hm6), hid hr6, hid hv6⟩, by simp [intOf]; omega⟩
            · have hmi : ¬ ((m : Int) < (L.length : Int)) := by omega
              have hmm : L.take m = L := List.take_of_length_le (by omega)
              rw [hmm] at HM
              obtain ⟨la6, lc6, hv6⟩ := ownsRow_shape HM.out.gone
              rw [List.length_append, List.length_map] at hv6
              subst hv6
              have HP6 := hid (HM.out.pls HE4.out.S.1.symm HBE.out)
              have HCF6 : Hid (R2.cf = c) := hid (by rw [HE4.out.S.2]; exact HCF.out)
              have hs6 : R2.S.length = R.S.length := by rw [HE4.out.S.1]
              clear HM
              have HKC := hid (below_keep HP6.out.rd.below HK0.out)
              have HBK := hid (HP6.out.books HCF6.out (by first | omega | (simp; omega)))
              go_wp2_with (first | (refine wpList_load_w rfl 23 _ rfl _ rfl _ _ _ _ HKC.out Try.underlying23 rfl HCI.out ?_) | (go_at_call 23; (with_reducible refine HBK.out.mono ?_); rintro e w9 ⟨rfl, h9, _⟩; have HP9 := hid h9; clear h9))
              refine ⟨⟨k + 1, _, _, by omega, by go_num, by first | omega | (simp; omega), HCF6, HP9⟩, by simp [intOf]; omega⟩
        · (with_reducible refine (KR.out _).mono ?_)
          rintro e wq ⟨rfl, hwq⟩
          rw [hwq]
          clear hwq
          have KT := hid (rd_take HPz.out.rd y.id)
          have HCD := hid HBX.out.id
          have HWI := hid (wtE_info (wtOf R y.id))
          have HWS : Hid ((wtE (wtOf R y.id)).size = 18) := hid (wtE_size _)
          by_cases he : takE R y.id = 0
          ·
            have HBT := hid (HPz.out.bk.take HPz.out.rd.inv he)
            rw [he] at KT
            clear he
            go_wp2_with (first | (refine wpList_load_cells rfl 31 _ rfl _ _ rfl _ _ (HCD.out) Try.underlying31 rfl (idV_info y.id) ?_) | (go_at_call 21; (with_reducible refine KT.out.mono ?_); rintro e w4 ⟨rfl, h1, h2⟩; have HM4 := hid (HPz.out.op h1 h2); clear h1 h2) | (refine wpList_store_row rfl 48 _ _ rfl _ rfl _ rfl _ _ (heap_alloc_new _ _) (by rw [HWS.out]; rfl) (wtE_ones _) HWI.out _ (setRow_alloc _ _ _ _) ?_; refine Hid.out ?_))
            refine hid ?_
            have HCX : Hid (CellsAt (w4.alloc (.cells (wtE (wtOf R y.id)) 48)) w4.heap.size 0 (bys y.id.1)) := hid (by have h5 := rq_id (wt_rq (box_cells (heap_alloc_new w4 (.cells (wtE (wtOf R y.id)) 48)))); rw [HBT.out.2] at h5; exact h5)
            have HM5 := hid (HM4.out.kept ((Below.refl _ _).alloc (Nat.le_refl _) (.cells (wtE (wtOf R y.id)) 48)))
            obtain ⟨w5, hw5⟩ : ∃ w5, w5 = w4.alloc (.cells (wtE (wtOf R y.id)) 48) := ⟨_, rfl⟩
            rw [← hw5] at HCX HM5 ⊢
            generalize w4.heap.size = kb2 at *
            clear hw5 HM4
            have hw04 := HM5.out.rd.below.size
            have HROW := hid (show w5.ownsRow w0.heap.size 31 8 (.slice la left.length lcc) left.length (fl idE left) from HM5.out.gone)
            go_wp2_with (first | (refine wpList_load_cells rfl 31 _ rfl _ _ rfl _ _ (HCX.out) Try.underlying31 rfl (idV_info y.id) ?_) | (refine wpList_build1 rfl 40 31 _ rfl (bys y.id.1) rfl i0 _ Try.underlying40 hi hz0 (by rw [hz1, bys_size, y.id.2.1]) (by rw [bys_size, y.id.2.1]; decide) (by rw [bys_size, y.id.2.1]; decide) ?_) | (at_builtin; refine wpList_append_own_at _ rfl _ _ 40 rfl w0.heap.size 31 i0 _ 8 8 Try.underlying40 hi hz0 hz1 hz2 rfl (by decide) _ _ _ rfl (HROW.out.alloc _) ⟨_, 0, none⟩ 1 1 (bys y.id.1).toList rfl (by rw [Array.length_toList, bys_size, y.id.2.1]) (cells_at (heap_alloc_new _ _)) (bys_one y.id.1) (by unfold maxLen; omega) (by omega) (by simp; omega) ?_))
            intro v6 w6 ho6 hg6 hnil6 hat6
            have hm6 := HM5.out.addL (x := y.id) ((Below.refl _ _).alloc (Nat.le_refl _) _) ho6 hg6 (by rw [alloc_size]; exact hat6)
            have HP6 := hid (hm6.pls rfl HBT.out.1)
            have HCF6 : Hid ((takR R y.id).cf = c) := hid HCF.out
            have hs6 : (takR R y.id).S.length = R.S.length := rfl
            obtain ⟨va6, vc6, rfl⟩ := ownsRow_shape ho6
            clear ho6 hg6 hnil6 hat6 hm6
            have HKC := hid (below_keep HP6.out.rd.below HK0.out)
            have HBK := hid (HP6.out.books HCF6.out (by first | omega | (simp; omega)))
            go_wp2_with (first | (refine wpList_load_w rfl 23 _ rfl _ rfl _ _ _ _ HKC.out Try.underlying23 rfl HCI.out ?_) | (go_at_call 23; (with_reducible refine HBK.out.mono ?_); rintro e w9 ⟨rfl, h9, _⟩; have HP9 := hid h9; clear h9))
            refine ⟨⟨k + 1, _, _, by omega, by go_num, by first | omega | (simp; omega), HCF6, HP9⟩, by simp [intOf]; omega⟩
          ·
            have HR2 : Hid (takR R y.id = R) := hid (takR_no he)
            have hc1 : (takE R y.id == 0) = false := by simpa using he
            obtain ⟨ce, hce⟩ : ∃ ce, ce = takE R y.id := ⟨_, rfl⟩
            rw [← hce] at KT hc1
            rw [HR2.out] at KT
            have hc2 : ¬ ce = 0 := by rw [hce]; exact he
            clear he hce
            go_wp2_with (first | (refine wpList_load_cells rfl 31 _ rfl _ _ rfl _ _ (HCD.out) Try.underlying31 rfl (idV_info y.id) ?_) | (go_at_call 21; (with_reducible refine KT.out.mono ?_); rintro e w4 ⟨rfl, h1, h2⟩; have HP3 := hid ((HPz.out.op h1 h2).pls rfl HPz.out.bk); clear h1 h2) | (refine wpList_store_row rfl 48 _ _ rfl _ rfl _ rfl _ _ (heap_alloc_new _ _) (by rw [HWS.out]; rfl) (wtE_ones _) HWI.out _ (setRow_alloc _ _ _ _) ?_; have HP4 := hid (HP3.out.kept ((Below.refl _ _).alloc (Nat.le_refl _) (.cells (wtE (wtOf R y.id)) 48))); have HKC := hid (below_keep HP4.out.rd.below HK0.out); have HBK := hid (HP4.out.books HCF.out (by omega))) | (refine wpList_load_w rfl 23 _ rfl _ rfl _ _ _ _ HKC.out Try.underlying23 rfl HCI.out ?_) | (go_at_call 23; (with_reducible refine HBK.out.mono ?_); rintro e w9 ⟨rfl, h9, _⟩; have HP9 := hid h9; clear h9))
            refine ⟨⟨k + 1, R, left, by omega, by go_num, by omega, HCF, HP9⟩, by simp [intOf]; omega⟩
        · (with_reducible refine (KR.out _).mono ?_)
          rintro e wq ⟨rfl, hwq⟩
          rw [hwq]
          clear hwq
          have HKC := hid (below_keep HPz.out.rd.below HK0.out)
          have HBK := hid (HPz.out.books HCF.out (by omega))
          go_wp2_with (first | (refine wpList_load_w rfl 23 _ rfl _ rfl _ _ _ _ HKC.out Try.underlying23 rfl HCI.out ?_) | (go_at_call 23; (with_reducible refine HBK.out.mono ?_); rintro e w9 ⟨rfl, h9, _⟩; have HP9 := hid h9; clear h9))
          refine ⟨⟨k + 1, R, left, by omega, by go_num, by omega, HCF, HP9⟩, by simp [intOf]; omega⟩
    · have hki : ¬ ((k : Int) < (S.length : Int)) := by omega
      go_wp2
      go_ret2
      exact ⟨p, rfl, R, HP.out.rd.later HB0.out, HCF.out, by omega⟩
end Go.Proofs.Ytkaalppmheikgaa

namespace Go.Proofs.Ytkaalppmheikgaa
open Go.RowKit

theorem wpList_build_run {P : Program} {ops : Array Oper} {rest : List Oper} {o : Oper} {a : Act} {w : World} {Q : Exit → Act → World → Prop} (hg : o.guard = none) (t : TypeId) (parts : Array (Nat × Operand)) (ho : o.op = .build t parts) (v : Value)
    (hr : (Instr.build t (parts.map fun q => (q.1, a.eval q.2))).run P w = .ok v w) (h : wpList P ops Q rest (a.put o.dst v) w) : wpList P ops Q (o :: rest) a w :=
  wpList_plain hg fun K' hK' => by
    unfold Oper.wp
    rw [exec_build t parts ho hr]
    exact hK' _ _ h
def j1 : Id8 := ⟨[0, 0, 0, 0, 0, 0, 0, 1], by unfold B8; decide⟩
def j2 : Id8 := ⟨[0, 0, 0, 0, 0, 0, 0, 2], by unfold B8; decide⟩
def j3 : Id8 := ⟨[0, 0, 0, 0, 0, 0, 0, 3], by unfold B8; decide⟩
def cS : Cf := ⟨2, 2, 2, 10, 5⟩
def rqL (x : Id8) (ttl : Int) : Rq := ⟨x, 0, 0, 0, 0, 1, 1, 0, ttl⟩
theorem cS_ok : cfOk cS = true := by decide
theorem build_rq (x : Id8) (ttl : Int) (w : World) : (Instr.build 37 #[(0, .agg (bys x.1)), (3, .int .u8 1), (4, .int .u8 1), (6, .int .i64 ttl)]).run Try.prog w = .ok (.agg (rqE (rqL x ttl))) w := by
  obtain ⟨c1, c2, c3, c4, c5, c6, c7, c8, hx⟩ := id8_list x
  unfold rqE rqL
  simp only [hx]
  kernel_rfl
set_option maxRecDepth 100000 in
set_option maxHeartbeats 2000000 in
theorem request_any (x : Id8) (n ttl : Int) (hx : x.1 = [0, 0, 0, 0, 0, 0, 0, n]) (w : World) : Calls Try.prog 24 #[.int .u8 n, .int .i64 ttl] w fun e w' => e = .returned (.agg (rqE (rqL x ttl))) ∧ Below w.heap.size w w' := by
  have HS : Hid ((rqE (rqL x ttl)).size = 16) := hid (rqE_size _)
  have HB : Hid (∀ w, (Instr.build 37 #[(0, .agg (bys [0, 0, 0, 0, 0, 0, 0, n])), (3, .int .u8 1), (4, .int .u8 1), (6, .int .i64 ttl)]).run Try.prog w = .ok (.agg (rqE (rqL x ttl))) w) := hid (fun w => by rw [← hx]; exact build_rq x ttl w)
  clear hx
  go_enter Try.func24, Try.ntmps24
  go_wp2_with (first | (refine wpList_build_run rfl 37 _ rfl (.agg (rqE (rqL x ttl))) (by simp only [List.map_toArray, List.map_cons, List.map_nil]; exact HB.out _) ?_) | (refine wpList_store_row rfl 37 _ _ rfl _ rfl _ rfl _ _ (heap_alloc_new _ _) (by rw [HS.out]; rfl) (rqE_ones _) (rqE_info _) _ (setRow_alloc _ _ _ _) ?_))
  refine bodyPost_ret (results_cell_row rfl _ _ _ 37 _ _ _ rfl (heap_alloc_new _ _) Try.underlying37 rfl (rqE_info _)) rfl ⟨rfl, (Below.refl _ _).alloc (Nat.le_refl _) _⟩
set_option maxRecDepth 100000 in
theorem small_any (w : World) : Calls Try.prog 19 #[] w fun e w' => e = .returned (.agg (cfE cS)) ∧ Below w.heap.size w w' := by
  go_enter Try.func19, Try.ntmps19
  go_wp2
  refine bodyPost_ret (results_cell_row rfl _ _ _ 23 _ _ _ rfl (heap_alloc_new _ _) Try.underlying23 rfl (cfE_info cS)) rfl ⟨rfl, (Below.refl _ _).alloc (Nat.le_refl _) _⟩
def w1L : Wt := ⟨rqL j1 10, 0, 0⟩
def w2L : Wt := ⟨rqL j2 1, 3, 1⟩
def R2L : RS := ⟨cS, 3, 2, [j1, j2], [(j2, w2L), (j1, w1L)]⟩
theorem exp_lives {L : List Wt} {R : RS} (h : ExpR R2L 5 L R) : L = [w2L] ∧ R = ⟨cS, 5, 2, [j1, j2], [(j1, w1L)]⟩ := by
  rcases h with ⟨h1, _⟩ | ⟨_, _, U, hU, rfl⟩
  · rcases h1 with h1 | h1
    · exact absurd h1 (by decide)
    · exact absurd h1 (by decide)
  · have hT : ∀ q ∈ R2L.T, q = (j2, w2L) ∨ q = (j1, w1L) := fun q hq => by simpa [R2L] using hq
    have hL : ∀ x ∈ L, x = w2L := fun x hx => by
      have h1 := hT _ (hU.perm.mem_iff.1 (List.mem_append_left _ (List.mem_map.2 ⟨x, hx, rfl⟩)))
      have h2 := hU.due x hx
      rcases h1 with e | e
      · exact congrArg Prod.snd e
      · have e2 : x = w1L := congrArg Prod.snd e
        rw [e2] at h2; exact absurd h2 (by decide)
    have hV : ∀ q ∈ U, q = (j1, w1L) := fun q hq => by
      have h1 := hT _ (hU.perm.mem_iff.1 (List.mem_append_right _ hq))
      have h2 := hU.stay q hq
      rcases h1 with e | e
      · rw [e] at h2; exact absurd h2 (by decide)
      · exact e
    have hn := hU.perm.nodup_iff.2 (by decide : R2L.T.Nodup)
    have hl := hU.perm.length_eq
    rw [List.length_append, List.length_map, show R2L.T.length = 2 from rfl] at hl
    obtain ⟨n1, n2, _⟩ := List.nodup_append.1 hn
    match L, U with
    | [], [] => simp at hl
    | [], [a] => simp at hl
    | [], a :: b :: U =>
      have ha := hV a (by simp)
      have hb := hV b (by simp)
      rw [ha, hb] at n2
      simp at n2
    | [a], [] => simp at hl
    | [a], [b] => rw [hL a (by simp), hV b (by simp)]; exact ⟨rfl, rfl⟩
    | [a], b :: c :: U => exfalso; simp at hl; omega
    | a :: b :: L, U =>
      have ha := hL a (by simp)
      have hb := hL b (by simp)
      rw [ha, hb] at n1
      simp at n1
def R0L : RS := ⟨cS, 0, 0, [], []⟩
def R1L : RS := ⟨cS, 0, 1, [j1], [(j1, w1L)]⟩
def R3L : RS := ⟨cS, 5, 2, [j1, j2], [(j1, w1L)]⟩
def R4L : RS := ⟨cS, 5, 2, [j1, j2], []⟩
theorem ad_of {w0 w : World} {p : Nat} {R R2 : RS} (h : Rd w0 w p R) (now : Int) (x : Rq) (hS : R.S.length ≤ 1000) {k : Int} (he : admE R now x = k) (hr : admR R now x = R2) :
    Calls Try.prog 14 #[.pointer (some ⟨p, 0, none⟩), .int .i64 now, .agg (rqE x)] w fun e w' => e = .returned (.int .i64 k) ∧ Rd w0 w' p R2 := by
  have h1 := rd_admit h now x (by omega)
  rw [he, hr] at h1
  exact h1.mono fun e w' ⟨q1, q2, _⟩ => ⟨q1, q2⟩
theorem ad1 {w0 w : World} {p : Nat} (h : Rd w0 w p R0L) : Calls Try.prog 14 #[.pointer (some ⟨p, 0, none⟩), .int .i64 0, .agg (rqE (rqL j1 10))] w fun e w' => e = .returned (.int .i64 0) ∧ Rd w0 w' p R1L := ad_of h 0 (rqL j1 10) (by decide) (by decide) (by rfl)
theorem ad2 {w0 w : World} {p : Nat} (h : Rd w0 w p R1L) : Calls Try.prog 14 #[.pointer (some ⟨p, 0, none⟩), .int .i64 3, .agg (rqE (rqL j2 1))] w fun e w' => e = .returned (.int .i64 0) ∧ Rd w0 w' p R2L := ad_of h 3 (rqL j2 1) (by decide) (by decide) (by rfl)
theorem ad3 {w0 w : World} {p : Nat} (h : Rd w0 w p R2L) : Calls Try.prog 14 #[.pointer (some ⟨p, 0, none⟩), .int .i64 3, .agg (rqE (rqL j3 1))] w fun e w' => e = .returned (.int .i64 132) ∧ Rd w0 w' p R2L := ad_of h 3 (rqL j3 1) (by decide) (by decide) (by rfl)
theorem ad4 {w0 w : World} {p : Nat} (h : Rd w0 w p R2L) : Calls Try.prog 14 #[.pointer (some ⟨p, 0, none⟩), .int .i64 3, .agg (rqE (rqL j1 10))] w fun e w' => e = .returned (.int .i64 130) ∧ Rd w0 w' p R2L := ad_of h 3 (rqL j1 10) (by decide) (by decide) (by rfl)
theorem ex1 {w0 w : World} {p : Nat} (h : Rd w0 w p R2L) : Calls Try.prog 16 #[.pointer (some ⟨p, 0, none⟩), .int .i64 5] w fun e w' => ∃ g o c, e = .returned (.slice (some ⟨g, o, none⟩) 1 c) ∧ RowsAt 18 wtE w' (some ⟨g, o, none⟩) [w2L] ∧ Rd w0 w' p R3L ∧ NotOwn w' p (some ⟨g, o, none⟩) := by
  refine (rd_expire h 5).mono ?_
  rintro e w' ⟨A, c, L, R2, rfl, h1, _, he, h2, _, h4⟩
  obtain ⟨rfl, rfl⟩ := exp_lives he
  obtain ⟨g, o, rfl, _, _⟩ := h1.get (i := 0) (x := w2L) rfl
  exact ⟨g, o, c, rfl, h1, h2, h4⟩
theorem tk1 {w0 w : World} {p : Nat} (h : Rd w0 w p R3L) : Calls Try.prog 21 #[.pointer (some ⟨p, 0, none⟩), .agg (bys [0, 0, 0, 0, 0, 0, 0, 1])] w fun e w' => e = .returned (.tuple #[.agg (wtE w1L), .int .i64 0]) ∧ Rd w0 w' p R4L ∧ OnlyOwn w w' p := by
  have h1 := rd_take h j1
  rw [show wtOf R3L j1 = w1L by rfl, show takE R3L j1 = 0 by rfl, show takR R3L j1 = R4L by rfl] at h1
  exact h1
theorem li1 {w0 w : World} {p : Nat} (h : Rd w0 w p R4L) : Calls Try.prog 11 #[.pointer (some ⟨p, 0, none⟩)] w fun e w' => ∃ A c, e = .returned (.slice A 0 c) ∧ Below w.heap.size w w' := by
  refine (rd_list h (by decide)).mono ?_
  rintro e w' ⟨A, c, rfl, _, _, hb⟩
  exact ⟨A, c, by rw [lst_len]; rfl, hb⟩
theorem kn1 {w0 w : World} {p : Nat} (h : Rd w0 w p R4L) : Calls Try.prog 13 #[.pointer (some ⟨p, 0, none⟩), .agg (bys [0, 0, 0, 0, 0, 0, 0, 2])] w fun e w' => e = .returned (.bool true) ∧ Below w.heap.size w w' := by
  have h1 := rd_known h j2
  rw [show decide (j2 ∈ R4L.S) = true by decide] at h1
  exact h1
set_option maxRecDepth 100000 in
set_option maxHeartbeats 16000000 in
theorem lives_any (w : World) : Calls Try.prog 9 #[] w fun e w' => e = .returned (.bool true) ∧ Below w.heap.size w w' := by
  have KQ := hid (fun w => request_any j1 1 10 rfl w)
  have KQ2 := hid (fun w => request_any j2 2 1 rfl w)
  have KQ3 := hid (fun w => request_any j3 3 1 rfl w)
  have heq := fun w => eq_ids [0, 0, 0, 0, 0, 0, 0, 2] [0, 0, 0, 0, 0, 0, 0, 2] j2.2 j2.2 w
  rw [decide_eq_true rfl] at heq
  have heq2 : ∀ w, (Op.equalIn 10000 31 (.agg (bys [0, 0, 0, 0, 0, 0, 0, 2])) (.agg #[.int .u8 0, .int .u8 0, .int .u8 0, .int .u8 0, .int .u8 0, .int .u8 0, .int .u8 0, .int .u8 2])).run Try.prog w = .ok true w := heq
  have HW18 : Hid ((wtE w1L).size = 18) := hid (wtE_size _)
  go_enter Try.func9, Try.ntmps9
  go_wp2_with (first | (go_at_call 19; (with_reducible refine (small_any _).mono ?_); rintro e w1 ⟨rfl, hb1⟩; have HB1 := hid hb1; clear hb1) | (go_at_call 17; (with_reducible refine (new_any cS_ok _).mono ?_); rintro e w2 ⟨p, rfl, h2⟩; have HA := hid (show Rd w w2 p R0L from h2.later HB1.out); clear h2) | (go_at_call 24; (with_reducible first | refine (KQ.out _).mono ?_ | refine (KQ2.out _).mono ?_ | refine (KQ3.out _).mono ?_); rintro e wq ⟨rfl, hbq⟩; have HV := hid (HA.out.kept hbq); clear hbq HA; have HA := HV; clear HV) | (go_at_call 14; (with_reducible first | refine (ad1 HA.out).mono ?_ | refine (ad2 HA.out).mono ?_ | refine (ad3 HA.out).mono ?_ | refine (ad4 HA.out).mono ?_); rintro e wa ⟨rfl, hra⟩; clear HA; have HA := hid hra; clear hra) | (go_at_call 16; (with_reducible refine (ex1 HA.out).mono ?_); rintro e we ⟨g, o, cE, rfl, hr, hra, hno⟩; clear HA; have HA := hid hra; have HRE := hid hr; have HNO := hid hno; clear hra hr hno) | (go_at_call 21; refine (tk1 HA.out).mono ?_; rintro e wt ⟨rfl, hra, hon⟩; have HV := hid (HRE.out.own hon HNO.out); clear HA HRE HNO; have HA := hid hra; have HRE := HV; clear HV hra hon) | (refine wpList_store_row rfl 48 _ _ rfl _ rfl _ rfl _ _ (heap_alloc_new _ _) (by rw [HW18.out]; rfl) (wtE_ones _) (wtE_info _) _ (setRow_alloc _ _ _ _) ?_; have HA2 := hid (HA.out.kept ((Below.refl _ _).alloc (Nat.le_refl _) (.cells (wtE w1L) 48))); have HRE2 := hid (HRE.out.kept ((Below.refl _ _).alloc (Nat.le_refl _) (.cells (wtE w1L) 48))); have HNB := hid (heap_alloc_new wt (.cells (wtE w1L) 48)); refine Hid.out ?_))
  refine hid ?_
  obtain ⟨W, hW⟩ : ∃ W, W = wt.alloc (.cells (wtE w1L) 48) := ⟨_, rfl⟩
  rw [← hW] at HA2 HRE2 HNB ⊢
  generalize wt.heap.size = kb at *
  obtain ⟨_, _, e1, _, hc⟩ := HRE2.out.get (i := 0) (x := w2L) rfl
  cases e1
  rw [Nat.mul_zero, Nat.add_zero] at hc
  have HCI := hid (rq_id (wt_rq hc))
  have hcs := wt_since hc
  have hcn : W.cell? ⟨kb, 17, none⟩ = some (.int .i64 0) := row_cell HNB.out 17 _ (wtE_get w1L).2.2
  rw [show w2L.since = 3 from rfl] at hcs
  rw [show (w2L.rq.id : Id8).1 = [0, 0, 0, 0, 0, 0, 0, 2] from rfl] at HCI
  clear hW hc HA HRE
  go_wp2_with (first | (refine wpList_load_cells rfl 31 _ rfl _ _ rfl _ _ HCI.out Try.underlying31 rfl (idV_info j2) ?_) | (go_at_call 11; (with_reducible refine (li1 HA2.out).mono ?_); rintro e wl ⟨Al, cl, rfl, hbl⟩; have HA3 := hid (HA2.out.kept hbl); clear hbl) | (go_at_call 13; refine (kn1 HA3.out).mono ?_; rintro e wk ⟨rfl, hbk⟩; have HA4 := hid (HA3.out.kept hbk); clear hbk))
  go_ret
  exact ⟨rfl, HA4.out.below⟩
end Go.Proofs.Ytkaalppmheikgaa

namespace Go.Proofs.Ytkaalppmheikgaa
open Go.RowKit

set_option maxRecDepth 100000 in
set_option maxHeartbeats 4000000 in
theorem once_any (c : Cf) (S : List ROp) (A : Option Addr) (cap : Nat) (w : World) (hr : ScAt w A S) :
    Calls Try.prog 3 #[.agg (cfE c), .slice A S.length cap] w fun e w' => e = .returned (.bool true) ∧ Below w.heap.size w w' := by
  have hB0 := (Below.refl w.heap.size w).alloc (Nat.le_refl _) (.cells (cfE c) 23)
  have HCI := hid (cfE_info c)
  have HR := hid (hr.kept hB0)
  have HB0 := hid hB0
  clear hr hB0
  cases hc : cfOk c
  · have HP := hid (plays_no hc (.slice A S.length cap) (w.alloc (.cells (cfE c) 23)))
    clear hc
    go_enter Try.func3, Try.ntmps3
    go_wp2_with (first | (refine wpList_load_w rfl 23 _ rfl _ rfl _ _ _ _ (heap_alloc_new _ _) Try.underlying23 rfl HCI.out ?_) | (go_at_call 8; (with_reducible refine HP.out.mono ?_); rintro e w2 ⟨rfl, hb⟩; have HB2 := hid (HB0.out.trans (hb.mono HB0.out.size)); clear hb) | (go_at_call 9; (with_reducible refine (lives_any _).mono ?_); rintro e w3 ⟨rfl, hb⟩; have HB3 := hid (HB2.out.trans (hb.mono HB2.out.size)); clear hb))
    go_ret
    exact ⟨rfl, HB3.out⟩
  · have HP := hid (plays_any hc S A cap (w.alloc (.cells (cfE c) 23)) HR.out)
    clear hc
    go_enter Try.func3, Try.ntmps3
    go_wp2_with (first | (refine wpList_load_w rfl 23 _ rfl _ rfl _ _ _ _ (heap_alloc_new _ _) Try.underlying23 rfl HCI.out ?_) | (go_at_call 8; (with_reducible refine HP.out.mono ?_); rintro e w2 ⟨p, R, rfl, hrd, _, _⟩; have HB2 := hid (HB0.out.trans (hrd.below.mono HB0.out.size)); clear hrd) | (go_at_call 9; (with_reducible refine (lives_any _).mono ?_); rintro e w3 ⟨rfl, hb⟩; have HB3 := hid (HB2.out.trans (hb.mono HB2.out.size)); clear hb))
    go_ret
    exact ⟨rfl, HB3.out⟩
end Go.Proofs.Ytkaalppmheikgaa

namespace Go.Proofs.Ytkaalppmheikgaa
open Go.ChangeShapes Go.WideShapes Go.ChangeAt Go.RowKit

theorem own : ownKnob Try.prog.godebug = Option.none := by kernel_rfl
theorem laidOut : laidOutB Try.prog = true := by kernel_rfl

section
variable {H : Type} {enc : TypeId × Value → H} {P : Program} {w : World} {base : Nat} {spare : Nat → Bool} {held : Bool}

theorem okWide_agg {r : Reach} {b0 : Nat} {T n e : Nat} {v : Value} (hu : P.underlying T = some (.array n e)) (h : Value.okWide P w r b0 T v) : ∃ cs, v = .agg cs := by
  unfold Value.okWide at h
  rw [hu] at h
  obtain ⟨cs, h, _⟩ := h
  exact ⟨cs, h⟩

/-- n integers in a row of cells that reads as an array. -/
theorem cells_ints {k : IntKind} {e : Nat} (he : P.underlying e = some (.int k)) (hs : P.cellsOf e = 1) {m : Nat} :
    ∀ (n : Nat) (cs : List Value), cs.length = n → (∀ i, i < n → ∃ y, DataW.trod enc P w base spare held m e ((cs.drop (i * 1)).take 1) = some y) →
    ∃ l : List Int, l.length = n ∧ (∀ b ∈ l, (Lit.int k b).wf = true) ∧ cs = l.map (Value.int k)
  | 0, cs, hn, _ => ⟨[], rfl, by simp, by simpa using hn⟩
  | n + 1, [], hn, _ => by simp at hn
  | n + 1, c :: cs, hn, h => by
    obtain ⟨y, hy⟩ := h 0 (by omega)
    obtain ⟨b, hb, _, hw⟩ := DataW.trod_int he hy
    obtain ⟨l, hl, hlw, hcs⟩ := cells_ints he hs n cs (by simpa using hn) (fun i hi => by
      obtain ⟨y, hy⟩ := h (i + 1) (by omega)
      exact ⟨y, by simpa using hy⟩)
    refine ⟨b :: l, by simp [hl], ?_, ?_⟩
    · intro x hx
      rcases List.mem_cons.1 hx with rfl | hx
      · exact hw
      · exact hlw x hx
    · simp at hb
      simp [hb, hcs]

theorem open_ints_arr {r : Reach} {b0 : Nat} {T n e : Nat} {k : IntKind} {v : Value} {d : DataW H} {ps : List MemPlace} (hu : P.underlying T = some (.array n e)) (he : P.underlying e = some (.int k)) (hs : P.cellsOf e = 1) (hn : P.cellsOf T = n)
    (hval : Value.okWide P w r b0 T v) (h : DataW.Trod enc P w base spare held T v d ps) : ∃ l : List Int, l.length = n ∧ (∀ b ∈ l, (Lit.int k b).wf = true) ∧ v = .agg (l.map (Value.int k)).toArray := by
  obtain ⟨cs, rfl⟩ := okWide_agg hu hval
  obtain ⟨fuel, hf⟩ := h
  obtain ⟨xs, m, _, _, hlen, hxs, hel⟩ := DataW.trod_array hu hf
  simp only [Value.cells] at hlen hel
  rw [hs] at hel
  obtain ⟨l, h1, h2, h3⟩ := cells_ints (enc := enc) (w := w) (base := base) (spare := spare) (held := held) he hs n cs.toList (by rw [hlen, hn]) (fun i hi => ⟨xs[i]'(by omega), by rw [hel i hi]; simp [hxs, hi]⟩)
  exact ⟨l, h1, h2, by rw [← h3]⟩
end
end Go.Proofs.Ytkaalppmheikgaa

namespace Go.Proofs.Ytkaalppmheikgaa
open Go.RowKit Go.ChangeShapes Go.WideShapes

instance instROp : Inhabited ROp := ⟨⟨0, 0, 0, false, rqZ, zI⟩⟩
instance instRq : Inhabited Rq := ⟨rqZ⟩
section
variable {H : Type} {enc : TypeId × Value → H} {w : World} {base : Nat} {spare : Nat → Bool} {held : Bool}
theorem field_at {fs : Array Field} {Q : Nat → TypeId → Nat → Prop} (h : ∀ (i : Nat) (f : Field), fs[i]? = some f → Q i f.type f.offset) (i : Nat) (t o : Nat) (hf : (fs[i]?).map (fun f => (f.type, f.offset)) = some (t, o)) : Q i t o := by
  obtain ⟨f, h1, h2⟩ := Option.map_eq_some_iff.1 hf
  rw [Prod.mk.injEq] at h2
  obtain ⟨rfl, rfl⟩ := h2
  exact h i f h1
theorem trod_id (n : Nat) (c : List Value) (y : DataW H × List MemPlace) (h : DataW.trod enc Try.prog w base spare held n 31 c = some y) : ∃ z : Id8, c = (bys z.1).toList := by
  obtain ⟨xs, m, _, _, hlen, hxs, hel⟩ := DataW.trod_array Try.underlying31 h
  have hs : Try.prog.cellsOf 5 = 1 := by kernel_rfl
  have hn : Try.prog.cellsOf 31 = 8 := by kernel_rfl
  rw [hs] at hel
  obtain ⟨l, h1, h2, h3⟩ := cells_ints (enc := enc) (w := w) (base := base) (spare := spare) (held := held) Try.underlying5 hs 8 c (by rw [hlen, hn]) (fun i hi => ⟨xs[i]'(by omega), by rw [hel i hi]; simp [hxs, hi]⟩)
  exact ⟨⟨l, h1, fun b hb => bounds_u8 (h2 b hb)⟩, by rw [h3]; simp [bys]⟩
theorem cut_step {c d : List Value} {i j : Nat} {a b : List Value} (h0 : c.take i = a) (h1 : (c.drop i).take j = b) (hd : c.take (i + j) = d) : d = a ++ b := by
  subst h0 h1 hd
  rw [List.take_add]
theorem trod_pt (n : Nat) (c : List Value) (y : DataW H × List MemPlace) (hc : c.length = 2) (h : DataW.trod enc Try.prog w base spare held n 35 c = some y) : ∃ a b : Int, c = [.int .i16 a, .int .i16 b] := by
  obtain ⟨xs, m, _, _, _, hx, hf⟩ := DataW.trod_struct Try.underlying35 h
  have h3 : xs.length = 2 := hx
  have f0 := field_at (Q := fun i t o => DataW.trod enc Try.prog w base spare held m t ((c.drop o).take (Try.prog.cellsOf t)) = xs[i]?) hf 0 33 0 rfl
  have f1 := field_at (Q := fun i t o => DataW.trod enc Try.prog w base spare held m t ((c.drop o).take (Try.prog.cellsOf t)) = xs[i]?) hf 1 33 1 rfl
  have hs : Try.prog.cellsOf 33 = 1 := by kernel_rfl
  rw [hs] at f0 f1
  obtain ⟨a0, e0, _, w0⟩ := DataW.trod_int Try.underlying33 (f0.trans (List.getElem?_eq_getElem (by omega)))
  obtain ⟨a1, e1, _, w1⟩ := DataW.trod_int Try.underlying33 (f1.trans (List.getElem?_eq_getElem (by omega)))
  refine ⟨a0, a1, ?_⟩
  match c, hc, e0, e1 with
  | [x, y], _, e0, e1 => simp at e0 e1; rw [e0, e1]
/-- A request's numbers are of their kinds. -/
def RqR (x : Rq) : Prop := I64 x.base ∧ I64 x.ttl ∧ 0 ≤ x.seats ∧ 0 ≤ x.cls
set_option maxRecDepth 100000 in
theorem trod_rq (n : Nat) (c : List Value) (y : DataW H × List MemPlace) (hc : c.length = 16) (h : DataW.trod enc Try.prog w base spare held n 37 c = some y) : ∃ z : Rq, RqR z ∧ c.toArray = rqE z := by
  obtain ⟨xs, m, _, _, _, hx, hf⟩ := DataW.trod_struct Try.underlying37 h
  have h3 : xs.length = 7 := hx
  have F := fun i t o => field_at (Q := fun i t o => DataW.trod enc Try.prog w base spare held m t ((c.drop o).take (Try.prog.cellsOf t)) = xs[i]?) hf i t o
  have f0 := F 0 31 0 rfl
  have f1 := F 1 35 8 rfl
  have f2 := F 2 35 10 rfl
  have f3 := F 3 5 12 rfl
  have f4 := F 4 5 13 rfl
  have f5 := F 5 3 14 rfl
  have f6 := F 6 3 15 rfl
  have s0 : Try.prog.cellsOf 31 = 8 := by kernel_rfl
  have s1 : Try.prog.cellsOf 35 = 2 := by kernel_rfl
  have s2 : Try.prog.cellsOf 5 = 1 := by kernel_rfl
  have s3 : Try.prog.cellsOf 3 = 1 := by kernel_rfl
  rw [s0] at f0
  rw [s1] at f1 f2
  rw [s2] at f3 f4
  rw [s3] at f5 f6
  obtain ⟨z0, e0⟩ := trod_id _ _ _ (f0.trans (List.getElem?_eq_getElem (by omega)))
  obtain ⟨a1, b1, e1⟩ := trod_pt _ _ _ (by rw [List.length_take, List.length_drop]; omega) (f1.trans (List.getElem?_eq_getElem (by omega)))
  obtain ⟨a2, b2, e2⟩ := trod_pt _ _ _ (by rw [List.length_take, List.length_drop]; omega) (f2.trans (List.getElem?_eq_getElem (by omega)))
  obtain ⟨a3, e3, _, w3⟩ := DataW.trod_int Try.underlying5 (f3.trans (List.getElem?_eq_getElem (by omega)))
  obtain ⟨a4, e4, _, w4⟩ := DataW.trod_int Try.underlying5 (f4.trans (List.getElem?_eq_getElem (by omega)))
  obtain ⟨a5, e5, _, w5⟩ := DataW.trod_int Try.underlying3 (f5.trans (List.getElem?_eq_getElem (by omega)))
  obtain ⟨a6, e6, _, w6⟩ := DataW.trod_int Try.underlying3 (f6.trans (List.getElem?_eq_getElem (by omega)))
  refine ⟨⟨z0, a1, b1, a2, b2, a3, a4, a5, a6⟩, ⟨bounds_i64 w5, bounds_i64 w6, (bounds_u8 w3).1, (bounds_u8 w4).1⟩, ?_⟩
  rw [List.drop_zero] at e0
  have d1 := cut_step (i := 8) e0 e1 rfl
  have d2 := cut_step (i := 10) d1 e2 rfl
  have d3 := cut_step (i := 12) d2 e3 rfl
  have d4 := cut_step (i := 13) d3 e4 rfl
  have d5 := cut_step (i := 14) d4 e5 rfl
  have d6 := cut_step (i := 15) d5 e6 rfl
  rw [List.take_of_length_le (by omega)] at d6
  rw [d6]
  apply Array.toList_inj.1
  simp [rqE]
/-- A step's numbers. -/
def OpR (o : ROp) : Prop := I64 o.kind ∧ I64 o.now ∧ RqR o.x
set_option maxRecDepth 100000 in
theorem trod_op (n : Nat) (c : List Value) (y : DataW H × List MemPlace) (hc : c.length = 28) (h : DataW.trod enc Try.prog w base spare held n 58 c = some y) : ∃ z : ROp, OpR z ∧ c.toArray = opE z := by
  obtain ⟨xs, m, _, _, _, hx, hf⟩ := DataW.trod_struct Try.underlying58 h
  have h3 : xs.length = 6 := hx
  have F := fun i t o => field_at (Q := fun i t o => DataW.trod enc Try.prog w base spare held m t ((c.drop o).take (Try.prog.cellsOf t)) = xs[i]?) hf i t o
  have f0 := F 0 3 0 rfl
  have f1 := F 1 3 1 rfl
  have f2 := F 2 3 2 rfl
  have f3 := F 3 4 3 rfl
  have f4 := F 4 37 4 rfl
  have f5 := F 5 31 20 rfl
  have s0 : Try.prog.cellsOf 31 = 8 := by kernel_rfl
  have s1 : Try.prog.cellsOf 37 = 16 := by kernel_rfl
  have s2 : Try.prog.cellsOf 4 = 1 := by kernel_rfl
  have s3 : Try.prog.cellsOf 3 = 1 := by kernel_rfl
  rw [s3] at f0 f1 f2
  rw [s2] at f3
  rw [s1] at f4
  rw [s0] at f5
  obtain ⟨a0, e0, _, w0⟩ := DataW.trod_int Try.underlying3 (f0.trans (List.getElem?_eq_getElem (by omega)))
  obtain ⟨a1, e1, _, w1⟩ := DataW.trod_int Try.underlying3 (f1.trans (List.getElem?_eq_getElem (by omega)))
  obtain ⟨a2, e2, _, w2⟩ := DataW.trod_int Try.underlying3 (f2.trans (List.getElem?_eq_getElem (by omega)))
  obtain ⟨a3, e3, _⟩ := DataW.trod_bool Try.underlying4 (f3.trans (List.getElem?_eq_getElem (by omega)))
  obtain ⟨z, w4, e4⟩ := trod_rq _ _ _ (by rw [List.length_take, List.length_drop]; omega) (f4.trans (List.getElem?_eq_getElem (by omega)))
  obtain ⟨z5, e5⟩ := trod_id _ _ _ (f5.trans (List.getElem?_eq_getElem (by omega)))
  refine ⟨⟨a0, a1, a2, a3, z, z5⟩, ⟨bounds_i64 w1, bounds_i64 w2, w4⟩, ?_⟩
  have e4' : (c.drop 4).take 16 = (rqE z).toList := by rw [← e4]
  rw [List.drop_zero] at e0
  have d1 := cut_step (i := 1) e0 e1 rfl
  have d2 := cut_step (i := 2) d1 e2 rfl
  have d3 := cut_step (i := 3) d2 e3 rfl
  have d4 := cut_step (i := 4) d3 e4' rfl
  have d5 := cut_step (i := 20) d4 e5 rfl
  rw [List.take_of_length_le (by omega)] at d5
  rw [d5]
  apply Array.toList_inj.1
  simp [opE]
set_option maxRecDepth 100000 in
theorem open_rops {r : Reach} {b0 : Nat} {v : Value} {d : DataW H} {ps : List MemPlace} {ts : List TypeId} {ds : List (DataW H)} {j : Nat} (hsz : (DataW.weightsEach Try.prog ts ds).all (· ≤ reachBytes) = true) (htj : ts[j]? = some 24) (hdj : ds[j]? = some d)
    (hval : Value.okWide Try.prog w r b0 24 v) (h : DataW.Trod enc Try.prog w base spare held 24 v d ps) :
    ∃ x : List ROp × Option Addr × Nat, ScAt w x.2.1 x.1 ∧ v = .slice x.2.1 x.1.length x.2.2 := by
  obtain ⟨a, len, cap, rfl⟩ := okWide_slice Try.underlying24 hval
  obtain ⟨fuel, hf⟩ := h
  obtain ⟨a', cap', l, hcs, hrows, hok, hle, hcap⟩ := open_rows (α := ROp) (s := 28) (f := opE) (R := OpR) Try.underlying24 (by kernel_rfl) (by omega) trod_op hf
  simp [Value.cells] at hcs
  obtain ⟨rfl, rfl, rfl⟩ := hcs
  refine ⟨(l, a, cap), ⟨hrows, fun o ho => ⟨(hok o ho).1, (hok o ho).2.1, (hok o ho).2.2.1, (hok o ho).2.2.2.1, (hok o ho).2.2.2.2.1, (hok o ho).2.2.2.2.2⟩, ?_⟩, rfl⟩
  rcases Go.Deep.open_slice Try.underlying24 hf with ⟨h1, _⟩ | ⟨a2, len2, cap2, m, n, D, Pl, h1, _, h2, _, hm, hx, _⟩
  · simp [Value.cells] at h1
    obtain ⟨_, h1, _⟩ := h1
    show l.length * 80 ≤ _
    rw [h1]; simp
  · simp [Value.cells] at h1
    obtain ⟨_, rfl, rfl⟩ := h1
    obtain ⟨hx, _⟩ := Prod.mk.inj hx
    rw [hx] at hdj
    have z := sized_slice hsz htj hdj Try.underlying24
    have hB : Try.prog.bytesOf 58 = 80 := by kernel_rfl
    rw [hB] at z
    simp only [List.length_map, List.length_range] at z
    have : l.length * 80 ≤ (l.length + (m - l.length)) * 80 := Nat.mul_le_mul_right _ (by omega)
    exact Nat.le_trans this z
set_option maxRecDepth 100000 in
theorem open_cfg {r : Reach} {b0 : Nat} {v : Value} {d : DataW H} {ps : List MemPlace} (hval : Value.okWide Try.prog w r b0 23 v) (h : DataW.Trod enc Try.prog w base spare held 23 v d ps) :
    ∃ c : Cf, (I64 c.q ∧ I64 c.d ∧ I64 c.w ∧ I64 c.ttl ∧ I64 c.b) ∧ v = .agg (cfE c) := by
  obtain ⟨cs, rfl, hcz⟩ := okWide_struct Try.underlying23 hval
  have hs5 : Try.prog.cellsOf 23 = 5 := by kernel_rfl
  rw [hs5] at hcz
  obtain ⟨fuel, hf⟩ := h
  obtain ⟨xs, m, _, hxd, _, hx, hff⟩ := DataW.trod_struct Try.underlying23 hf
  have h3 : xs.length = 5 := hx
  simp only [Value.cells] at hff
  have F := fun i t o => field_at (Q := fun i t o => DataW.trod enc Try.prog w base spare held m t ((cs.toList.drop o).take (Try.prog.cellsOf t)) = xs[i]?) hff i t o
  have f0 := F 0 3 0 rfl
  have f1 := F 1 3 1 rfl
  have f2 := F 2 3 2 rfl
  have f3 := F 3 3 3 rfl
  have f4 := F 4 3 4 rfl
  have hs : Try.prog.cellsOf 3 = 1 := by kernel_rfl
  rw [hs] at f0 f1 f2 f3 f4
  obtain ⟨a0, e0, _, w0⟩ := DataW.trod_int Try.underlying3 (f0.trans (List.getElem?_eq_getElem (by omega)))
  obtain ⟨a1, e1, _, w1⟩ := DataW.trod_int Try.underlying3 (f1.trans (List.getElem?_eq_getElem (by omega)))
  obtain ⟨a2, e2, _, w2⟩ := DataW.trod_int Try.underlying3 (f2.trans (List.getElem?_eq_getElem (by omega)))
  obtain ⟨a3, e3, _, w3⟩ := DataW.trod_int Try.underlying3 (f3.trans (List.getElem?_eq_getElem (by omega)))
  obtain ⟨a4, e4, _, w4⟩ := DataW.trod_int Try.underlying3 (f4.trans (List.getElem?_eq_getElem (by omega)))
  refine ⟨⟨a0, a1, a2, a3, a4⟩, ⟨bounds_i64 w0, bounds_i64 w1, bounds_i64 w2, bounds_i64 w3, bounds_i64 w4⟩, ?_⟩
  rw [List.drop_zero] at e0
  have d1 := cut_step (i := 1) e0 e1 rfl
  have d2 := cut_step (i := 2) d1 e2 rfl
  have d3 := cut_step (i := 3) d2 e3 rfl
  have d4 := cut_step (i := 4) d3 e4 rfl
  rw [List.take_of_length_le (by rw [Array.length_toList]; omega)] at d4
  congr 1
  apply Array.toList_inj.1
  rw [d4]
  simp [cfE]
end
end Go.Proofs.Ytkaalppmheikgaa

namespace Go.Proofs.Ytkaalppmheikgaa
open Go.ChangeShapes Go.WideShapes Go.ChangeAt Go.RowKit
open Go.ChangeMaps (open_string shut_string)
set_option linter.unusedVariables false

set_option maxRecDepth 100000 in
theorem ridersOnce_lifted (os : Os) (started : os.Started) (H : Type) (enc : TypeId × Value → H) :
    ReturnsInHanded {} Try.checked os 3 .any (Rows.ridersOnceSpec.pre6 enc Try.prog Try.f3 Rows.ridersOnceRow.domain false) (Rows.ridersOnceSpec.post enc Try.prog Try.f3 false true false false) := by
  refine returnsInHanded_of_change_sized (C := Try.checked) own started (by kernel_rfl) Try.func3
    (ChangeSpec.witness6 (enc := enc) (C := Try.checked) false ⟨#[], #[.agg #[.int .i64 0, .int .i64 0, .int .i64 0, .int .i64 0, .int .i64 0], .slice none 0 0], []⟩ 8 (by kernel_rfl) (by kernel_rfl) (by kernel_rfl) (by kernel_rfl)) ?_
  intro W base args ds gs before hval0 hW hcnd hsz0 _
  have hsz : (DataW.weightsEach Try.prog (Try.f3.params.toList ++ Rows.ridersOnceSpec.plain.varTypes Try.prog) (ds ++ gs)).all (· ≤ reachBytes) = true := hsz0
  have hval : ∀ (j : Nat) t v, Try.f3.params[j]? = some t → args[j]? = some v → Value.okWide Try.prog W .any base t v := hval0
  have hW' := hW
  obtain ⟨p, q, hA0, hV, rfl, hfz, hnd⟩ := hW
  have hA : DataW.TrodAll enc Try.prog W 0 (fun _ => true) true Try.f3.params.toList args.toList ds p := hA0
  rw [Try.params3] at hA hval
  obtain ⟨v0, vs0, d0, ds0, p0, q0, hargs, rfl, rfl, h0, r0⟩ := trodAll_cons hA
  obtain ⟨v1, vs1, d1, ds1, p1, q1, rfl, rfl, rfl, h1, r1⟩ := trodAll_cons r0
  obtain ⟨rfl, rfl, rfl⟩ := trodAll_nil r1
  obtain rfl : args = #[v0, v1] := by cases args; simp_all
  obtain ⟨rfl, rfl⟩ := trodVars_none hV
  have k0 := h0
  have lt0 : ∀ x ∈ p0, x.block < W.heap.size := by obtain ⟨m, hm⟩ := k0; exact DataW.trod_lt m _ _ _ hm
  have k1 := h1
  have lt1 : ∀ x ∈ p1, x.block < W.heap.size := by obtain ⟨m, hm⟩ := k1; exact DataW.trod_lt m _ _ _ hm
  obtain ⟨a0, w0, rfl⟩ := open_cfg (hval 0 23 v0 rfl rfl) h0
  obtain ⟨a1, w1, rfl⟩ := open_rops hsz (j := 1) rfl rfl (hval 1 24 v1 rfl rfl) h1
  clear hA0 hval0 hsz0 hsz
  refine (once_any a0 a1.1 a1.2.1 a1.2.2 W w1).mono fun e W' ⟨he, bel⟩ => ?_
  subst he
  exact ⟨_, rfl, _, _, _, [], _, [], hW', trodAll_mk1 (shut_bool Try.underlying4 _), (trodAll_cons_mk (Below.trod laidOut (by kernel_rfl) (of_decide_eq_true (by kernel_rfl)) k0 bel lt0) (trodAll_cons_mk (Below.trod laidOut (by kernel_rfl) (of_decide_eq_true (by kernel_rfl)) k1 bel lt1) trodAll_mk0)), rfl, bel.frame _, fun h => by cases h⟩

theorem ridersOnce_holds : Rows.RidersOnceSaid :=
  OpenClaim.holds_of_wide 3 Try.f3 rfl rfl rfl rfl rfl rfl rfl ⟨rfl, rfl, rfl, rfl, rfl⟩ rfl rfl rfl rfl rfl (by kernel_rfl) Try.func3 (by kernel_rfl)
    (of_decide_eq_true (by kernel_rfl)) (by unfold Func.isWrapper; first | (rw [if_pos (by decide +kernel)]; kernel_rfl) | (rw [if_neg (by decide +kernel)]; exact ⟨rfl, rfl⟩))
    (fun os started H enc _ => ridersOnce_lifted os started H enc)

#print axioms ridersOnce_holds
end Go.Proofs.Ytkaalppmheikgaa
