/- The walk of least. -/
import Derived.Test.YtmddhjoomlhbcaaAsCn
import Derived.WalkMore
namespace Go.Proofs.Ytmddhjoomlhbcaa
open Go.RowKit

theorem LsAt.start {w : World} {tp R C : Nat} {T : List Int} (h : TblAt w tp R C T) (y z : List Int) (v : Value)
    (hv : v = .func (.func 46) #[] #[.pointer (some ⟨w.heap.size + 1 + 1 + 1 + 1 + 1, 0, none⟩), .pointer (some ⟨w.heap.size + 1 + 1 + 1 + 1, 0, none⟩), .pointer (some ⟨w.heap.size, 0, none⟩), .pointer (some ⟨w.heap.size + 1, 0, none⟩), .pointer (some ⟨w.heap.size + 1 + 1, 0, none⟩)]) :
    LsAt w (((((((w.alloc (.cells #[.pointer (some ⟨tp, 0, none⟩)] 61)).alloc (.cells (ints y) 64)).alloc (.cells (ints z) 64)).alloc (.cells (ints (List.replicate 64 0)) 64)).alloc (.cells (bls (List.replicate 64 false)) 63)).alloc (.cells #[.int .i64 0] 3)).alloc (.cells #[v] 79))
      tp w.heap.size (w.heap.size + 1) (w.heap.size + 1 + 1) (w.heap.size + 1 + 1 + 1) (w.heap.size + 1 + 1 + 1 + 1) (w.heap.size + 1 + 1 + 1 + 1 + 1) (w.heap.size + 1 + 1 + 1 + 1 + 1 + 1) R C T y z (List.replicate 64 0) (List.replicate 64 false) 0 := by
  subst hv
  have htp := heap_lt h.row
  have key : ∀ (a : World) (o : Obj) (n : Nat), a.heap.size = n → (a.alloc o).heap.size = n + 1 ∧ (a.alloc o).heap[n]? = some o ∧ Below a.heap.size a (a.alloc o) := fun a o n h => ⟨by rw [alloc_size, h], by rw [← h]; exact heap_alloc_new _ _, (Below.refl _ _).alloc (Nat.le_refl _) _⟩
  obtain ⟨s1, n1, b1⟩ := key w (.cells #[.pointer (some ⟨tp, 0, none⟩)] 61) _ rfl
  generalize w.alloc (.cells #[.pointer (some ⟨tp, 0, none⟩)] 61) = a1 at *
  obtain ⟨s2, n2, b2⟩ := key a1 (.cells (ints y) 64) _ s1
  generalize a1.alloc (.cells (ints y) 64) = a2 at *
  obtain ⟨s3, n3, b3⟩ := key a2 (.cells (ints z) 64) _ s2
  generalize a2.alloc (.cells (ints z) 64) = a3 at *
  obtain ⟨s4, n4, b4⟩ := key a3 (.cells (ints (List.replicate 64 0)) 64) _ s3
  generalize a3.alloc (.cells (ints (List.replicate 64 0)) 64) = a4 at *
  obtain ⟨s5, n5, b5⟩ := key a4 (.cells (bls (List.replicate 64 false)) 63) _ s4
  generalize a4.alloc (.cells (bls (List.replicate 64 false)) 63) = a5 at *
  obtain ⟨s6, n6, b6⟩ := key a5 (.cells #[.int .i64 0] 3) _ s5
  generalize a5.alloc (.cells #[.int .i64 0] 3) = a6 at *
  obtain ⟨s7, n7, b7⟩ := key a6 (.cells #[.func (.func 46) #[] #[.pointer (some ⟨w.heap.size + 1 + 1 + 1 + 1 + 1, 0, none⟩), .pointer (some ⟨w.heap.size + 1 + 1 + 1 + 1, 0, none⟩), .pointer (some ⟨w.heap.size, 0, none⟩), .pointer (some ⟨w.heap.size + 1, 0, none⟩), .pointer (some ⟨w.heap.size + 1 + 1, 0, none⟩)]] 79) _ s6
  generalize a6.alloc (.cells #[.func (.func 46) #[] #[.pointer (some ⟨w.heap.size + 1 + 1 + 1 + 1 + 1, 0, none⟩), .pointer (some ⟨w.heap.size + 1 + 1 + 1 + 1, 0, none⟩), .pointer (some ⟨w.heap.size, 0, none⟩), .pointer (some ⟨w.heap.size + 1, 0, none⟩), .pointer (some ⟨w.heap.size + 1 + 1, 0, none⟩)]] 79) = a7 at *
  have k6 := b6.trans (b7.mono b6.size)
  have k5 := b5.trans (k6.mono b5.size)
  have k4 := b4.trans (k5.mono b4.size)
  have k3 := b3.trans (k4.mono b3.size)
  have k2 := b2.trans (k3.mono b2.size)
  have k1 := b1.trans (k2.mono b1.size)
  exact ⟨h.kept k1, below_keep k2 n1, below_keep k3 n2, below_keep k4 n3, below_keep k5 n4, below_keep k6 n5, below_keep b7 n6, n7, k1, ⟨htp, Nat.le_refl _, by omega, by omega, by omega, by omega, by omega, by omega⟩⟩

set_option maxRecDepth 100000 in
set_option maxHeartbeats 8000000 in
theorem least_any (tp R C : Nat) (T y z : List Int) (hR : R ≤ 64) (hC : C ≤ 64) (hW : WOk (wOf T)) (hout : ∀ r c, ¬ (r < R ∧ c < C) → wOf T r c = 0) (ly : y.length = 64) (lz : z.length = 64) (hyb : ∀ r, r < 64 → 0 ≤ getI y r ∧ getI y r ≤ 1099513724929) (hzb : ∀ c, c < 64 → 0 ≤ getI z c ∧ getI z c ≤ 150000000000000) (he : Ends (wOf T) R C (getI y) (getI z)) (w : World) (ht : TblAt w tp R C T) :
    Calls Try.prog 42 #[.pointer (some ⟨tp, 0, none⟩), .agg (ints y), .agg (ints z)] w fun e w' => ∃ tt, e = .returned (.agg (ints tt)) ∧ tt.length = 64 ∧ BestW (wOf T) R C (upTo R tt) (getI y) (getI z) ∧ (∀ x, x < R → getI tt x = -1 ∨ ∃ c : Nat, getI tt x = c ∧ c < C) ∧ Below w.heap.size w w' := by
  have HYZ : Hid (∀ taken : List Bool, taken.length = 64 → YzOk y z taken) := hid (fun taken ht => ⟨ly, lz, ht, hyb, hzb⟩)
  have HL0 := hid (LsAt.start ht y z _ rfl)
  have HW := hid hW
  have HO := hid hout
  have HE := hid he
  have hst := fun (W : World) (a : Addr) f b c => run_store Try.prog W a (Value.func f b c) .plain rfl
  clear ht hW hout he ly lz hyb hzb
  go_enter Try.func42, Try.ntmps42
  go_upto_region 1 with fail
  go_step3
  go_upto_region 4 with fail
  refine at_world (fun w1 => LsAt w w1 tp w.heap.size (w.heap.size + 1) (w.heap.size + 1 + 1) (w.heap.size + 1 + 1 + 1) (w.heap.size + 1 + 1 + 1 + 1) (w.heap.size + 1 + 1 + 1 + 1 + 1) (w.heap.size + 1 + 1 + 1 + 1 + 1 + 1) R C T y z (List.replicate 64 0) (List.replicate 64 false) 0) _ rfl HL0.out ?_
  intro w1 hl1
  have HL := hid hl1
  clear hl1 HL0 hst
  generalize w.heap.size + 1 + 1 + 1 + 1 + 1 + 1 = fb at *
  generalize w.heap.size + 1 + 1 + 1 + 1 + 1 = db at *
  generalize w.heap.size + 1 + 1 + 1 + 1 = kb at *
  generalize w.heap.size + 1 + 1 + 1 = rb at *
  generalize w.heap.size + 1 + 1 = zb at *
  generalize w.heap.size + 1 = yb at *
  go_wp2
  go_step3
  go_wp2
  go_loopw [11] (fun r wr => ∃ (k done : Nat) (tt : List Int) (taken : List Bool), k ≤ R ∧ r = .int .i64 k ∧ Hid (LsAt w wr tp w.heap.size yb zb rb kb db fb R C T y z tt taken done) ∧ Hid (LI (wOf T) R C y z k tt taken)) (fun r _ => R - (intOf r).toNat)
  case atStart => exact ⟨0, 0, _, _, by omega, rfl, HL, hid (LI.start HE.out (by simp))⟩
  case round =>
    clear HL
    obtain ⟨r, done, tt, taken, hr, rfl, HL, HLI⟩ := hrel
    have c1 := row_cell HL.out.pbox 0 _ rfl
    have c2 := HL.out.tbl.rows
    by_cases hlt : r < R
    · have hri : (r : Int) < (R : Int) := by omega
      have hr64i : (r : Int) < 64 := by omega
      have hr64 : r < 64 := by omega
      have HNO : Hid (∀ c', c' < 0 → ¬ Goes (wOf T) R C y z r tt c') := hid (fun c' h => by omega)
      go_wp2
      clear c1 c2
      go_loopw [12] (fun c wr => ∃ k done : Nat, k ≤ C ∧ c = .int .i64 k ∧ Hid (LsAt w wr tp w.heap.size yb zb rb kb db fb R C T y z tt taken done) ∧ Hid (∀ c', c' < k → ¬ Goes (wOf T) R C y z r tt c')) (fun c _ => C - (intOf c).toNat)
      case atStart => exact ⟨0, done, by omega, rfl, HL, HNO⟩
      case round =>
        clear HL HNO
        obtain ⟨c, done, hc, rfl, HL, HNO⟩ := hrel
        have c1 := row_cell HL.out.pbox 0 _ rfl
        have c2 := HL.out.tbl.cols
        by_cases hcC : c < C
        · have hci : (c : Int) < (C : Int) := by omega
          have hc64i : (c : Int) < 64 := by omega
          have hc64 : c < 64 := by omega
          have c3 := row_cell HL.out.done 0 _ rfl
          have f3 := free_row HL.out.done 0
          have HD := hid (HL.out.setDone r)
          go_upto_region 12 with fail
          generalize wr.setCell ⟨db, 0, none⟩ (.int .i64 (r : Int)) = w2 at *
          clear c1 c2 c3 f3 HL
          have CT := hid (tight_any HW.out (HYZ.out taken HLI.out.lt) w2 HD.out r c hr64 hc64)
          have c4 := row_cell HD.out.fbox 0 _ rfl
          cases htg : tg (wOf T) y z r taken r c with
          | false =>
            have HTG := hid htg
            have HNO2 : Hid (∀ c', c' < c + 1 → ¬ Goes (wOf T) R C y z r tt c') := hid (fun c' h => by
              by_cases e : c' = c
              · subst e; exact HLI.out.untight htg
              · exact HNO.out c' (by omega))
            clear htg
            go_wp2_with (go_at_call 46; refine CT.out.mono ?_; rintro e w9 ⟨rfl, m9, rfl⟩; rw [HTG.out])
            go_roundw
            case rel => exact ⟨c + 1, r, by omega, by go_num, hid (HD.out.drewN m9), HNO2⟩
            case measure => simp [intOf]; omega
          | true =>
            have HTG := hid htg
            have HCAN := hid (HLI.out.can hR hC HO.out htg)
            have HTK : Hid (getB taken c = false) := hid (by
              have := htg
              unfold tg at this
              simp only [Bool.and_eq_true, decide_eq_true_eq, Bool.not_eq_true'] at this
              exact this.2.1)
            clear htg
            go_upto_region 13 with (go_at_call 46; refine CT.out.mono ?_; rintro e w9 ⟨rfl, m9, rfl⟩; rw [HTG.out])
            have HX := hid (HD.out.drewN m9)
            clear HD c4 CT
            generalize w2.drewN m9 = w3 at *
            have c5 := row_cell HX.out.done 0 _ rfl
            have f5 := free_row HX.out.done 0
            have c6 := HX.out.taken.cell (k := c) (by rw [HLI.out.lt]; exact hc64)
            have f6 := free_row HX.out.taken c
            have m1 : db ≠ kb := by have := HX.out.ord; omega
            have m2 : kb ≠ db := Ne.symm m1
            have HY := hid ((HX.out.setDone (r + 1)).setTaken c true)
            rw [show ((r + 1 : Nat) : Int) = (r : Int) + 1 by omega] at HY
            go_upto_region 14 with fail
            generalize (w3.setCell ⟨db, 0, none⟩ (.int .i64 ((r : Int) + 1))).setCell ⟨kb, c, none⟩ (.bool true) = w4 at *
            clear c5 f5 c6 f6 m1 m2 HX
            have CC := hid (can_any HW.out (HYZ.out (taken.set c true) (by simp [HLI.out.lt])) hR hC (by omega) w4 HY.out)
            cases hcan : canF (wOf T) R C y z (r + 1) (taken.set c true) with
            | true =>
              have HG := hid (HCAN.out.1 hcan)
              rw [hcan] at CC
              clear hcan HCAN
              have HLI2 := hid (HLI.out.take hr64 hcC hC HG.out HNO.out)
              go_upto_region 15 with (go_at_call 47; refine CC.out.mono ?_; rintro e w9 ⟨rfl, hb9⟩; have HZ := hid (HY.out.kept hb9); clear hb9)
              have c7 := HZ.out.res.cellI (k := r) (by rw [HLI.out.len]; exact hr64)
              have f7 := free_row HZ.out.res r
              have HZ2 := hid (HZ.out.setRes r (c : Int))
              go_wp2
              go_roundw
              case rel => exact ⟨r + 1, r + 1, _, _, by omega, by go_num, HZ2, HLI2⟩
              case measure => simp [intOf]; omega
            | false =>
              rw [hcan] at CC
              have HNO2 : Hid (∀ c', c' < c + 1 → ¬ Goes (wOf T) R C y z r tt c') := hid (fun c' h hg => by
                by_cases e : c' = c
                · subst e; rw [HCAN.out.2 hg] at hcan; cases hcan
                · exact HNO.out c' (by omega) hg)
              clear hcan HCAN
              go_upto_region 16 with (go_at_call 47; refine CC.out.mono ?_; rintro e w9 ⟨rfl, hb9⟩; have HZ := hid (HY.out.kept hb9); clear hb9)
              have c7 := HZ.out.taken.cell (k := c) (by simp [HLI.out.lt]; exact hc64)
              have f7 := free_row HZ.out.taken c
              have HZ2 := hid (HZ.out.setTaken c false)
              have hback : (taken.set c true).set c false = taken := by
                apply List.ext_getElem?
                intro i
                have hl := HLI.out.lt
                have h0 := HTK.out
                rw [List.set_set, List.getElem?_set]
                by_cases e : c = i
                · subst e
                  unfold getB at h0
                  rw [if_pos rfl, if_pos (by omega), List.getElem?_eq_getElem (by omega)]
                  rw [List.getElem?_eq_getElem (by omega)] at h0
                  simp at h0
                  rw [h0]
                · rw [if_neg e]
              rw [hback] at HZ2
              clear hback
              go_wp2
              go_roundw
              case rel => exact ⟨c + 1, r + 1, by omega, by go_num, HZ2, HNO2⟩
              case measure => simp [intOf]; omega
        · obtain rfl : C = c := by omega
          have hci : ¬ ((C : Int) < (C : Int)) := by omega
          have HLI2 := hid (HLI.out.none hr64 HNO.out)
          have c5 := row_cell HL.out.done 0 _ rfl
          have f5 := free_row HL.out.done 0
          have c6 := HL.out.res.cellI (k := r) (by rw [HLI.out.len]; exact hr64)
          have f6 := free_row HL.out.res r
          have m1 : db ≠ rb := by have := HL.out.ord; omega
          have m2 : rb ≠ db := Ne.symm m1
          have HY := hid ((HL.out.setDone (r + 1)).setRes r (-1))
          rw [show ((r + 1 : Nat) : Int) = (r : Int) + 1 by omega] at HY
          clear hc hcC
          go_wp2
          go_roundw
          case rel => exact ⟨r + 1, r + 1, _, _, by omega, by go_num, HY, HLI2⟩
          case measure => simp [intOf]; omega
    · obtain rfl : R = r := by omega
      have hri : ¬ ((R : Int) < (R : Int)) := by omega
      have HB := hid (HLI.out.done HE.out)
      have HVAL := hid HLI.out.val
      have HRES := hid HL.out.res
      have HIN : Hid ((Try.prog.info? 64).map (·.size) = some (ints tt).size) := hid (by rw [ints_size, HLI.out.len]; exact info_64)
      clear hr hlt
      go_wp2_with (first | refine wpList_load_w rfl 64 _ rfl _ rfl _ _ _ _ HRES.out Try.underlying64 rfl HIN.out ?_ | refine wpList_store_row rfl 64 _ _ rfl _ rfl _ rfl _ _ HRES.out rfl (ints_one _) HIN.out _ (setRow_self _ _ _ _ _ HRES.out) ?_)
      refine bodyPost_ret (results_cell_row rfl _ _ _ 64 _ _ _ rfl HRES.out Try.underlying64 rfl HIN.out) rfl ⟨tt, rfl, HLI.out.len, HB.out, HVAL.out, HL.out.below⟩
end Go.Proofs.Ytmddhjoomlhbcaa
