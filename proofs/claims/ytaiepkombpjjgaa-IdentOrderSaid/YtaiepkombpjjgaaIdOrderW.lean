/- The walk of IdentOrder: it returns true, and lays new blocks only. -/
import Derived.Test.YtaiepkombpjjgaaIdAlive
import Derived.Test.YtaiepkombpjjgaaIdOrdPl
namespace Go.Proofs.Ytaiepkombpjjgaa
open Go.RowKit

theorem cmpN_lt {x y : Int} (h : x < y) : cmpN x y = -1 := if_pos h
theorem cmpN_gt {x y : Int} (h : y < x) : cmpN x y = 1 := by unfold cmpN; rw [if_neg (by omega), if_pos h]
theorem cmpN_self (x : Int) : cmpN x x = 0 := by unfold cmpN; rw [if_neg (by omega), if_neg (by omega)]
theorem num_zs8 : num (zs 8) = 0 := by decide
theorem max_list : (strOfNums (showL lastL)).toList = [102, 102, 102, 102, 102, 102, 102, 102, 102, 102, 102, 102, 102, 102, 102, 102] := by rw [strOf_list]; decide
theorem is_last (a : List Int) (ha : B8 a) (h : num a = 18446744073709551615) : a = lastL := num_inj8 ha lastL_B8 (by rw [h]; decide)

set_option maxRecDepth 100000 in
set_option maxHeartbeats 2000000 in
theorem order_lt (a : List Int) (ha : B8 a) (b : List Int) (hb : B8 b) (hc : num a < num b) (w : World) :
    Calls Try.prog 6 #[.agg (bys a), .agg (bys b)] w fun e w' => e = .returned (.bool true) ∧ Below w.heap.size w w' := by
  obtain ⟨na0, na1⟩ := num_bd8 ha
  have IA := hid (info_id a ha)
  have LA := hid ha.1
  obtain ⟨nb0, nb1⟩ := num_bd8 hb
  have IB := hid (info_id b hb)
  have K0 := hid (fun w => alive_any w)
  have K1 := hid (fun w => number_any a ha w)
  have K2 := hid (fun w => of_any (num a) na0 na1 w)
  have R2 := hid (ofK_num ha)
  have K8 := hid (fun w => show_any a ha w)
  have e1 : ∀ w, (Op.equalIn 10000 23 (.agg (bys a)) (.agg (bys a))).run Try.prog w = .ok true w := fun w => by rw [eq_ids a a ha ha w]; simp
  have K3 := hid (fun w => number_any b hb w)
  have K4 := hid (fun w => of_any (num b) nb0 nb1 w)
  have R4 := hid (ofK_num hb)
  have K6 := hid (fun w => cmp_any a b ha hb w)
  have K7 := hid (fun w => cmp_any b a hb ha w)
  have K9 := hid (fun w => show_any b hb w)
  have N1 : Hid (cmpN (num a) (num b) = -1) := hid (cmpN_lt hc)
  have N2 : Hid (cmpN (num b) (num a) = 1) := hid (cmpN_gt hc)
  have bl : Op.bytesLess (strOfNums (showL a)).toList (strOfNums (showL b)).toList = true := by rw [less_ids a b ha hb]; simp; omega
  have ne : a ≠ b := fun h => by rw [h] at hc; omega
  have se : ((strOfNums (showL a)).toList == (strOfNums (showL b)).toList) = false := by rw [beq_eq_false_iff_ne]; exact fun h => ne ((same_ids a b ha hb).1 h)
  have se2 : ¬ (strOfNums (showL a)).toList = (strOfNums (showL b)).toList := fun h => ne ((same_ids a b ha hb).1 h)
  have e2 : ∀ w, (Op.equalIn 10000 23 (.agg (bys a)) (.agg (bys b))).run Try.prog w = .ok false w := fun w => by rw [eq_ids a b ha hb w, decide_eq_false ne]
  clear ne
  have hnc : ¬ num b < num a := by omega
  have hnd : decide (num b < num a) = false := decide_eq_false hnc
  have KN := hid (fun w => next_any a ha w)
  have NX1 := hid (next_first a)
  have NX2 := hid (next_other a)
  have HL := hid (is_last a ha)
  have HO := hid (ofK_B8 (num a + 1))
  have HA := hid ha
  have HB := hid hb
  clear hb
  clear ha
  go_enter Try.func6, Try.ntmps6
  go_wp2
  refine wp_region_bw (by kernel_rfl) (by kernel_rfl) ?_
  (go_big_quiet_want; go_big_quiet_op; go_big_quiet_call ((go_at_call 22; exact Calls.bw (K0.out _))))
  iterate 2 (first | go_big_quiet_step (fail) | (go_big_quiet_want; go_simp; go_big_quiet_on))
  (go_big_quiet_want; refine quiet_load_row 23 _ rfl _ rfl _ _ _ _ (heap2_old _ _ _ _) Try.underlying23 rfl (IA.out) ?_; simp only [Act.put, List.setIfInBounds_toArray, List.set_cons_zero, List.set_cons_succ]; go_big_quiet_on)
  (go_big_quiet_want; go_big_quiet_op; go_big_quiet_call ((go_at_call 14; exact Calls.bw (K1.out _))))
  (go_big_quiet_want; go_big_quiet_op; go_big_quiet_call ((go_at_call 12; exact Calls.bw (K2.out _))))
  rw [R2.out]
  (go_big_quiet_want; refine quiet_load_row 23 _ rfl _ rfl _ _ _ _ (heap2_old _ _ _ _) Try.underlying23 rfl (IA.out) ?_; simp only [Act.put, List.setIfInBounds_toArray, List.set_cons_zero, List.set_cons_succ]; go_big_quiet_on)
  iterate 3 (first | go_big_quiet_step (fail) | (go_big_quiet_want; go_simp; go_big_quiet_on))
  (go_big_quiet_want; refine quiet_load_row 23 _ rfl _ rfl _ _ _ _ (heap2_new _ _ _ _) Try.underlying23 rfl (IB.out) ?_; simp only [Act.put, List.setIfInBounds_toArray, List.set_cons_zero, List.set_cons_succ]; go_big_quiet_on)
  (go_big_quiet_want; go_big_quiet_op; go_big_quiet_call ((go_at_call 14; exact Calls.bw (K3.out _))))
  (go_big_quiet_want; go_big_quiet_op; go_big_quiet_call ((go_at_call 12; exact Calls.bw (K4.out _))))
  rw [R4.out]
  (go_big_quiet_want; go_big_quiet_op; go_big_quiet_call ((go_at_call 14; exact Calls.bw (K3.out _))))
  (go_big_quiet_want; refine quiet_load_row 23 _ rfl _ rfl _ _ _ _ (heap2_new _ _ _ _) Try.underlying23 rfl (IB.out) ?_; simp only [Act.put, List.setIfInBounds_toArray, List.set_cons_zero, List.set_cons_succ]; go_big_quiet_on)
  (go_big_quiet_want; go_big_quiet_op; go_big_quiet_call ((go_at_call 14; exact Calls.bw (K3.out _))))
  iterate 2 (first | go_big_quiet_step (fail) | (go_big_quiet_want; go_simp; go_big_quiet_on))
  refine wpQuiet_nil ?_; rintro w' ⟨X, rfl⟩
  have HA1 := hid (below_keep X.2 (heap2_old _ _ _ _))
  have HB1 := hid (below_keep X.2 (heap2_new _ _ _ _))
  have HW1 : Hid (Below w.heap.size w X.1) := hid ((((Below.refl _ _).alloc (Nat.le_refl _) _).alloc (by simp) _).trans (X.2.mono (by simp; omega)))
  generalize X.1 = w1 at *
  clear X
  go_wp2_with (first | (refine wpList_load_w rfl 23 _ rfl _ rfl _ _ _ _ (HA1.out) Try.underlying23 rfl (IA.out) ?_) | (refine wpList_load_w rfl 23 _ rfl _ rfl _ _ _ _ (HB1.out) Try.underlying23 rfl (IB.out) ?_))
  refine (K6.out _).mono ?_
  rw [N1.out]
  rintro e w2 ⟨rfl, hb2⟩
  have HA2 := hid (below_keep hb2 HA1.out)
  have HB2 := hid (below_keep hb2 HB1.out)
  have HW2 : Hid (Below w.heap.size w w2) := hid (HW1.out.trans (hb2.mono HW1.out.size))
  clear hb2 HA1 HB1 HW1
  go_wp2_with (first | (refine wpList_load_w rfl 23 _ rfl _ rfl _ _ _ _ (HA2.out) Try.underlying23 rfl (IA.out) ?_))
  refine (K1.out _).mono ?_
  rintro e w3 ⟨rfl, hb3⟩
  have HA3 := hid (below_keep hb3 HA2.out)
  have HB3 := hid (below_keep hb3 HB2.out)
  have HW3 : Hid (Below w.heap.size w w3) := hid (HW2.out.trans (hb3.mono HW2.out.size))
  clear hb3 HA2 HB2 HW2
  go_wp2_with (first | (refine wpList_load_w rfl 23 _ rfl _ rfl _ _ _ _ (HB3.out) Try.underlying23 rfl (IB.out) ?_))
  refine (K3.out _).mono ?_
  rintro e w4 ⟨rfl, hb4⟩
  have HA4 := hid (below_keep hb4 HA3.out)
  have HB4 := hid (below_keep hb4 HB3.out)
  have HW4 : Hid (Below w.heap.size w w4) := hid (HW3.out.trans (hb4.mono HW3.out.size))
  clear hb4 HA3 HB3 HW3
  go_wp2_with (first | (refine wpList_load_w rfl 23 _ rfl _ rfl _ _ _ _ (HA4.out) Try.underlying23 rfl (IA.out) ?_))
  refine (K8.out _).mono ?_
  rintro e w5 ⟨rfl, hb5⟩
  have HA5 := hid (below_keep hb5 HA4.out)
  have HB5 := hid (below_keep hb5 HB4.out)
  have HW5 : Hid (Below w.heap.size w w5) := hid (HW4.out.trans (hb5.mono HW4.out.size))
  clear hb5 HA4 HB4 HW4
  go_wp2_with (first | (refine wpList_load_w rfl 23 _ rfl _ rfl _ _ _ _ (HB5.out) Try.underlying23 rfl (IB.out) ?_))
  refine (K9.out _).mono ?_
  rintro e w6 ⟨rfl, hb6⟩
  have HA6 := hid (below_keep hb6 HA5.out)
  have HB6 := hid (below_keep hb6 HB5.out)
  have HW6 : Hid (Below w.heap.size w w6) := hid (HW5.out.trans (hb6.mono HW5.out.size))
  clear hb6 HA5 HB5 HW5
  go_wp2_with (first | (refine wpList_load_w rfl 23 _ rfl _ rfl _ _ _ _ (HA6.out) Try.underlying23 rfl (IA.out) ?_) | (refine wpList_load_w rfl 23 _ rfl _ rfl _ _ _ _ (HB6.out) Try.underlying23 rfl (IB.out) ?_))
  refine (K7.out _).mono ?_
  rw [N2.out]
  rintro e w7 ⟨rfl, hb7⟩
  have HA7 := hid (below_keep hb7 HA6.out)
  have HB7 := hid (below_keep hb7 HB6.out)
  have HW7 : Hid (Below w.heap.size w w7) := hid (HW6.out.trans (hb7.mono HW6.out.size))
  clear hb7 HA6 HB6 HW6
  go_wp2_with (refine wpList_load_w rfl 23 _ rfl _ rfl _ _ _ _ (HA7.out) Try.underlying23 rfl (IA.out) ?_)
  refine (KN.out _).mono ?_
  have hm : num a ≠ 18446744073709551615 := by omega
  have hm2 : num a + 1 < 18446744073709551616 := by omega
  rw [NX2.out hm]
  have IN := hid (info_id _ HO.out)
  have LN := hid HO.out.1
  have hnn : num (ofK 8 (num a + 1)) = num a + 1 := num_ofK8 _ (by omega) hm2
  have M1 : Hid (cmpN (num a) (num (ofK 8 (num a + 1))) = -1) := hid (cmpN_lt (by rw [hnn]; omega))
  have KC := hid (fun w => cmp_any a _ HA.out HO.out w)
  have KD := hid (fun w => cmp_any _ b HO.out HB.out w)
  obtain ⟨v, hv, hv0⟩ : ∃ v, cmpN (num (ofK 8 (num a + 1))) (num b) = v ∧ v ≤ 0 := ⟨_, rfl, by rw [hnn]; unfold cmpN; split; omega; rw [if_neg (by omega)]; exact Int.le_refl _⟩
  have HV := hid hv
  clear hv
  clear hnn hm
  generalize ofK 8 (num a + 1) = nx at *
  rintro e w8 ⟨rfl, hb8⟩
  have HA8 := hid (below_keep hb8 HA7.out)
  have HB8 := hid (below_keep hb8 HB7.out)
  have HW8 : Hid (Below w.heap.size w w8) := hid (HW7.out.trans (hb8.mono HW7.out.size))
  clear hb8 HA7 HB7 HW7
  have HW9 : Hid (Below w.heap.size w (w8.alloc (.cells (bys (nx)) 23))) := hid (HW8.out.alloc HW8.out.size _)
  go_wp2_with (first | (refine wpList_store_row rfl 23 _ _ rfl _ rfl _ rfl _ _ (heap_alloc_new _ _) (by rw [bys_size, LN.out]; rfl) (bys_one _) (IN.out) _ (setRow_alloc _ _ _ _) ?_) | (refine wpList_load_w rfl 23 _ rfl _ rfl _ _ _ _ (heap_alloc_new _ _) Try.underlying23 rfl (IN.out) ?_) | (refine wpList_load_w rfl 23 _ rfl _ rfl _ _ _ _ (alloc_keep HA8.out _) Try.underlying23 rfl (IA.out) ?_))
  refine (KC.out _).mono ?_
  rw [M1.out]
  rintro e w9 ⟨rfl, hb9⟩
  have HX9 := hid (below_keep hb9 (heap_alloc_new w8 (.cells (bys nx) 23)))
  have HB9 := hid (below_keep hb9 (alloc_keep HB8.out _))
  have HW10 : Hid (Below w.heap.size w w9) := hid (HW9.out.trans (hb9.mono HW9.out.size))
  clear hb9
  go_wp2_with (first | (refine wpList_load_w rfl 23 _ rfl _ rfl _ _ _ _ (HX9.out) Try.underlying23 rfl (IN.out) ?_) | (refine wpList_load_w rfl 23 _ rfl _ rfl _ _ _ _ (HB9.out) Try.underlying23 rfl (IB.out) ?_))
  refine (KD.out _).mono ?_
  rw [HV.out]
  rintro e w10 ⟨rfl, hb10⟩
  have HW11 : Hid (Below w.heap.size w w10) := hid (HW10.out.trans (hb10.mono HW10.out.size))
  clear hb10
  go_wp2
  go_ret
  exact ⟨rfl, HW11.out⟩

set_option maxRecDepth 100000 in
set_option maxHeartbeats 2000000 in
theorem order_eq (a : List Int) (ha : B8 a) (hc : 0 ≤ num a) (w : World) :
    Calls Try.prog 6 #[.agg (bys a), .agg (bys a)] w fun e w' => e = .returned (.bool true) ∧ Below w.heap.size w w' := by
  obtain ⟨na0, na1⟩ := num_bd8 ha
  have IA := hid (info_id a ha)
  have LA := hid ha.1
  have K0 := hid (fun w => alive_any w)
  have K1 := hid (fun w => number_any a ha w)
  have K2 := hid (fun w => of_any (num a) na0 na1 w)
  have R2 := hid (ofK_num ha)
  have K8 := hid (fun w => show_any a ha w)
  have e1 : ∀ w, (Op.equalIn 10000 23 (.agg (bys a)) (.agg (bys a))).run Try.prog w = .ok true w := fun w => by rw [eq_ids a a ha ha w]; simp
  have K6 := hid (fun w => cmp_any a a ha ha w)
  have N1 : Hid (cmpN (num a) (num a) = 0) := hid (cmpN_self _)
  have N2 : Hid (cmpN (num a) (num a) = 0) := hid (cmpN_self _)
  have bl : Op.bytesLess (strOfNums (showL a)).toList (strOfNums (showL a)).toList = false := by rw [less_ids a a ha ha]; simp
  have KN := hid (fun w => next_any a ha w)
  have NX1 := hid (next_first a)
  have NX2 := hid (next_other a)
  have HL := hid (is_last a ha)
  have HO := hid (ofK_B8 (num a + 1))
  have HA := hid ha
  clear ha
  go_enter Try.func6, Try.ntmps6
  go_wp2
  refine wp_region_bw (by kernel_rfl) (by kernel_rfl) ?_
  (go_big_quiet_want; go_big_quiet_op; go_big_quiet_call ((go_at_call 22; exact Calls.bw (K0.out _))))
  iterate 2 (first | go_big_quiet_step (fail) | (go_big_quiet_want; go_simp; go_big_quiet_on))
  (go_big_quiet_want; refine quiet_load_row 23 _ rfl _ rfl _ _ _ _ (heap2_old _ _ _ _) Try.underlying23 rfl (IA.out) ?_; simp only [Act.put, List.setIfInBounds_toArray, List.set_cons_zero, List.set_cons_succ]; go_big_quiet_on)
  (go_big_quiet_want; go_big_quiet_op; go_big_quiet_call ((go_at_call 14; exact Calls.bw (K1.out _))))
  (go_big_quiet_want; go_big_quiet_op; go_big_quiet_call ((go_at_call 12; exact Calls.bw (K2.out _))))
  rw [R2.out]
  (go_big_quiet_want; refine quiet_load_row 23 _ rfl _ rfl _ _ _ _ (heap2_old _ _ _ _) Try.underlying23 rfl (IA.out) ?_; simp only [Act.put, List.setIfInBounds_toArray, List.set_cons_zero, List.set_cons_succ]; go_big_quiet_on)
  iterate 3 (first | go_big_quiet_step (fail) | (go_big_quiet_want; go_simp; go_big_quiet_on))
  (go_big_quiet_want; refine quiet_load_row 23 _ rfl _ rfl _ _ _ _ (heap2_new _ _ _ _) Try.underlying23 rfl (IA.out) ?_; simp only [Act.put, List.setIfInBounds_toArray, List.set_cons_zero, List.set_cons_succ]; go_big_quiet_on)
  (go_big_quiet_want; go_big_quiet_op; go_big_quiet_call ((go_at_call 14; exact Calls.bw (K1.out _))))
  (go_big_quiet_want; go_big_quiet_op; go_big_quiet_call ((go_at_call 12; exact Calls.bw (K2.out _))))
  rw [R2.out]
  (go_big_quiet_want; go_big_quiet_op; go_big_quiet_call ((go_at_call 14; exact Calls.bw (K1.out _))))
  (go_big_quiet_want; refine quiet_load_row 23 _ rfl _ rfl _ _ _ _ (heap2_new _ _ _ _) Try.underlying23 rfl (IA.out) ?_; simp only [Act.put, List.setIfInBounds_toArray, List.set_cons_zero, List.set_cons_succ]; go_big_quiet_on)
  (go_big_quiet_want; go_big_quiet_op; go_big_quiet_call ((go_at_call 14; exact Calls.bw (K1.out _))))
  iterate 2 (first | go_big_quiet_step (fail) | (go_big_quiet_want; go_simp; go_big_quiet_on))
  refine wpQuiet_nil ?_; rintro w' ⟨X, rfl⟩
  have HA1 := hid (below_keep X.2 (heap2_old _ _ _ _))
  have HB1 := hid (below_keep X.2 (heap2_new _ _ _ _))
  have HW1 : Hid (Below w.heap.size w X.1) := hid ((((Below.refl _ _).alloc (Nat.le_refl _) _).alloc (by simp) _).trans (X.2.mono (by simp; omega)))
  generalize X.1 = w1 at *
  clear X
  go_wp2_with (first | (refine wpList_load_w rfl 23 _ rfl _ rfl _ _ _ _ (HA1.out) Try.underlying23 rfl (IA.out) ?_) | (refine wpList_load_w rfl 23 _ rfl _ rfl _ _ _ _ (HB1.out) Try.underlying23 rfl (IA.out) ?_))
  refine (K6.out _).mono ?_
  rw [N1.out]
  rintro e w2 ⟨rfl, hb2⟩
  have HA2 := hid (below_keep hb2 HA1.out)
  have HB2 := hid (below_keep hb2 HB1.out)
  have HW2 : Hid (Below w.heap.size w w2) := hid (HW1.out.trans (hb2.mono HW1.out.size))
  clear hb2 HA1 HB1 HW1
  go_wp2_with (first | (refine wpList_load_w rfl 23 _ rfl _ rfl _ _ _ _ (HA2.out) Try.underlying23 rfl (IA.out) ?_))
  refine (K1.out _).mono ?_
  rintro e w3 ⟨rfl, hb3⟩
  have HA3 := hid (below_keep hb3 HA2.out)
  have HB3 := hid (below_keep hb3 HB2.out)
  have HW3 : Hid (Below w.heap.size w w3) := hid (HW2.out.trans (hb3.mono HW2.out.size))
  clear hb3 HA2 HB2 HW2
  go_wp2_with (first | (refine wpList_load_w rfl 23 _ rfl _ rfl _ _ _ _ (HB3.out) Try.underlying23 rfl (IA.out) ?_))
  refine (K1.out _).mono ?_
  rintro e w4 ⟨rfl, hb4⟩
  have HA4 := hid (below_keep hb4 HA3.out)
  have HB4 := hid (below_keep hb4 HB3.out)
  have HW4 : Hid (Below w.heap.size w w4) := hid (HW3.out.trans (hb4.mono HW3.out.size))
  clear hb4 HA3 HB3 HW3
  go_wp2_with (first | (refine wpList_load_w rfl 23 _ rfl _ rfl _ _ _ _ (HA4.out) Try.underlying23 rfl (IA.out) ?_))
  refine (K8.out _).mono ?_
  rintro e w5 ⟨rfl, hb5⟩
  have HA5 := hid (below_keep hb5 HA4.out)
  have HB5 := hid (below_keep hb5 HB4.out)
  have HW5 : Hid (Below w.heap.size w w5) := hid (HW4.out.trans (hb5.mono HW4.out.size))
  clear hb5 HA4 HB4 HW4
  go_wp2_with (first | (refine wpList_load_w rfl 23 _ rfl _ rfl _ _ _ _ (HB5.out) Try.underlying23 rfl (IA.out) ?_))
  refine (K8.out _).mono ?_
  rintro e w6 ⟨rfl, hb6⟩
  have HA6 := hid (below_keep hb6 HA5.out)
  have HB6 := hid (below_keep hb6 HB5.out)
  have HW6 : Hid (Below w.heap.size w w6) := hid (HW5.out.trans (hb6.mono HW5.out.size))
  clear hb6 HA5 HB5 HW5
  go_wp2_with (first | (refine wpList_load_w rfl 23 _ rfl _ rfl _ _ _ _ (HA6.out) Try.underlying23 rfl (IA.out) ?_) | (refine wpList_load_w rfl 23 _ rfl _ rfl _ _ _ _ (HB6.out) Try.underlying23 rfl (IA.out) ?_))
  refine (K6.out _).mono ?_
  rw [N2.out]
  rintro e w7 ⟨rfl, hb7⟩
  have HA7 := hid (below_keep hb7 HA6.out)
  have HB7 := hid (below_keep hb7 HB6.out)
  have HW7 : Hid (Below w.heap.size w w7) := hid (HW6.out.trans (hb7.mono HW6.out.size))
  clear hb7 HA6 HB6 HW6
  go_wp2_with (refine wpList_load_w rfl 23 _ rfl _ rfl _ _ _ _ (HA7.out) Try.underlying23 rfl (IA.out) ?_)
  refine (KN.out _).mono ?_
  by_cases hm : num a = 18446744073709551615
  · rw [NX1.out hm]
    have hal := HL.out hm
    have hml : (strOfNums (showL a)).toList = [102, 102, 102, 102, 102, 102, 102, 102, 102, 102, 102, 102, 102, 102, 102, 102] := by rw [hal]; exact max_list
    have IZ := hid (info_id (zs 8) zs_B8)
    have e3 : ∀ w, (Op.equalIn 10000 23 (.agg (bys (zs 8))) (.agg #[.int .u8 0, .int .u8 0, .int .u8 0, .int .u8 0, .int .u8 0, .int .u8 0, .int .u8 0, .int .u8 0])).run Try.prog w = .ok true w := fun w => eq_ids _ _ zs_B8 zs_B8 w
    clear hm hal
    rintro e w8 ⟨rfl, hb8⟩
    have HA8 := hid (below_keep hb8 HA7.out)
    have HB8 := hid (below_keep hb8 HB7.out)
    have HW8 : Hid (Below w.heap.size w w8) := hid (HW7.out.trans (hb8.mono HW7.out.size))
    clear hb8 HA7 HB7 HW7
    have HW9 : Hid (Below w.heap.size w (w8.alloc (.cells (bys (zs 8)) 23))) := hid (HW8.out.alloc HW8.out.size _)
    go_wp2_with (first | (refine wpList_store_row rfl 23 _ _ rfl _ rfl _ rfl _ _ (heap_alloc_new _ _) (rfl) (bys_one _) (IZ.out) _ (setRow_alloc _ _ _ _) ?_) | (refine wpList_load_w rfl 23 _ rfl _ rfl _ _ _ _ (heap_alloc_new _ _) Try.underlying23 rfl (IZ.out) ?_) | (refine wpList_load_w rfl 23 _ rfl _ rfl _ _ _ _ (alloc_keep HA8.out _) Try.underlying23 rfl (IA.out) ?_))
    refine (K8.out _).mono ?_
    rintro e w9 ⟨rfl, hb9⟩
    have HW10 : Hid (Below w.heap.size w w9) := hid (HW9.out.trans (hb9.mono HW9.out.size))
    clear hb9
    go_wp2
    go_ret
    exact ⟨rfl, HW10.out⟩
  · have hm2 : num a + 1 < 18446744073709551616 := by omega
    rw [NX2.out hm]
    have IN := hid (info_id _ HO.out)
    have LN := hid HO.out.1
    have hnn : num (ofK 8 (num a + 1)) = num a + 1 := num_ofK8 _ (by omega) hm2
    have M1 : Hid (cmpN (num a) (num (ofK 8 (num a + 1))) = -1) := hid (cmpN_lt (by rw [hnn]; omega))
    have KC := hid (fun w => cmp_any a _ HA.out HO.out w)
    clear hnn hm
    generalize ofK 8 (num a + 1) = nx at *
    rintro e w8 ⟨rfl, hb8⟩
    have HA8 := hid (below_keep hb8 HA7.out)
    have HB8 := hid (below_keep hb8 HB7.out)
    have HW8 : Hid (Below w.heap.size w w8) := hid (HW7.out.trans (hb8.mono HW7.out.size))
    clear hb8 HA7 HB7 HW7
    have HW9 : Hid (Below w.heap.size w (w8.alloc (.cells (bys (nx)) 23))) := hid (HW8.out.alloc HW8.out.size _)
    go_wp2_with (first | (refine wpList_store_row rfl 23 _ _ rfl _ rfl _ rfl _ _ (heap_alloc_new _ _) (by rw [bys_size, LN.out]; rfl) (bys_one _) (IN.out) _ (setRow_alloc _ _ _ _) ?_) | (refine wpList_load_w rfl 23 _ rfl _ rfl _ _ _ _ (heap_alloc_new _ _) Try.underlying23 rfl (IN.out) ?_) | (refine wpList_load_w rfl 23 _ rfl _ rfl _ _ _ _ (alloc_keep HA8.out _) Try.underlying23 rfl (IA.out) ?_))
    refine (KC.out _).mono ?_
    rw [M1.out]
    rintro e w9 ⟨rfl, hb9⟩
    have HX9 := hid (below_keep hb9 (heap_alloc_new w8 (.cells (bys nx) 23)))
    have HB9 := hid (below_keep hb9 (alloc_keep HB8.out _))
    have HW10 : Hid (Below w.heap.size w w9) := hid (HW9.out.trans (hb9.mono HW9.out.size))
    clear hb9
    go_wp2
    go_ret
    exact ⟨rfl, HW10.out⟩

set_option maxRecDepth 100000 in
set_option maxHeartbeats 2000000 in
theorem order_gt (a : List Int) (ha : B8 a) (b : List Int) (hb : B8 b) (hc : num b < num a) (w : World) :
    Calls Try.prog 6 #[.agg (bys a), .agg (bys b)] w fun e w' => e = .returned (.bool true) ∧ Below w.heap.size w w' := by
  obtain ⟨na0, na1⟩ := num_bd8 ha
  have IA := hid (info_id a ha)
  have LA := hid ha.1
  obtain ⟨nb0, nb1⟩ := num_bd8 hb
  have IB := hid (info_id b hb)
  have K0 := hid (fun w => alive_any w)
  have K1 := hid (fun w => number_any a ha w)
  have K2 := hid (fun w => of_any (num a) na0 na1 w)
  have R2 := hid (ofK_num ha)
  have K8 := hid (fun w => show_any a ha w)
  have e1 : ∀ w, (Op.equalIn 10000 23 (.agg (bys a)) (.agg (bys a))).run Try.prog w = .ok true w := fun w => by rw [eq_ids a a ha ha w]; simp
  have K3 := hid (fun w => number_any b hb w)
  have K4 := hid (fun w => of_any (num b) nb0 nb1 w)
  have R4 := hid (ofK_num hb)
  have K6 := hid (fun w => cmp_any a b ha hb w)
  have K7 := hid (fun w => cmp_any b a hb ha w)
  have K9 := hid (fun w => show_any b hb w)
  have N1 : Hid (cmpN (num a) (num b) = 1) := hid (cmpN_gt hc)
  have N2 : Hid (cmpN (num b) (num a) = -1) := hid (cmpN_lt hc)
  have bl : Op.bytesLess (strOfNums (showL a)).toList (strOfNums (showL b)).toList = false := by rw [less_ids a b ha hb]; simp; omega
  have ne : a ≠ b := fun h => by rw [h] at hc; omega
  have se : ((strOfNums (showL a)).toList == (strOfNums (showL b)).toList) = false := by rw [beq_eq_false_iff_ne]; exact fun h => ne ((same_ids a b ha hb).1 h)
  have se2 : ¬ (strOfNums (showL a)).toList = (strOfNums (showL b)).toList := fun h => ne ((same_ids a b ha hb).1 h)
  have e2 : ∀ w, (Op.equalIn 10000 23 (.agg (bys a)) (.agg (bys b))).run Try.prog w = .ok false w := fun w => by rw [eq_ids a b ha hb w, decide_eq_false ne]
  clear ne
  have hnc : ¬ num a < num b := by omega
  have hnd : decide (num a < num b) = false := decide_eq_false hnc
  have KN := hid (fun w => next_any a ha w)
  have NX1 := hid (next_first a)
  have NX2 := hid (next_other a)
  have HL := hid (is_last a ha)
  have HO := hid (ofK_B8 (num a + 1))
  have HA := hid ha
  have HB := hid hb
  clear hb
  clear ha
  go_enter Try.func6, Try.ntmps6
  go_wp2
  refine wp_region_bw (by kernel_rfl) (by kernel_rfl) ?_
  (go_big_quiet_want; go_big_quiet_op; go_big_quiet_call ((go_at_call 22; exact Calls.bw (K0.out _))))
  iterate 2 (first | go_big_quiet_step (fail) | (go_big_quiet_want; go_simp; go_big_quiet_on))
  (go_big_quiet_want; refine quiet_load_row 23 _ rfl _ rfl _ _ _ _ (heap2_old _ _ _ _) Try.underlying23 rfl (IA.out) ?_; simp only [Act.put, List.setIfInBounds_toArray, List.set_cons_zero, List.set_cons_succ]; go_big_quiet_on)
  (go_big_quiet_want; go_big_quiet_op; go_big_quiet_call ((go_at_call 14; exact Calls.bw (K1.out _))))
  (go_big_quiet_want; go_big_quiet_op; go_big_quiet_call ((go_at_call 12; exact Calls.bw (K2.out _))))
  rw [R2.out]
  (go_big_quiet_want; refine quiet_load_row 23 _ rfl _ rfl _ _ _ _ (heap2_old _ _ _ _) Try.underlying23 rfl (IA.out) ?_; simp only [Act.put, List.setIfInBounds_toArray, List.set_cons_zero, List.set_cons_succ]; go_big_quiet_on)
  iterate 3 (first | go_big_quiet_step (fail) | (go_big_quiet_want; go_simp; go_big_quiet_on))
  (go_big_quiet_want; refine quiet_load_row 23 _ rfl _ rfl _ _ _ _ (heap2_new _ _ _ _) Try.underlying23 rfl (IB.out) ?_; simp only [Act.put, List.setIfInBounds_toArray, List.set_cons_zero, List.set_cons_succ]; go_big_quiet_on)
  (go_big_quiet_want; go_big_quiet_op; go_big_quiet_call ((go_at_call 14; exact Calls.bw (K3.out _))))
  (go_big_quiet_want; go_big_quiet_op; go_big_quiet_call ((go_at_call 12; exact Calls.bw (K4.out _))))
  rw [R4.out]
  (go_big_quiet_want; go_big_quiet_op; go_big_quiet_call ((go_at_call 14; exact Calls.bw (K3.out _))))
  (go_big_quiet_want; refine quiet_load_row 23 _ rfl _ rfl _ _ _ _ (heap2_new _ _ _ _) Try.underlying23 rfl (IB.out) ?_; simp only [Act.put, List.setIfInBounds_toArray, List.set_cons_zero, List.set_cons_succ]; go_big_quiet_on)
  (go_big_quiet_want; go_big_quiet_op; go_big_quiet_call ((go_at_call 14; exact Calls.bw (K3.out _))))
  iterate 2 (first | go_big_quiet_step (fail) | (go_big_quiet_want; go_simp; go_big_quiet_on))
  refine wpQuiet_nil ?_; rintro w' ⟨X, rfl⟩
  have HA1 := hid (below_keep X.2 (heap2_old _ _ _ _))
  have HB1 := hid (below_keep X.2 (heap2_new _ _ _ _))
  have HW1 : Hid (Below w.heap.size w X.1) := hid ((((Below.refl _ _).alloc (Nat.le_refl _) _).alloc (by simp) _).trans (X.2.mono (by simp; omega)))
  generalize X.1 = w1 at *
  clear X
  go_wp2_with (first | (refine wpList_load_w rfl 23 _ rfl _ rfl _ _ _ _ (HA1.out) Try.underlying23 rfl (IA.out) ?_) | (refine wpList_load_w rfl 23 _ rfl _ rfl _ _ _ _ (HB1.out) Try.underlying23 rfl (IB.out) ?_))
  refine (K6.out _).mono ?_
  rw [N1.out]
  rintro e w2 ⟨rfl, hb2⟩
  have HA2 := hid (below_keep hb2 HA1.out)
  have HB2 := hid (below_keep hb2 HB1.out)
  have HW2 : Hid (Below w.heap.size w w2) := hid (HW1.out.trans (hb2.mono HW1.out.size))
  clear hb2 HA1 HB1 HW1
  go_wp2_with (first | (refine wpList_load_w rfl 23 _ rfl _ rfl _ _ _ _ (HA2.out) Try.underlying23 rfl (IA.out) ?_))
  refine (K1.out _).mono ?_
  rintro e w3 ⟨rfl, hb3⟩
  have HA3 := hid (below_keep hb3 HA2.out)
  have HB3 := hid (below_keep hb3 HB2.out)
  have HW3 : Hid (Below w.heap.size w w3) := hid (HW2.out.trans (hb3.mono HW2.out.size))
  clear hb3 HA2 HB2 HW2
  go_wp2_with (first | (refine wpList_load_w rfl 23 _ rfl _ rfl _ _ _ _ (HB3.out) Try.underlying23 rfl (IB.out) ?_))
  refine (K3.out _).mono ?_
  rintro e w4 ⟨rfl, hb4⟩
  have HA4 := hid (below_keep hb4 HA3.out)
  have HB4 := hid (below_keep hb4 HB3.out)
  have HW4 : Hid (Below w.heap.size w w4) := hid (HW3.out.trans (hb4.mono HW3.out.size))
  clear hb4 HA3 HB3 HW3
  go_wp2_with (first | (refine wpList_load_w rfl 23 _ rfl _ rfl _ _ _ _ (HA4.out) Try.underlying23 rfl (IA.out) ?_))
  refine (K8.out _).mono ?_
  rintro e w5 ⟨rfl, hb5⟩
  have HA5 := hid (below_keep hb5 HA4.out)
  have HB5 := hid (below_keep hb5 HB4.out)
  have HW5 : Hid (Below w.heap.size w w5) := hid (HW4.out.trans (hb5.mono HW4.out.size))
  clear hb5 HA4 HB4 HW4
  go_wp2_with (first | (refine wpList_load_w rfl 23 _ rfl _ rfl _ _ _ _ (HB5.out) Try.underlying23 rfl (IB.out) ?_))
  refine (K9.out _).mono ?_
  rintro e w6 ⟨rfl, hb6⟩
  have HA6 := hid (below_keep hb6 HA5.out)
  have HB6 := hid (below_keep hb6 HB5.out)
  have HW6 : Hid (Below w.heap.size w w6) := hid (HW5.out.trans (hb6.mono HW5.out.size))
  clear hb6 HA5 HB5 HW5
  go_wp2_with (first | (refine wpList_load_w rfl 23 _ rfl _ rfl _ _ _ _ (HA6.out) Try.underlying23 rfl (IA.out) ?_) | (refine wpList_load_w rfl 23 _ rfl _ rfl _ _ _ _ (HB6.out) Try.underlying23 rfl (IB.out) ?_))
  refine (K7.out _).mono ?_
  rw [N2.out]
  rintro e w7 ⟨rfl, hb7⟩
  have HA7 := hid (below_keep hb7 HA6.out)
  have HB7 := hid (below_keep hb7 HB6.out)
  have HW7 : Hid (Below w.heap.size w w7) := hid (HW6.out.trans (hb7.mono HW6.out.size))
  clear hb7 HA6 HB6 HW6
  go_wp2_with (refine wpList_load_w rfl 23 _ rfl _ rfl _ _ _ _ (HA7.out) Try.underlying23 rfl (IA.out) ?_)
  refine (KN.out _).mono ?_
  by_cases hm : num a = 18446744073709551615
  · rw [NX1.out hm]
    have hal := HL.out hm
    have hml : (strOfNums (showL a)).toList = [102, 102, 102, 102, 102, 102, 102, 102, 102, 102, 102, 102, 102, 102, 102, 102] := by rw [hal]; exact max_list
    have IZ := hid (info_id (zs 8) zs_B8)
    have e3 : ∀ w, (Op.equalIn 10000 23 (.agg (bys (zs 8))) (.agg #[.int .u8 0, .int .u8 0, .int .u8 0, .int .u8 0, .int .u8 0, .int .u8 0, .int .u8 0, .int .u8 0])).run Try.prog w = .ok true w := fun w => eq_ids _ _ zs_B8 zs_B8 w
    clear hm hal
    rintro e w8 ⟨rfl, hb8⟩
    have HA8 := hid (below_keep hb8 HA7.out)
    have HB8 := hid (below_keep hb8 HB7.out)
    have HW8 : Hid (Below w.heap.size w w8) := hid (HW7.out.trans (hb8.mono HW7.out.size))
    clear hb8 HA7 HB7 HW7
    have HW9 : Hid (Below w.heap.size w (w8.alloc (.cells (bys (zs 8)) 23))) := hid (HW8.out.alloc HW8.out.size _)
    go_wp2_with (first | (refine wpList_store_row rfl 23 _ _ rfl _ rfl _ rfl _ _ (heap_alloc_new _ _) (rfl) (bys_one _) (IZ.out) _ (setRow_alloc _ _ _ _) ?_) | (refine wpList_load_w rfl 23 _ rfl _ rfl _ _ _ _ (heap_alloc_new _ _) Try.underlying23 rfl (IZ.out) ?_) | (refine wpList_load_w rfl 23 _ rfl _ rfl _ _ _ _ (alloc_keep HA8.out _) Try.underlying23 rfl (IA.out) ?_))
    refine (K8.out _).mono ?_
    rintro e w9 ⟨rfl, hb9⟩
    have HW10 : Hid (Below w.heap.size w w9) := hid (HW9.out.trans (hb9.mono HW9.out.size))
    clear hb9
    go_wp2
    go_ret
    exact ⟨rfl, HW10.out⟩
  · have hm2 : num a + 1 < 18446744073709551616 := by omega
    rw [NX2.out hm]
    have IN := hid (info_id _ HO.out)
    have LN := hid HO.out.1
    have hnn : num (ofK 8 (num a + 1)) = num a + 1 := num_ofK8 _ (by omega) hm2
    have M1 : Hid (cmpN (num a) (num (ofK 8 (num a + 1))) = -1) := hid (cmpN_lt (by rw [hnn]; omega))
    have KC := hid (fun w => cmp_any a _ HA.out HO.out w)
    clear hnn hm
    generalize ofK 8 (num a + 1) = nx at *
    rintro e w8 ⟨rfl, hb8⟩
    have HA8 := hid (below_keep hb8 HA7.out)
    have HB8 := hid (below_keep hb8 HB7.out)
    have HW8 : Hid (Below w.heap.size w w8) := hid (HW7.out.trans (hb8.mono HW7.out.size))
    clear hb8 HA7 HB7 HW7
    have HW9 : Hid (Below w.heap.size w (w8.alloc (.cells (bys (nx)) 23))) := hid (HW8.out.alloc HW8.out.size _)
    go_wp2_with (first | (refine wpList_store_row rfl 23 _ _ rfl _ rfl _ rfl _ _ (heap_alloc_new _ _) (by rw [bys_size, LN.out]; rfl) (bys_one _) (IN.out) _ (setRow_alloc _ _ _ _) ?_) | (refine wpList_load_w rfl 23 _ rfl _ rfl _ _ _ _ (heap_alloc_new _ _) Try.underlying23 rfl (IN.out) ?_) | (refine wpList_load_w rfl 23 _ rfl _ rfl _ _ _ _ (alloc_keep HA8.out _) Try.underlying23 rfl (IA.out) ?_))
    refine (KC.out _).mono ?_
    rw [M1.out]
    rintro e w9 ⟨rfl, hb9⟩
    have HX9 := hid (below_keep hb9 (heap_alloc_new w8 (.cells (bys nx) 23)))
    have HB9 := hid (below_keep hb9 (alloc_keep HB8.out _))
    have HW10 : Hid (Below w.heap.size w w9) := hid (HW9.out.trans (hb9.mono HW9.out.size))
    clear hb9
    go_wp2
    go_ret
    exact ⟨rfl, HW10.out⟩

theorem identOrder_any (a b : List Int) (ha : B8 a) (hb : B8 b) (w : World) :
    Calls Try.prog 6 #[.agg (bys a), .agg (bys b)] w fun e w' => e = .returned (.bool true) ∧ Below w.heap.size w w' := by
  rcases Int.lt_trichotomy (num a) (num b) with h | h | h
  · exact order_lt a ha b hb h w
  · obtain rfl := num_inj8 ha hb h
    exact order_eq a ha (num_bd8 ha).1 w
  · exact order_gt a ha b hb h w

end Go.Proofs.Ytaiepkombpjjgaa
