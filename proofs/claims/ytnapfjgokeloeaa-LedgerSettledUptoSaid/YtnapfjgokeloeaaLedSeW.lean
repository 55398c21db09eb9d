/- The walk of LedgerSettled: it returns true, and lays new blocks only. -/
import Derived.Test.YtnapfjgokeloeaaLedDu
import Derived.Test.YtnapfjgokeloeaaLvW
import Derived.Test.YtnapfjgokeloeaaLedSp
namespace Go.Proofs.Ytnapfjgokeloeaa
open Go.RowKit

theorem stl_amt : ∀ (n : Nat) (hs os : List En), (∀ e ∈ hs, 1 ≤ e.amt ∧ e.amt ≤ 4611686018427387903) → (∀ e ∈ os, 1 ≤ e.amt ∧ e.amt ≤ 4611686018427387903) → ∀ e ∈ stlF n hs os, I64 e.amt
  | 0, _, _, _, _ => fun e he => by cases he
  | _ + 1, [], _, _, _ => fun e he => by cases he
  | _ + 1, _ :: _, [], _, _ => fun e he => by cases he
  | n + 1, h :: hs, o :: os, h1, h2 => fun e he => by
    have k1 := h1 h List.mem_cons_self
    have k2 := h2 o List.mem_cons_self
    have less : ∀ (a : En) (l : List En), (∀ e ∈ a :: l, 1 ≤ e.amt ∧ e.amt ≤ 4611686018427387903) → min h.amt o.amt ≤ a.amt → ∀ e ∈ lessN a (min h.amt o.amt) l, 1 ≤ e.amt ∧ e.amt ≤ 4611686018427387903 := by
      intro a l hp hle e he
      unfold lessN at he
      by_cases h0 : a.amt - min h.amt o.amt = 0
      · rw [if_pos h0] at he; exact hp e (List.mem_cons_of_mem _ he)
      · rw [if_neg h0] at he
        have := hp a List.mem_cons_self
        rcases List.mem_cons.1 he with rfl | he
        · dsimp only; omega
        · exact hp e (List.mem_cons_of_mem _ he)
    rcases List.mem_cons.1 (show e ∈ (⟨h.fr, o.to, min h.amt o.amt⟩ : En) :: stlF n (lessN h (min h.amt o.amt) hs) (lessN o (min h.amt o.amt) os) from he) with rfl | he
    · dsimp only; exact ⟨by omega, by omega⟩
    · exact stl_amt n _ _ (less h hs h1 (by omega)) (less o os h2 (by omega)) e he
theorem settle_amt {T : List (Id8 × Ac)} (hok : OkT T) : ∀ e ∈ settleF T, I64 e.amt :=
  stl_amt _ _ _ (fun e he => by have h := hasL_mem he; have k := hok e.fr; unfold AcOk at k; omega) (fun e he => by have h := owesL_mem he; have k := hok e.to; unfold AcOk at k; omega)
theorem offN_snoc (T : List (Id8 × Ac)) (l : List Id8) (x : Id8) : offN T (l ++ [x]) = offN T l + if (acOf T x).bal = 0 then 0 else 1 := by
  unfold offN
  rw [List.countP_append]
  by_cases h : (acOf T x).bal = 0
  · rw [if_pos h]; simp [h]
  · rw [if_neg h]; simp [h]
theorem offN_le (T : List (Id8 × Ac)) (l : List Id8) : offN T l ≤ l.length := List.countP_le_length
set_option maxRecDepth 100000 in
set_option maxHeartbeats 8000000 in
theorem ledgerSettled_any (S : List LOp) (A : Option Addr) (cap : Nat) (hl : S.length ≤ 9223372036854775807) (hin : ∀ o ∈ S, o.l.length ≤ 9223372036854775807) (w : World) (hr : ScAt w A S) :
    Calls Try.prog 4 #[.slice A S.length cap] w fun e w' => e = .returned (.bool true) ∧ Below w.heap.size w w' := by
  have KH := hid (heavy_any S A cap hl hin w hr.rows)
  have HSC := hid hr
  by_cases h1 : 1048576 < (hvy S : Int)
  · rw [decide_eq_true h1] at KH
    clear hl hin hr h1
    go_enter Try.func4, Try.ntmps4
    go_wp2_with (go_at_call 8; (with_reducible refine KH.out.mono ?_); rintro e w2 ⟨rfl, h2⟩; have HB2 := hid h2; clear h2)
    go_ret
    exact ⟨rfl, HB2.out⟩
  rw [decide_eq_false h1] at KH
  have hsz : sizeL S ≤ 1048576 := by rw [← hvy_size S (by omega)]; omega
  obtain ⟨q1, q2, q3, q4⟩ := play_len S
  have q5 := play_inv S
  obtain ⟨s, hs⟩ : ∃ s, s = playL S := ⟨_, rfl⟩
  have KP := hid (fun w hr => played_any S A cap hsz w hr)
  rw [← hs] at q1 q2 q3 q4 q5
  simp only [← hs] at KP
  have hE : s.E.length ≤ 1048576 := by omega
  have hT : s.T.length ≤ 2097152 := by omega
  obtain ⟨ids, hids⟩ : ∃ ids, ids = sortI (Keys s.T) := ⟨_, rfl⟩
  have hil : ids.length ≤ 2097152 := by rw [hids, sortI_len]; unfold Keys; rw [List.length_map]; exact hT
  obtain ⟨a1, a2, a3, a4⟩ := settled_all q5 q1
  rw [← hids] at a3
  have hoff := offN_le s.T ids
  have hXA := settle_amt q1
  obtain ⟨X, hX⟩ : ∃ X, X = settleF s.T := ⟨_, rfl⟩
  rw [← hX] at a1 a2 a3 a4 hXA
  have hXl : X.length ≤ 2097152 := by omega
  have hT2 : (allT s.T X).length ≤ 8388608 := by have := allT_len s.T X; omega
  have HAL := hid (show allR s.T X = (0, 0) ∧ allT2 s.T X = allT s.T X ∧ allE2 s.T s.E X = s.E ++ X from ⟨by unfold allR; rw [a1], by unfold allT2; rw [if_pos a1], by unfold allE2; rw [if_pos a1]⟩)
  have HBA := hid a2
  have HS4 := hid a4
  have HXA := hid hXA
  have OK2 : Hid (OkT (allT s.T X)) := hid (allT_ok q1 X)
  have HID := hid hids
  have HXE := hid hX
  have OK := hid q1
  clear hl hin hr h1 hs q1 q2 q3 q4 q5 hsz a1 a2 a4 hids hX hXA
  go_enter Try.func4, Try.ntmps4
  go_wp2_with (first | (go_at_call 8; (with_reducible refine KH.out.mono ?_); rintro e w2 ⟨rfl, h2⟩; have HB2 := hid h2; clear h2)
                     | (go_at_call 9; (with_reducible refine (KP.out _ (HSC.out.kept HB2.out)).mono ?_); rintro e w4 ⟨p, v, rfl, h2⟩; have HD := hid (h2.led.later HB2.out); clear h2)
                     | (go_at_call 10; (with_reducible refine (lives_any _).mono ?_); rintro e w6 ⟨rfl, h2⟩; replace HD := hid (HD.out.kept h2); clear h2)
                     | (go_at_call 11; (with_reducible refine (led_accounts HD.out (by omega)).mono ?_); rw [← HID.out]; rintro e w7 ⟨Ai, ci, rfl, h2, h3, h4⟩; have HI := hid (Out.new HD.out h2 h3 h4); replace HD := hid (HD.out.kept h4); clear h2 h3 h4))
  go_loopw [6, 7] (fun n i wr => ∃ k : Nat, k ≤ ids.length ∧ i = .int .i64 k ∧ n = .int .i64 (offN s.T (ids.take k)) ∧ Hid (Led w wr p s.T s.E) ∧ Hid (Out 8 idE wr p Ai ids)) (fun _ i _ => ids.length - (intOf i).toNat)
  case atStart => exact ⟨0, by omega, rfl, rfl, HD, HI⟩
  case round =>
    clear HD HI
    obtain ⟨k, hk, rfl, rfl, HD, HI⟩ := hrel
    by_cases hlt : k < ids.length
    · have hki : (k : Int) < (ids.length : Int) := by omega
      obtain ⟨x, hx⟩ : ∃ x, ids[k]? = some x := ⟨ids[k], by simp [hlt]⟩
      obtain ⟨gg, o, rfl, hgg, hcc⟩ := HI.out.1.get hx
      have HC : Hid (CellsAt wr gg (o + k * 8) (bys x.1)) := hid (by rw [Nat.mul_comm]; exact hcc)
      have HX := hid (idV_info x)
      have hTK : offN s.T (ids.take (k + 1)) = offN s.T (ids.take k) + if (acOf s.T x).bal = 0 then 0 else 1 := by
        obtain ⟨hk', e⟩ := List.getElem?_eq_some_iff.1 hx
        rw [List.take_succ_eq_append_getElem hk', e, offN_snoc]
      have hol : offN s.T (ids.take k) ≤ ids.length := by have := offN_le s.T (ids.take k); rw [List.length_take] at this; omega
      have KB := hid (led_balance HD.out x)
      generalize offN s.T (ids.take k) = q at *
      obtain ⟨n, hn⟩ : ∃ n, n = (acOf s.T x).bal := ⟨_, rfl⟩
      rw [← hn] at KB hTK
      clear hx hcc hgg hn
      by_cases h0 : n = 0
      · have HTK : Hid (offN s.T (ids.take (k + 1)) = q) := hid (by rw [hTK, if_pos h0]; rfl)
        subst h0
        clear hTK
        go_wp2_with (first | (refine wpList_load_cells rfl 33 _ rfl _ _ rfl _ _ HC.out Try.underlying33 rfl HX.out ?_)
                           | (go_at_call 13; (with_reducible refine KB.out.mono ?_); rintro e w3 ⟨rfl, h2⟩; have HI3 := hid (HI.out.kept HD.out h2); have HD3 := hid (HD.out.kept h2); clear h2))
        refine ⟨⟨k + 1, by omega, by go_num, by rw [HTK.out], HD3, HI3⟩, by simp [intOf]; omega⟩
      · have HTK : Hid (offN s.T (ids.take (k + 1)) = q + 1) := hid (by rw [hTK, if_neg h0])
        have hne : (n != 0) = true := by simpa using h0
        clear hTK h0
        go_wp2_with (first | (refine wpList_load_cells rfl 33 _ rfl _ _ rfl _ _ HC.out Try.underlying33 rfl HX.out ?_)
                           | (go_at_call 13; (with_reducible refine KB.out.mono ?_); rintro e w3 ⟨rfl, h2⟩; have HI3 := hid (HI.out.kept HD.out h2); have HD3 := hid (HD.out.kept h2); clear h2))
        refine ⟨⟨k + 1, by omega, by go_num, by rw [HTK.out]; go_num, HD3, HI3⟩, by simp [intOf]; omega⟩
    · have hki : ¬ ((k : Int) < (ids.length : Int)) := by omega
      have htk : ids.take k = ids := List.take_of_length_le (by omega)
      rw [htk]
      clear htk
      generalize offN s.T ids = m at *
      obtain ⟨xn, hxn⟩ : ∃ xn, X.length = xn := ⟨_, rfl⟩
      have HXN := hid hxn
      have KA := hid (fun (wa : World) (Aa : Option Addr) (ca : Nat) (hd : Led w wa p s.T s.E) (hr : Out 17 enE wa p Aa X) (hn : NotOwn wa p Aa) (hi : Out 8 idE wa p Ai ids) =>
        (show Calls Try.prog 18 #[.pointer (some ⟨p, 0, none⟩), .slice Aa xn ca] wa fun e w' => e = Ending.returned (.tuple #[.int .i64 0, .int .i64 0]) ∧ Led w w' p (allT s.T X) (s.E ++ X) ∧ Out 8 idE w' p Ai ids by
          rw [← hxn]
          refine (led_all (A := Aa) (c := ca) hd X HXA.out hr.1 hn OK.out (by omega)).mono ?_
          rintro e w' ⟨h1, h2, h3⟩
          rw [HAL.out.1] at h1
          rw [HAL.out.2.1, HAL.out.2.2] at h2
          exact ⟨h1, h2, hi.own h3⟩))
      obtain ⟨T2, hT2e⟩ : ∃ T2, T2 = allT s.T X := ⟨_, rfl⟩
      obtain ⟨E2, hE2⟩ : ∃ E2, E2 = s.E ++ X := ⟨_, rfl⟩
      have hE2l : E2.length = s.E.length + xn := by rw [hE2, List.length_append, hxn]
      rw [hxn] at a3 hXl
      clear hxn
      rw [← hT2e, ← hE2] at KA
      rw [← hT2e] at HBA HS4 hT2 OK2
      clear hT2e hE2
      have hw : IntKind.i64.wrap ((s.E.length : Int) + (xn : Int)) = (s.E.length : Int) + (xn : Int) := IntWalk.i64_in _ (by omega)
      have hw2 : ((E2.length : Int) != (s.E.length : Int) + (xn : Int)) = false := by simp; omega
      have HE2 := hid hE2l
      have hE2b : E2.length ≤ 4194304 := by omega
      have Ua := hid trivial
      have Ub := hid trivial
      clear hE2l
      obtain ⟨mi, hmi⟩ : ∃ mi : Int, mi = (m : Int) := ⟨_, rfl⟩
      rw [← hmi]
      have hwm : IntKind.i64.wrap (mi - 1) = mi - 1 := IntWalk.i64_in _ (by omega)
      by_cases hm : mi = 0
      · have hxz : xn = 0 := by omega
        have hwz : ((E2.length : Int) != (s.E.length : Int)) = false := by simp; have := HE2.out; omega
        subst hxz hm
        clear a3 hmi hoff hw hw2
        go_wp2_with (first | (go_at_call 17; clear Ua; (with_reducible refine (led_settle HD.out OK.out (by omega)).mono ?_); rw [← HXE.out, HXN.out]; rintro e w2 ⟨Ax, cx, rfl, h2, h3, h4⟩; have HXO := hid (Out.new HD.out h2 h3 h4); have HNO := hid (notOwn_new HD.out h3 h4); have HI2 := hid (HI.out.kept HD.out h4); have HD2 := hid (HD.out.kept h4); clear h2 h3 h4)
                                        | (go_at_call 12; clear Ub; (with_reducible refine (led_entries HD2.out (by omega)).mono ?_); rintro e w3 ⟨Ae, ce, rfl, h2, h3, h4⟩; have HXO3 := hid (HXO.out.kept HD2.out h4); have HNO3 := hid (HNO.out.kept HD2.out h4); have HI3 := hid (HI2.out.kept HD2.out h4); have HD3 := hid (HD2.out.kept h4); clear h2 h3 h4)
                                        | (go_at_call 18; (with_reducible refine (KA.out _ _ _ HD3.out HXO3.out HNO3.out HI3.out).mono ?_); rintro e w4 ⟨rfl, h2, h3⟩; have HD4 := hid h2; have HI4 := hid h3; clear h2 h3)
                                        | (go_at_call 12; (with_reducible refine (led_entries HD4.out (by omega)).mono ?_); rintro e w5 ⟨A5, c5, rfl, h2, h3, h4⟩; have HI5 := hid (HI4.out.kept HD4.out h4); have HD5 := hid (HD4.out.kept h4); clear h2 h3 h4)
                                        | (go_at_call 17; (with_reducible refine (led_settle HD5.out OK2.out (by omega)).mono ?_); rw [HS4.out]; rintro e w6 ⟨A6, c6, rfl, h2, h3, h4⟩; have HI6 := hid (HI5.out.kept HD5.out h4); have HD6 := hid (HD5.out.kept h4); clear h2 h3 h4))
        clear KA
        go_loopw [12] (fun i wr => ∃ k : Nat, k ≤ ids.length ∧ i = .int .i64 k ∧ Hid (Led w wr p T2 E2) ∧ Hid (Out 8 idE wr p Ai ids)) (fun i _ => ids.length - (intOf i).toNat)
        case atStart => exact ⟨0, by omega, rfl, HD6, HI6⟩
        case round =>
          clear HD HD2 HD3 HD4 HD5 HD6 HI HI2 HI3 HI4 HI5 HI6
          obtain ⟨k, hk, rfl, HD, HI⟩ := hrel
          by_cases hlt : k < ids.length
          · have hki : (k : Int) < (ids.length : Int) := by omega
            obtain ⟨x, hx⟩ : ∃ x, ids[k]? = some x := ⟨ids[k], by simp [hlt]⟩
            obtain ⟨gg, o, rfl, hgg, hcc⟩ := HI.out.1.get hx
            have HC : Hid (CellsAt wr gg (o + k * 8) (bys x.1)) := hid (by rw [Nat.mul_comm]; exact hcc)
            have HX := hid (idV_info x)
            have KB := hid (led_balance HD.out x)
            rw [HBA.out] at KB
            clear hx hcc hgg
            go_wp2_with (first | (refine wpList_load_cells rfl 33 _ rfl _ _ rfl _ _ HC.out Try.underlying33 rfl HX.out ?_)
                                        | (go_at_call 13; (with_reducible refine KB.out.mono ?_); rintro e w3 ⟨rfl, h2⟩; have HI9 := hid (HI.out.kept HD.out h2); have HD9 := hid (HD.out.kept h2); clear h2))
            refine ⟨⟨k + 1, by omega, by go_num, HD9, HI9⟩, by simp [intOf]; omega⟩
          · have hki : ¬ ((k : Int) < (ids.length : Int)) := by omega
            go_wp2
            go_ret
            exact ⟨rfl, HD.out.below⟩
      · have t1 : decide (0 < mi) = true := decide_eq_true (by omega)
        have t2 : decide (mi - 1 < (xn : Int)) = false := decide_eq_false (by omega)
        have t3 : (mi == 0) = false := by simpa using hm
        clear a3 hmi hoff hm
        go_wp2_with (first | (go_at_call 17; clear Ua; (with_reducible refine (led_settle HD.out OK.out (by omega)).mono ?_); rw [← HXE.out, HXN.out]; rintro e w2 ⟨Ax, cx, rfl, h2, h3, h4⟩; have HXO := hid (Out.new HD.out h2 h3 h4); have HNO := hid (notOwn_new HD.out h3 h4); have HI2 := hid (HI.out.kept HD.out h4); have HD2 := hid (HD.out.kept h4); clear h2 h3 h4)
                                        | (go_at_call 12; clear Ub; (with_reducible refine (led_entries HD2.out (by omega)).mono ?_); rintro e w3 ⟨Ae, ce, rfl, h2, h3, h4⟩; have HXO3 := hid (HXO.out.kept HD2.out h4); have HNO3 := hid (HNO.out.kept HD2.out h4); have HI3 := hid (HI2.out.kept HD2.out h4); have HD3 := hid (HD2.out.kept h4); clear h2 h3 h4)
                                        | (go_at_call 18; (with_reducible refine (KA.out _ _ _ HD3.out HXO3.out HNO3.out HI3.out).mono ?_); rintro e w4 ⟨rfl, h2, h3⟩; have HD4 := hid h2; have HI4 := hid h3; clear h2 h3)
                                        | (go_at_call 12; (with_reducible refine (led_entries HD4.out (by omega)).mono ?_); rintro e w5 ⟨A5, c5, rfl, h2, h3, h4⟩; have HI5 := hid (HI4.out.kept HD4.out h4); have HD5 := hid (HD4.out.kept h4); clear h2 h3 h4)
                                        | (go_at_call 17; (with_reducible refine (led_settle HD5.out OK2.out (by omega)).mono ?_); rw [HS4.out]; rintro e w6 ⟨A6, c6, rfl, h2, h3, h4⟩; have HI6 := hid (HI5.out.kept HD5.out h4); have HD6 := hid (HD5.out.kept h4); clear h2 h3 h4))
        clear KA
        go_loopw [12] (fun i wr => ∃ k : Nat, k ≤ ids.length ∧ i = .int .i64 k ∧ Hid (Led w wr p T2 E2) ∧ Hid (Out 8 idE wr p Ai ids)) (fun i _ => ids.length - (intOf i).toNat)
        case atStart => exact ⟨0, by omega, rfl, HD6, HI6⟩
        case round =>
          clear HD HD2 HD3 HD4 HD5 HD6 HI HI2 HI3 HI4 HI5 HI6
          obtain ⟨k, hk, rfl, HD, HI⟩ := hrel
          by_cases hlt : k < ids.length
          · have hki : (k : Int) < (ids.length : Int) := by omega
            obtain ⟨x, hx⟩ : ∃ x, ids[k]? = some x := ⟨ids[k], by simp [hlt]⟩
            obtain ⟨gg, o, rfl, hgg, hcc⟩ := HI.out.1.get hx
            have HC : Hid (CellsAt wr gg (o + k * 8) (bys x.1)) := hid (by rw [Nat.mul_comm]; exact hcc)
            have HX := hid (idV_info x)
            have KB := hid (led_balance HD.out x)
            rw [HBA.out] at KB
            clear hx hcc hgg
            go_wp2_with (first | (refine wpList_load_cells rfl 33 _ rfl _ _ rfl _ _ HC.out Try.underlying33 rfl HX.out ?_)
                                        | (go_at_call 13; (with_reducible refine KB.out.mono ?_); rintro e w3 ⟨rfl, h2⟩; have HI9 := hid (HI.out.kept HD.out h2); have HD9 := hid (HD.out.kept h2); clear h2))
            refine ⟨⟨k + 1, by omega, by go_num, HD9, HI9⟩, by simp [intOf]; omega⟩
          · have hki : ¬ ((k : Int) < (ids.length : Int)) := by omega
            go_wp2
            go_ret
            exact ⟨rfl, HD.out.below⟩
end Go.Proofs.Ytnapfjgokeloeaa
