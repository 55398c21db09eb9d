/- The walk of LedgerWhole: it returns true, and lays new blocks only. -/
import Derived.Test.YtnapfjgokeloeaaLedDu
import Derived.Test.YtnapfjgokeloeaaLvW
namespace Go.Proofs.Ytnapfjgokeloeaa
open Go.RowKit

theorem all_step {T : List (Id8 × Ac)} {l : List En} {k : Nat} {x : En} (hx : l[k]? = some x) (h : allX T 0 (l.take k) = none) :
    (payE (allT T (l.take k)) x.fr x.to x.amt = 0 → allX T 0 (l.take (k + 1)) = none) ∧ (payE (allT T (l.take k)) x.fr x.to x.amt ≠ 0 → allX T 0 l = some (k, payE (allT T (l.take k)) x.fr x.to x.amt)) ∧
    allT T (l.take (k + 1)) = payT (allT T (l.take k)) x.fr x.to x.amt := by
  obtain ⟨hk, e⟩ := List.getElem?_eq_some_iff.1 hx
  have h1 : l.take (k + 1) = l.take k ++ [x] := by rw [List.take_succ_eq_append_getElem hk, e]
  refine ⟨fun h0 => ?_, fun h0 => ?_, ?_⟩
  · rw [h1, allX_app h]
    show (if _ then _ else _) = _
    rw [if_pos h0]; rfl
  · have h2 : l = l.take k ++ (x :: l.drop (k + 1)) := by
      rw [← e, ← List.drop_eq_getElem_cons hk, List.take_append_drop]
    have h3 := allX_app h (x :: l.drop (k + 1))
    rw [← h2] at h3
    rw [h3]
    show (if _ then _ else _) = _
    rw [if_neg h0, List.length_take, Nat.min_eq_left (by omega), Nat.zero_add]
  · rw [h1, allT_app]; rfl
theorem beyond_len (n : Nat) (hn : n ≤ 9223372036854775807) (w : World) : Calls Try.prog 19 #[.slice (some ⟨w.heap.size, 0, none⟩) 1 1] (w.alloc (.cells #[.int .i64 (n : Int)] 3)) fun e w' => e = .returned (.bool (decide (1048576 < (n : Int)))) ∧ Below w.heap.size w w' :=
  (beyond_one (n : Int) ⟨by omega, by omega⟩ _ _ (heap_alloc_new _ _)).mono fun e w' ⟨h1, h2⟩ => ⟨h1, ((Below.refl _ w).alloc (Nat.le_refl _) _).trans (h2.mono (by simp))⟩
set_option maxRecDepth 100000 in
set_option maxHeartbeats 8000000 in
theorem ledgerWhole_any (S : List LOp) (A : Option Addr) (cap : Nat) (l : List En) (B : Option Addr) (cb : Nat) (hl : S.length ≤ 9223372036854775807) (hin : ∀ o ∈ S, o.l.length ≤ 9223372036854775807) (hll : l.length ≤ 9223372036854775807) (hn : ∀ e ∈ l, I64 e.amt) (w : World) (hr : ScAt w A S) (hb : RowsAt 17 enE w B l) :
    Calls Try.prog 5 #[.slice A S.length cap, .slice B l.length cb] w fun e w' => e = .returned (.bool true) ∧ Below w.heap.size w w' := by
  have KH := hid (heavy_any S A cap hl hin w hr.rows)
  have HSC := hid hr
  have HL := hid hb
  have HN := hid hn
  by_cases h1 : 1048576 < (hvy S : Int)
  · rw [decide_eq_true h1] at KH
    clear hl hin hr hb hn h1
    go_enter Try.func5, Try.ntmps5
    go_wp2_with (go_at_call 8; (with_reducible refine KH.out.mono ?_); rintro e w2 ⟨rfl, h2⟩; have HB2 := hid h2; clear h2)
    go_ret
    exact ⟨rfl, HB2.out⟩
  rw [decide_eq_false h1] at KH
  have hsz : sizeL S ≤ 1048576 := by rw [← hvy_size S (by omega)]; omega
  have KL := hid (beyond_len l.length hll)
  by_cases h2 : 1048576 < (l.length : Int)
  · rw [decide_eq_true h2] at KL
    clear hl hin hr hb hn h1 h2
    go_enter Try.func5, Try.ntmps5
    go_wp2_with (first | (go_at_call 8; (with_reducible refine KH.out.mono ?_); rintro e w2 ⟨rfl, h2⟩; have HB2 := hid h2; clear h2) | (go_at_call 19; (with_reducible refine (KL.out _).mono ?_); rintro e w3 ⟨rfl, h2⟩; have HB3 := hid (HB2.out.trans (h2.mono HB2.out.size)); clear h2))
    go_ret
    exact ⟨rfl, HB3.out⟩
  rw [decide_eq_false h2] at KL
  have hl2 : l.length ≤ 1048576 := by omega
  obtain ⟨q1, q2, q3, q4⟩ := play_len S
  obtain ⟨s, hs⟩ : ∃ s, s = playL S := ⟨_, rfl⟩
  have KP := hid (fun w hr => played_any S A cap hsz w hr)
  rw [← hs] at q1 q2 q3 q4
  simp only [← hs] at KP
  have hE : s.E.length ≤ 1048576 := by omega
  have OK := hid q1
  have SZ := hid hsz
  clear hl hin hr hb hn h1 h2 hs q1 q2 q3 q4 hsz hll
  go_enter Try.func5, Try.ntmps5
  have Ua := hid trivial
  go_wp2_with (first | (go_at_call 8; (with_reducible refine KH.out.mono ?_); rintro e w2 ⟨rfl, h2⟩; have HB2 := hid h2; clear h2)
                     | (go_at_call 19; (with_reducible refine (KL.out _).mono ?_); rintro e w3 ⟨rfl, h2⟩; have HB3 := hid (HB2.out.trans (h2.mono HB2.out.size)); clear h2)
                     | (go_at_call 9; clear Ua; (with_reducible refine (KP.out _ (HSC.out.kept HB3.out)).mono ?_); rintro e w4 ⟨p, v, rfl, h2⟩; have HP := hid (h2.led.later HB3.out); clear h2)
                     | (go_at_call 9; (with_reducible refine (KP.out _ (HSC.out.kept HP.out.below)).mono ?_); rintro e w5 ⟨q, u, rfl, h2⟩; have HD := hid (Duo.mk (HP.out.kept h2.led.below) (h2.led.later HP.out.below) (Sep.new HP.out h2.led)); clear h2 HP)
                     | (go_at_call 10; (with_reducible refine (lives_any _).mono ?_); rintro e w6 ⟨rfl, h2⟩; replace HD := hid (HD.out.kept h2); clear h2)
                     | (go_at_call 12; (with_reducible refine (led_entries HD.out.one (by omega)).mono ?_); rintro e w7 ⟨Aw, cw, rfl, h2, h3, h4⟩; have HW := hid (DuoL.new HD.out h2 h3 h4); replace HD := hid (HD.out.kept h4); clear h2 h3 h4)
                     | (go_at_call 20; (with_reducible refine (twinEntries_any l B cb hl2 _ (HL.out.kept HD.out.one.below)).mono ?_); rintro e w8 ⟨gt, rfl, hgt, hft, hb8⟩; have HT := hid (DuoL.new HD.out (FlAt.rows enE_size hft ⟨[enM], rfl⟩) (by rintro _ _ ⟨⟩; exact hgt) hb8); replace HW := hid (HW.out.kept HD.out hb8); have HTN := hid (notOwn_new (A := some ⟨gt, 0, none⟩) HD.out.one (by rintro _ _ ⟨⟩; exact hgt) hb8); replace HD := hid (HD.out.kept hb8); clear hgt hft hb8)
                     | (go_at_call 18; (with_reducible refine (led_all HD.out.one l HN.out _ _ HT.out.rows HTN.out OK.out (by omega)).mono ?_); rintro e w9 ⟨rfl, h2, h3⟩; replace HW := hid (HW.out.left HD.out h3); replace HD := hid (HD.out.left h2 h3); clear h2 h3 HT HTN))
  obtain ⟨r1, hr1⟩ : ∃ r, r = (allR s.T l).1 := ⟨_, rfl⟩
  obtain ⟨r2, hr2⟩ : ∃ r, r = (allR s.T l).2 := ⟨_, rfl⟩
  obtain ⟨T1, hT1⟩ : ∃ r, r = allT2 s.T l := ⟨_, rfl⟩
  obtain ⟨E1, hE1⟩ : ∃ r, r = allE2 s.T s.E l := ⟨_, rfl⟩
  rw [← hT1, ← hE1] at HD
  rw [← hr1, ← hr2]
  have HR := hid (And.intro hr1 hr2)
  have HE1 := hid hE1
  have hE1l : E1.length ≤ 2097152 := by rw [hE1]; have := allE2_len s.T s.E l; omega
  clear hr1 hr2 hT1 hE1
  have HD0 : Hid (Duo w w9 p q T1 E1 (allT s.T (l.take 0)) (s.E ++ l.take 0)) := hid (by simpa [allT] using HD.out)
  clear HD
  go_loopw [13] (fun i wr => ∃ k : Nat, k ≤ l.length ∧ i = .int .i64 k ∧ Hid (allX s.T 0 (l.take k) = none) ∧ Hid (Duo w wr p q T1 E1 (allT s.T (l.take k)) (s.E ++ l.take k)) ∧ Hid (DuoL 17 enE wr p q Aw s.E)) (fun i _ => l.length - (intOf i).toNat)
  case atStart => exact ⟨0, by omega, rfl, hid rfl, HD0, HW⟩
  case round =>
    clear HD0 HW
    obtain ⟨k, hk, rfl, HX, HD, HW⟩ := hrel
    by_cases hlt : k < l.length
    · have hki : (k : Int) < (l.length : Int) := by omega
      obtain ⟨x, hx⟩ : ∃ x, l[k]? = some x := ⟨l[k], by simp [hlt]⟩
      obtain ⟨x1, x2, x3⟩ := all_step hx HX.out
      obtain ⟨gg, o, rfl, hgg, hcc⟩ := (HL.out.kept HD.out.one.below).get hx
      rw [show o + 17 * k = o + k * 17 by omega] at hcc
      have HXA := HN.out x (List.mem_of_getElem? hx)
      have htk : s.E ++ l.take (k + 1) = s.E ++ l.take k ++ [x] := by
        obtain ⟨hk', e⟩ := List.getElem?_eq_some_iff.1 hx
        rw [List.take_succ_eq_append_getElem hk', e, List.append_assoc]
      have HTK := hid htk
      have hok : OkT (allT s.T (l.take k)) := allT_ok OK.out _
      have hlen : (s.E ++ l.take k).length ≤ 4398046511104 := by rw [List.length_append, List.length_take]; omega
      obtain ⟨wq, hwq⟩ : ∃ wq, wq = wr.drew := ⟨_, rfl⟩
      have hbq : Below wr.heap.size wr wq := hwq ▸ (Below.refl _ _).drew
      have HDq := hid (HD.out.kept hbq)
      have HWq := hid (HW.out.kept HD.out hbq)
      have hccq : CellsAt wq gg (o + k * 17) (enE x) := hcc.kept hbq hgg
      have HC1 := hid (box_fr hccq)
      have HC2 := hid (box_to hccq)
      have hca := box_amt hccq
      have HI1 := hid (idV_info x.fr)
      have HI2 := hid (idV_info x.to)
      have HWQ := hid hwq
      have KY := hid (led_pay HDq.out.two x.fr x.to x.amt HXA hok hlen)
      have HXX := hid (And.intro x1 (And.intro x2 x3))
      clear hx hcc hccq hgg HXA hok hlen hbq hwq HD HW htk x1 x2 x3
      obtain ⟨pe, hpe⟩ : ∃ pe, pe = payE (allT s.T (l.take k)) x.fr x.to x.amt := ⟨_, rfl⟩
      rw [← hpe] at KY HXX
      have HPE := hid hpe
      clear hpe
      go_wp2_with fail
      refine wp_region_tail 16 (by kernel_rfl) (by kernel_rfl) wq HWQ.out ?_
      simp only [List.take_succ_cons, List.take_zero, List.drop_succ_cons, List.drop_zero]
      iterate 5 still_step
      refine still_load_cells rfl 33 _ rfl _ _ rfl _ _ HC1.out Try.underlying33 rfl HI1.out ?_
      simp only [Act.put, List.setIfInBounds_toArray, List.set_cons_zero, List.set_cons_succ]
      iterate 4 still_step
      refine still_load_cells rfl 33 _ rfl _ _ rfl _ _ HC2.out Try.underlying33 rfl HI2.out ?_
      simp only [Act.put, List.setIfInBounds_toArray, List.set_cons_zero, List.set_cons_succ]
      iterate 5 still_step
      refine wpStill_nil ?_
      by_cases h0 : pe = 0
      · subst h0
        go_wp2_with (go_at_call 21; (with_reducible refine KY.out.mono ?_); rintro e w3 ⟨rfl, h2, h3⟩; have HW3 := hid (HWq.out.right HDq.out h3); have HD3 := hid (HDq.out.right h2 h3); clear h2 h3)
        refine ⟨⟨k + 1, by omega, by go_num, hid (HXX.out.1 (by first | rfl | trivial)), hid (by rw [HXX.out.2.2, HTK.out]; have := HD3.out; rw [show payN (allT s.T (l.take k)) (s.E ++ l.take k) x.fr x.to x.amt = s.E ++ l.take k ++ [x] by unfold payN; rw [← HPE.out, if_pos rfl]] at this; exact this), HW3⟩, by simp [intOf]; omega⟩
      · have hne : (pe != 0) = true := by simpa using h0
        have hAX := HXX.out.2.1 h0
        have HR1 : Hid (r1 = (k : Int) ∧ r2 = pe ∧ E1 = s.E) := hid (by
          have h3 := HR.out; have h4 := HE1.out
          unfold allR at h3; unfold allE2 at h4
          rw [hAX] at h3 h4
          exact ⟨h3.1, h3.2, h4⟩)
        obtain ⟨e1, e2, e3⟩ := HR1.out
        subst e1 e2 e3
        clear h0 hAX HE1 HR
        go_wp2_with (first | (go_at_call 21; (with_reducible refine KY.out.mono ?_); rintro e w3 ⟨rfl, h2, h3⟩; have HW3 := hid (HWq.out.right HDq.out h3); have HD3 := hid (HDq.out.right h2 h3); clear h2 h3)
                           | (go_at_call 12; (with_reducible refine (led_entries HD3.out.one (by omega)).mono ?_); rintro e w7 ⟨A7, c7, rfl, h2, h3, h4⟩; have H7 := hid h2; have HW7 := hid (HW3.out.kept HD3.out h4); have HD7 := hid (HD3.out.kept h4); clear h2 h3 h4)
                           | (go_at_call 22; (with_reducible refine (sameEntries_any s.E s.E _ _ _ _ (by omega) (by omega) _ H7.out HW7.out.rows).mono ?_); rintro e w8 ⟨rfl, h2⟩; have HD8 := hid (HD7.out.kept h2); clear h2))
        go_ret
        exact ⟨by simp, HD8.out.one.below⟩
    · have hki : ¬ ((k : Int) < (l.length : Int)) := by omega
      have htk : l.take k = l := List.take_of_length_le (by omega)
      rw [htk] at HX HD
      have HR1 : Hid (r1 = 0 ∧ r2 = 0 ∧ E1 = s.E ++ l) := hid (by
        have h3 := HR.out; have h4 := HE1.out
        unfold allR at h3; unfold allE2 at h4
        rw [HX.out] at h3 h4
        exact ⟨h3.1, h3.2, h4⟩)
      obtain ⟨e1, e2, e3⟩ := HR1.out
      subst e1 e2 e3
      clear htk HE1 HR HR1 HX
      obtain ⟨F, hF⟩ : ∃ F, F = s.E ++ l := ⟨_, rfl⟩
      rw [← hF] at HD hE1l
      have hFl : F.length = s.E.length + l.length := by rw [hF, List.length_append]
      have hFw : IntKind.i64.wrap ((s.E.length : Int) + (l.length : Int)) = (s.E.length : Int) + (l.length : Int) := IntWalk.i64_in _ (by omega)
      have hFe : ((s.E.length : Int) + (l.length : Int) == (F.length : Int)) = true := by simp; omega
      have HFl := hid hFl
      clear hF hFl
      have Ua := hid trivial
      have Ub := hid trivial
      go_wp2_with (first | (go_at_call 12; clear Ua; (with_reducible refine (led_entries HD.out.one (by omega)).mono ?_); rintro e w7 ⟨A7, c7, rfl, h2, h3, h4⟩; have H7 := hid h2; have HD7 := hid (HD.out.kept h4); clear h2 h3 h4)
                         | (go_at_call 12; clear Ub; (with_reducible refine (led_entries HD7.out.two (by omega)).mono ?_); rintro e w8 ⟨A8, c8, rfl, h2, h3, h4⟩; have H8 := hid h2; have H78 := hid (H7.out.kept h4); have HD8 := hid (HD7.out.kept h4); clear h2 h3 h4)
                         | (go_at_call 12; (with_reducible refine (led_entries HD9.out.one (by omega)).mono ?_); rintro e w9 ⟨A9, c9, rfl, h2, h3, h4⟩; have HD10 := hid (HD9.out.kept h4); clear h2 h3 h4)
                         | (go_at_call 22; (with_reducible refine (sameEntries_any F F _ _ _ _ (by omega) (by omega) _ H78.out H8.out).mono ?_); rintro e w9 ⟨rfl, h2⟩; have HD9 := hid (HD8.out.kept h2); clear h2))
      go_ret
      exact ⟨by simp, HD10.out.one.below⟩
end Go.Proofs.Ytnapfjgokeloeaa
