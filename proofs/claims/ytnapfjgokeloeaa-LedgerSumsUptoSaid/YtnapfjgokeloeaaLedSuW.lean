/- The walk of LedgerSums: it returns true, and lays new blocks only. -/
import Derived.Test.YtnapfjgokeloeaaLedDu
import Derived.Test.YtnapfjgokeloeaaLvW
import Derived.Test.YtnapfjgokeloeaaLedSs
import Derived.Test.YtnapfjgokeloeaaQx
namespace Go.Proofs.Ytnapfjgokeloeaa
open Go.RowKit

/-- A ledger, its accounts, its entries and the limits, as they lie. -/
structure SumS (w0 w : World) (p : Nat) (s : LSt) (ids : List Id8) (Ai Ae Al : Option Addr) : Prop where
  led : Led w0 w p s.T s.E
  ids : RowsAt 8 idE w Ai ids
  ent : RowsAt 17 enE w Ae s.E
  lim : RowsAt 17 enE w Al s.L
theorem SumS.kept {w0 w w' : World} {p : Nat} {s : LSt} {ids : List Id8} {Ai Ae Al : Option Addr} (h : SumS w0 w p s ids Ai Ae Al) (hb : Below w.heap.size w w') : SumS w0 w' p s ids Ai Ae Al :=
  ⟨h.led.kept hb, h.ids.kept hb, h.ent.kept hb, h.lim.kept hb⟩
theorem SumS.idAt {w0 w : World} {p : Nat} {s : LSt} {ids : List Id8} {Ai Ae Al : Option Addr} (h : SumS w0 w p s ids Ai Ae Al) {k : Nat} {x : Id8} (hx : ids[k]? = some x) : ∃ g o, Ai = some ⟨g, o, none⟩ := by
  obtain ⟨g, o, h1, _⟩ := h.ids.get hx
  exact ⟨g, o, h1⟩
theorem SumS.idC {w0 w : World} {p : Nat} {s : LSt} {ids : List Id8} {g o : Nat} {Ae Al : Option Addr} (h : SumS w0 w p s ids (some ⟨g, o, none⟩) Ae Al) {k : Nat} {x : Id8} (hx : ids[k]? = some x) : CellsAt w g (o + k * 8) (bys x.1) ∧ g < w.heap.size := by
  obtain ⟨g', o', h1, h2, h3⟩ := h.ids.get hx
  cases h1
  exact ⟨by rw [Nat.mul_comm]; exact h3, h2⟩
theorem SumS.enAt {w0 w : World} {p : Nat} {s : LSt} {ids : List Id8} {Ai Ae Al : Option Addr} (h : SumS w0 w p s ids Ai Ae Al) {k : Nat} {x : En} (hx : s.E[k]? = some x) : ∃ g o, Ae = some ⟨g, o, none⟩ := by
  obtain ⟨g, o, h1, _⟩ := h.ent.get hx
  exact ⟨g, o, h1⟩
theorem SumS.enC {w0 w : World} {p : Nat} {s : LSt} {ids : List Id8} {g o : Nat} {Ai Al : Option Addr} (h : SumS w0 w p s ids Ai (some ⟨g, o, none⟩) Al) {k : Nat} {x : En} (hx : s.E[k]? = some x) : CellsAt w g (o + k * 17) (enE x) ∧ g < w.heap.size := by
  obtain ⟨g', o', h1, h2, h3⟩ := h.ent.get hx
  cases h1
  exact ⟨by rw [Nat.mul_comm]; exact h3, h2⟩
theorem en_to {w : World} {g o : Nat} {x : En} (h : CellsAt w g o (enE x)) : CellsAt w g (o + 8) (bys x.to.1) := box_to h
set_option maxRecDepth 100000 in
set_option maxHeartbeats 16000000 in
theorem ledgerSums_any (S : List LOp) (A : Option Addr) (cap : Nat) (hl : S.length ≤ 9223372036854775807) (hin : ∀ o ∈ S, o.l.length ≤ 9223372036854775807) (w : World) (hr : ScAt w A S) :
    Calls Try.prog 3 #[.slice A S.length cap] w fun e w' => e = .returned (.bool true) ∧ Below w.heap.size w w' := by
  have KH := hid (heavy_any S A cap hl hin w hr.rows)
  have HSC := hid hr
  by_cases h1 : 1048576 < (hvy S : Int)
  · rw [decide_eq_true h1] at KH
    clear hl hin hr h1
    go_enter Try.func3, Try.ntmps3
    go_wp2_with (go_at_call 8; (with_reducible refine KH.out.mono ?_); rintro e w2 ⟨rfl, h2⟩; have HB2 := hid h2; clear h2)
    go_ret
    exact ⟨rfl, HB2.out⟩
  rw [decide_eq_false h1] at KH
  have hsz : sizeL S ≤ 1048576 := by rw [← hvy_size S (by omega)]; omega
  obtain ⟨q1, q2, q3, q4⟩ := play_len S
  have q5 := play_inv S
  obtain ⟨s, hs⟩ : ∃ s, s = playL S := ⟨_, rfl⟩
  have KP := hid (fun w hr => played_any S A cap hsz w hr)
  rw [← hs] at q1 q2 q3 q4 q5
  simp only [← hs] at KP
  have hE : s.E.length ≤ 1048576 := by omega
  have hT : s.T.length ≤ 2097152 := by omega
  have hL : s.L.length ≤ 1048576 := by omega
  obtain ⟨ids, hids⟩ : ∃ ids, ids = sortI (Keys s.T) := ⟨_, rfl⟩
  have hil : ids.length ≤ 2097152 := by rw [hids, sortI_len]; unfold Keys; rw [List.length_map]; exact hT
  have HID := hid hids
  have HPW : Hid (ids.Pairwise fun x y => num x.1 < num y.1) := hid (by rw [hids]; exact sortI_lt q5.nodup)
  have HKM : Hid (∀ e ∈ s.E, e.fr ∈ ids ∧ e.to ∈ ids) := hid (fun e he => by rw [hids, sortI_mem, sortI_mem]; exact q5.keys e he)
  have HZ : Hid (highS (sumE s.E) ids * 1000003 + lowS (sumE s.E) ids = 0) := hid (by rw [parts_sum]; exact sum_zero (by rw [hids]; exact (sortI_perm _).nodup_iff.2 q5.nodup) s.E HKM.out)
  have OK := hid q1
  have INV := hid q5
  clear hl hin hr h1 hs q1 q2 q3 q4 q5 hsz hids
  go_enter Try.func3, Try.ntmps3
  go_wp2_with (first | (go_at_call 8; (with_reducible refine KH.out.mono ?_); rintro e w2 ⟨rfl, h2⟩; have HB2 := hid h2; clear h2)
                     | (go_at_call 9; (with_reducible refine (KP.out _ (HSC.out.kept HB2.out)).mono ?_); rintro e w4 ⟨p, v, rfl, h2⟩; obtain ⟨Al, cl, hv, hlr⟩ := Row.rows enE_size rfl (Row.of_owns h2.lim); subst hv; have HLR := hid hlr; have HD := hid (h2.led.later HB2.out); clear h2 hlr)
                     | (go_at_call 10; (with_reducible refine (lives_any _).mono ?_); rintro e w6 ⟨rfl, h2⟩; replace HD := hid (HD.out.kept h2); replace HLR := hid (HLR.out.kept h2); clear h2)
                     | (go_at_call 11; (with_reducible refine (led_accounts HD.out (by omega)).mono ?_); rw [← HID.out]; rintro e w7 ⟨Ai, ci, rfl, h2, h3, h4⟩; have HI := hid h2; replace HD := hid (HD.out.kept h4); replace HLR := hid (HLR.out.kept h4); clear h2 h3 h4)
                     | (go_at_call 12; (with_reducible refine (led_entries HD.out (by omega)).mono ?_); rintro e w8 ⟨Ae, ce, rfl, h2, h3, h4⟩; have HS := hid (SumS.mk (HD.out.kept h4) (HI.out.kept h4) h2 (HLR.out.kept h4)); clear h2 h3 h4 HD HI HLR))
  go_loopw [7, 8, 9] (fun lo hi i wr => ∃ k : Nat, k ≤ ids.length ∧ i = .int .i64 k ∧ lo = .int .i64 (lowS (sumE s.E) (ids.take k)) ∧ hi = .int .i64 (IntKind.i64.wrap (highS (sumE s.E) (ids.take k))) ∧ Hid (SumS w wr p s ids Ai Ae Al)) (fun _ _ i _ => ids.length - (intOf i).toNat)
  case atStart => exact ⟨0, by omega, rfl, rfl, rfl, HS⟩
  case round =>
    clear HS
    obtain ⟨k, hk, rfl, rfl, rfl, HS⟩ := hrel
    by_cases hlt : k < ids.length
    · have hki : (k : Int) < (ids.length : Int) := by omega
      obtain ⟨x, hx⟩ : ∃ x, ids[k]? = some x := ⟨ids[k], by simp [hlt]⟩
      obtain ⟨gi, oi, rfl⟩ := HS.out.idAt hx
      have HXA := hid hx
      have HXI := hid (idV_info x)
      have hlo := lowS_bd (sumE s.E) (ids.take k)
      rw [List.length_take, Nat.min_eq_left hk] at hlo
      have HTK : Hid (lowS (sumE s.E) (ids.take (k + 1)) = lowS (sumE s.E) (ids.take k) + (sumE s.E x).tmod 1000003 ∧ highS (sumE s.E) (ids.take (k + 1)) = highS (sumE s.E) (ids.take k) + (sumE s.E x).tdiv 1000003) := hid (by
        obtain ⟨hk', e⟩ := List.getElem?_eq_some_iff.1 hx
        rw [List.take_succ_eq_append_getElem hk', e, lowS_snoc, highS_snoc]; exact ⟨rfl, rfl⟩)
      clear hx
      obtain ⟨lo, hlo'⟩ : ∃ lo, lo = lowS (sumE s.E) (ids.take k) := ⟨_, rfl⟩
      obtain ⟨hi, hhi'⟩ : ∃ hi, hi = highS (sumE s.E) (ids.take k) := ⟨_, rfl⟩
      obtain ⟨hw, hhw⟩ : ∃ hw, hw = IntKind.i64.wrap hi := ⟨_, rfl⟩
      rw [← hlo', ← hhi'] at HTK
      rw [← hlo'] at hlo
      rw [← hhi', ← hhw, ← hlo']
      have HHW := hid hhw
      clear hlo' hhi' hhw
      go_wp2_with fail
      go_loopw [10, 11] (fun n j wr => ∃ m : Nat, m ≤ s.E.length ∧ j = .int .i64 m ∧ n = .int .i64 (sumE (s.E.take m) x) ∧ Hid (SumS w wr p s ids (some ⟨gi, oi, none⟩) Ae Al)) (fun _ j _ => s.E.length - (intOf j).toNat)
      case atStart => exact ⟨0, by omega, rfl, rfl, HS⟩
      case round =>
        clear HS
        obtain ⟨m, hm, rfl, rfl, HS⟩ := hrel
        by_cases hlm : m < s.E.length
        · have hmi : (m : Int) < (s.E.length : Int) := by omega
          obtain ⟨y, hy⟩ : ∃ y, s.E[m]? = some y := ⟨s.E[m], by simp [hlm]⟩
          obtain ⟨ge, oe, rfl⟩ := HS.out.enAt hy
          have HYA := hid hy
          have HYto := hid (idV_info y.to)
          have HYfr := hid (idV_info y.fr)
          have hg := INV.out.good
          have hbd := (hg.take m).bd x
          have hbd2 := (hg.take (m + 1)).bd x
          have hya := hg.mem y (List.mem_of_getElem? hy)
          have hn2 : sumE (s.E.take (m + 1)) x = sumE (s.E.take m) x + oneE y x := by
            obtain ⟨hk', e⟩ := List.getElem?_eq_some_iff.1 hy
            rw [List.take_succ_eq_append_getElem hk', e, sumE_snoc]
          unfold oneE at hn2
          obtain ⟨ya1, ya2, ya3⟩ := hya
          have Eto := eq_ids y.to.1 x.1 y.to.2 x.2
          have Efr := eq_ids y.fr.1 x.1 y.fr.2 x.2
          obtain ⟨n, hn⟩ : ∃ n, n = sumE (s.E.take m) x := ⟨_, rfl⟩
          rw [← hn] at hbd hn2 ⊢
          clear hy hn hg
          by_cases e1 : y.to = x
          · have e2 : ¬ y.fr = x := fun e => ya3 (e.trans e1.symm)
            rw [if_pos e1, if_neg e2] at hn2
            rw [decide_eq_true (show y.to.1 = x.1 by rw [e1])] at Eto
            rw [decide_eq_false (show ¬ y.fr.1 = x.1 from fun h => e2 (Subtype.ext h))] at Efr
            have HEto := hid Eto
            have HEfr := hid Efr
            have HN2 : Hid (sumE (s.E.take (m + 1)) x = n + y.amt) := hid (by rw [hn2]; omega)
            rw [HN2.out] at hbd2
            clear e1 e2 hn2 ya3 Eto Efr
            have HCe := hid (en_to (HS.out.enC HYA.out).1)
            have HGe := hid (HS.out.enC HYA.out).2
            have HCi := hid (HS.out.idC HXA.out).1
            have HGi := hid (HS.out.idC HXA.out).2
            have heq := HEto.out
            go_wp2_with fail
            refine wp_region_bw (by kernel_rfl) (by kernel_rfl) ?_
            iterate 4 (first | go_big_quiet_step (fail) | (go_big_quiet_want; go_simp; go_big_quiet_on))
            (go_big_quiet_want; refine quiet_load_cells 33 _ rfl _ _ rfl _ _ (HCe.out) (HGe.out) Try.underlying33 rfl (HYto.out) ?_; simp only [Act.put, List.setIfInBounds_toArray, List.set_cons_zero, List.set_cons_succ]; go_big_quiet_on)
            iterate 3 (first | go_big_quiet_step (fail) | (go_big_quiet_want; go_simp; go_big_quiet_on))
            (go_big_quiet_want; refine quiet_load_cells 33 _ rfl _ _ rfl _ _ (HCi.out) (HGi.out) Try.underlying33 rfl (HXI.out) ?_; simp only [Act.put, List.setIfInBounds_toArray, List.set_cons_zero, List.set_cons_succ]; go_big_quiet_on)
            iterate 1 (first | go_big_quiet_step (fail) | (go_big_quiet_want; go_simp; go_big_quiet_on))
            refine wpQuiet_nil ?_; rintro w' ⟨X, rfl⟩
            obtain ⟨w2, hw2⟩ : ∃ w2, w2 = X.1 := ⟨_, rfl⟩
            have HSw2 := hid (show SumS w w2 p s ids (some ⟨gi, oi, none⟩) (some ⟨ge, oe, none⟩) Al by rw [hw2]; exact HS.out.kept X.2)
            rw [← hw2]
            clear hw2 heq HCe HGe HCi HGi HS
            clear X
            have hca := box_amt (HSw2.out.enC HYA.out).1
            have HCe := hid (box_fr (HSw2.out.enC HYA.out).1)
            have HGe := hid (HSw2.out.enC HYA.out).2
            have HCi := hid (HSw2.out.idC HXA.out).1
            have HGi := hid (HSw2.out.idC HXA.out).2
            have heq := HEfr.out
            go_wp2_with fail
            refine wp_region_bw (by kernel_rfl) (by kernel_rfl) ?_
            iterate 4 (first | go_big_quiet_step (fail) | (go_big_quiet_want; go_simp; go_big_quiet_on))
            (go_big_quiet_want; refine quiet_load_cells 33 _ rfl _ _ rfl _ _ (HCe.out) (HGe.out) Try.underlying33 rfl (HYfr.out) ?_; simp only [Act.put, List.setIfInBounds_toArray, List.set_cons_zero, List.set_cons_succ]; go_big_quiet_on)
            iterate 3 (first | go_big_quiet_step (fail) | (go_big_quiet_want; go_simp; go_big_quiet_on))
            (go_big_quiet_want; refine quiet_load_cells 33 _ rfl _ _ rfl _ _ (HCi.out) (HGi.out) Try.underlying33 rfl (HXI.out) ?_; simp only [Act.put, List.setIfInBounds_toArray, List.set_cons_zero, List.set_cons_succ]; go_big_quiet_on)
            iterate 1 (first | go_big_quiet_step (fail) | (go_big_quiet_want; go_simp; go_big_quiet_on))
            refine wpQuiet_nil ?_; rintro w' ⟨X, rfl⟩
            obtain ⟨w3, hw3⟩ : ∃ w2, w2 = X.1 := ⟨_, rfl⟩
            have HSw3 := hid (show SumS w w3 p s ids (some ⟨gi, oi, none⟩) (some ⟨ge, oe, none⟩) Al by rw [hw3]; exact HSw2.out.kept X.2)
            rw [← hw3]
            clear hw3 heq HCe HGe HCi HGi HSw2
            clear X
            go_wp2
            refine ⟨⟨m + 1, by omega, by go_num, by rw [HN2.out], HSw3⟩, by simp [intOf]; omega⟩
          by_cases e2 : y.fr = x
          · rw [if_neg e1, if_pos e2] at hn2
            rw [decide_eq_false (show ¬ y.to.1 = x.1 from fun h => e1 (Subtype.ext h))] at Eto
            rw [decide_eq_true (show y.fr.1 = x.1 by rw [e2])] at Efr
            have HEto := hid Eto
            have HEfr := hid Efr
            have HN2 : Hid (sumE (s.E.take (m + 1)) x = n - y.amt) := hid (by rw [hn2]; omega)
            rw [HN2.out] at hbd2
            clear e1 e2 hn2 ya3 Eto Efr
            have HCe := hid (en_to (HS.out.enC HYA.out).1)
            have HGe := hid (HS.out.enC HYA.out).2
            have HCi := hid (HS.out.idC HXA.out).1
            have HGi := hid (HS.out.idC HXA.out).2
            have heq := HEto.out
            go_wp2_with fail
            refine wp_region_bw (by kernel_rfl) (by kernel_rfl) ?_
            iterate 4 (first | go_big_quiet_step (fail) | (go_big_quiet_want; go_simp; go_big_quiet_on))
            (go_big_quiet_want; refine quiet_load_cells 33 _ rfl _ _ rfl _ _ (HCe.out) (HGe.out) Try.underlying33 rfl (HYto.out) ?_; simp only [Act.put, List.setIfInBounds_toArray, List.set_cons_zero, List.set_cons_succ]; go_big_quiet_on)
            iterate 3 (first | go_big_quiet_step (fail) | (go_big_quiet_want; go_simp; go_big_quiet_on))
            (go_big_quiet_want; refine quiet_load_cells 33 _ rfl _ _ rfl _ _ (HCi.out) (HGi.out) Try.underlying33 rfl (HXI.out) ?_; simp only [Act.put, List.setIfInBounds_toArray, List.set_cons_zero, List.set_cons_succ]; go_big_quiet_on)
            iterate 1 (first | go_big_quiet_step (fail) | (go_big_quiet_want; go_simp; go_big_quiet_on))
            refine wpQuiet_nil ?_; rintro w' ⟨X, rfl⟩
            obtain ⟨w2, hw2⟩ : ∃ w2, w2 = X.1 := ⟨_, rfl⟩
            have HSw2 := hid (show SumS w w2 p s ids (some ⟨gi, oi, none⟩) (some ⟨ge, oe, none⟩) Al by rw [hw2]; exact HS.out.kept X.2)
            rw [← hw2]
            clear hw2 heq HCe HGe HCi HGi HS
            clear X
            have HCe := hid (box_fr (HSw2.out.enC HYA.out).1)
            have HGe := hid (HSw2.out.enC HYA.out).2
            have HCi := hid (HSw2.out.idC HXA.out).1
            have HGi := hid (HSw2.out.idC HXA.out).2
            have heq := HEfr.out
            go_wp2_with fail
            refine wp_region_bw (by kernel_rfl) (by kernel_rfl) ?_
            iterate 4 (first | go_big_quiet_step (fail) | (go_big_quiet_want; go_simp; go_big_quiet_on))
            (go_big_quiet_want; refine quiet_load_cells 33 _ rfl _ _ rfl _ _ (HCe.out) (HGe.out) Try.underlying33 rfl (HYfr.out) ?_; simp only [Act.put, List.setIfInBounds_toArray, List.set_cons_zero, List.set_cons_succ]; go_big_quiet_on)
            iterate 3 (first | go_big_quiet_step (fail) | (go_big_quiet_want; go_simp; go_big_quiet_on))
            (go_big_quiet_want; refine quiet_load_cells 33 _ rfl _ _ rfl _ _ (HCi.out) (HGi.out) Try.underlying33 rfl (HXI.out) ?_; simp only [Act.put, List.setIfInBounds_toArray, List.set_cons_zero, List.set_cons_succ]; go_big_quiet_on)
            iterate 1 (first | go_big_quiet_step (fail) | (go_big_quiet_want; go_simp; go_big_quiet_on))
            refine wpQuiet_nil ?_; rintro w' ⟨X, rfl⟩
            obtain ⟨w3, hw3⟩ : ∃ w2, w2 = X.1 := ⟨_, rfl⟩
            have HSw3 := hid (show SumS w w3 p s ids (some ⟨gi, oi, none⟩) (some ⟨ge, oe, none⟩) Al by rw [hw3]; exact HSw2.out.kept X.2)
            rw [← hw3]
            clear hw3 heq HCe HGe HCi HGi HSw2
            clear X
            have hca := box_amt (HSw3.out.enC HYA.out).1
            go_wp2
            refine ⟨⟨m + 1, by omega, by go_num, by rw [HN2.out], HSw3⟩, by simp [intOf]; omega⟩
          · rw [if_neg e1, if_neg e2] at hn2
            rw [decide_eq_false (show ¬ y.to.1 = x.1 from fun h => e1 (Subtype.ext h))] at Eto
            rw [decide_eq_false (show ¬ y.fr.1 = x.1 from fun h => e2 (Subtype.ext h))] at Efr
            have HEto := hid Eto
            have HEfr := hid Efr
            have HN2 : Hid (sumE (s.E.take (m + 1)) x = n) := hid (by rw [hn2]; omega)
            rw [HN2.out] at hbd2
            clear e1 e2 hn2 ya3 Eto Efr
            have HCe := hid (en_to (HS.out.enC HYA.out).1)
            have HGe := hid (HS.out.enC HYA.out).2
            have HCi := hid (HS.out.idC HXA.out).1
            have HGi := hid (HS.out.idC HXA.out).2
            have heq := HEto.out
            go_wp2_with fail
            refine wp_region_bw (by kernel_rfl) (by kernel_rfl) ?_
            iterate 4 (first | go_big_quiet_step (fail) | (go_big_quiet_want; go_simp; go_big_quiet_on))
            (go_big_quiet_want; refine quiet_load_cells 33 _ rfl _ _ rfl _ _ (HCe.out) (HGe.out) Try.underlying33 rfl (HYto.out) ?_; simp only [Act.put, List.setIfInBounds_toArray, List.set_cons_zero, List.set_cons_succ]; go_big_quiet_on)
            iterate 3 (first | go_big_quiet_step (fail) | (go_big_quiet_want; go_simp; go_big_quiet_on))
            (go_big_quiet_want; refine quiet_load_cells 33 _ rfl _ _ rfl _ _ (HCi.out) (HGi.out) Try.underlying33 rfl (HXI.out) ?_; simp only [Act.put, List.setIfInBounds_toArray, List.set_cons_zero, List.set_cons_succ]; go_big_quiet_on)
            iterate 1 (first | go_big_quiet_step (fail) | (go_big_quiet_want; go_simp; go_big_quiet_on))
            refine wpQuiet_nil ?_; rintro w' ⟨X, rfl⟩
            obtain ⟨w2, hw2⟩ : ∃ w2, w2 = X.1 := ⟨_, rfl⟩
            have HSw2 := hid (show SumS w w2 p s ids (some ⟨gi, oi, none⟩) (some ⟨ge, oe, none⟩) Al by rw [hw2]; exact HS.out.kept X.2)
            rw [← hw2]
            clear hw2 heq HCe HGe HCi HGi HS
            clear X
            have HCe := hid (box_fr (HSw2.out.enC HYA.out).1)
            have HGe := hid (HSw2.out.enC HYA.out).2
            have HCi := hid (HSw2.out.idC HXA.out).1
            have HGi := hid (HSw2.out.idC HXA.out).2
            have heq := HEfr.out
            go_wp2_with fail
            refine wp_region_bw (by kernel_rfl) (by kernel_rfl) ?_
            iterate 4 (first | go_big_quiet_step (fail) | (go_big_quiet_want; go_simp; go_big_quiet_on))
            (go_big_quiet_want; refine quiet_load_cells 33 _ rfl _ _ rfl _ _ (HCe.out) (HGe.out) Try.underlying33 rfl (HYfr.out) ?_; simp only [Act.put, List.setIfInBounds_toArray, List.set_cons_zero, List.set_cons_succ]; go_big_quiet_on)
            iterate 3 (first | go_big_quiet_step (fail) | (go_big_quiet_want; go_simp; go_big_quiet_on))
            (go_big_quiet_want; refine quiet_load_cells 33 _ rfl _ _ rfl _ _ (HCi.out) (HGi.out) Try.underlying33 rfl (HXI.out) ?_; simp only [Act.put, List.setIfInBounds_toArray, List.set_cons_zero, List.set_cons_succ]; go_big_quiet_on)
            iterate 1 (first | go_big_quiet_step (fail) | (go_big_quiet_want; go_simp; go_big_quiet_on))
            refine wpQuiet_nil ?_; rintro w' ⟨X, rfl⟩
            obtain ⟨w3, hw3⟩ : ∃ w2, w2 = X.1 := ⟨_, rfl⟩
            have HSw3 := hid (show SumS w w3 p s ids (some ⟨gi, oi, none⟩) (some ⟨ge, oe, none⟩) Al by rw [hw3]; exact HSw2.out.kept X.2)
            rw [← hw3]
            clear hw3 heq HCe HGe HCi HGi HSw2
            clear X
            go_wp2
            refine ⟨⟨m + 1, by omega, by go_num, by rw [HN2.out], HSw3⟩, by simp [intOf]; omega⟩
        · have hmi : ¬ ((m : Int) < (s.E.length : Int)) := by omega
          have htk : s.E.take m = s.E := List.take_of_length_le (by omega)
          rw [htk]
          have hax := OK.out x
          unfold AcOk at hax
          have hb0 := INV.out.bal x
          have hl0 := INV.out.lim x
          rw [hb0, hl0] at hax
          obtain ⟨n, hn⟩ : ∃ n, n = sumE s.E x := ⟨_, rfl⟩
          obtain ⟨lm, hlm'⟩ : ∃ n, n = limL s.L x := ⟨_, rfl⟩
          have K1 := hid (fun X : Bw wr => led_balance (HS.out.kept X.2).led x)
          rw [hb0, ← hn] at K1
          have K2 := hid (fun X : Bw wr => limit_any s.L Al cl x (by omega) X.1 (HS.out.kept X.2).lim)
          rw [← hlm'] at K2
          rw [← hn] at HTK hax ⊢
          rw [← hlm'] at hax
          obtain ⟨n1, n2, n3, n4, n5⟩ := hax
          have hneg : IntKind.i64.wrap (-lm) = -lm := IntWalk.i64_in _ (by omega)
          have hd1 : decide (n < -lm) = false := decide_eq_false (by omega)
          have hd2 : decide (4611686018427387903 < n) = false := decide_eq_false (by omega)
          have HCi := hid (HS.out.idC HXA.out).1
          have HGi := hid (HS.out.idC HXA.out).2
          have hr1 := Int.tmod_lt_of_pos n (show (0 : Int) < 1000003 by omega)
          have hr2 := Int.lt_tmod_of_pos n (show (0 : Int) < 1000003 by omega)
          have hr3 := Int.tdiv_mul_add_tmod n 1000003
          have hw1 : IntKind.i64.wrap (n.tmod 1000003) = n.tmod 1000003 := IntWalk.i64_in _ (by omega)
          have hw2 : IntKind.i64.wrap (n.tdiv 1000003) = n.tdiv 1000003 := IntWalk.i64_in _ (by omega)
          have hw3 : IntKind.i64.wrap (lo + n.tmod 1000003) = lo + n.tmod 1000003 := IntWalk.i64_in _ (by omega)
          clear htk hb0 hl0 hn hlm' hr3
          by_cases hk0 : k = 0
          · subst hk0
            go_wp2_with fail
            refine wp_region_bw (by kernel_rfl) (by kernel_rfl) ?_
            iterate 4 (first | go_big_quiet_step (fail) | (go_big_quiet_want; go_simp; go_big_quiet_on))
            (go_big_quiet_want; refine quiet_load_cells 33 _ rfl _ _ rfl _ _ (HCi.out) (HGi.out) Try.underlying33 rfl (HXI.out) ?_; simp only [Act.put, List.setIfInBounds_toArray, List.set_cons_zero, List.set_cons_succ]; go_big_quiet_on)
            (go_big_quiet_want; go_big_quiet_op; go_big_quiet_call ((go_at_call 13; exact Calls.bw (K1.out _))))
            iterate 8 (first | go_big_quiet_step (fail) | (go_big_quiet_want; go_simp; go_big_quiet_on))
            (go_big_quiet_want; refine quiet_load_cells 33 _ rfl _ _ rfl _ _ (HCi.out) (HGi.out) Try.underlying33 rfl (HXI.out) ?_; simp only [Act.put, List.setIfInBounds_toArray, List.set_cons_zero, List.set_cons_succ]; go_big_quiet_on)
            (go_big_quiet_want; go_big_quiet_op; go_big_quiet_call ((go_at_call 14; exact Calls.bw (K2.out _))))
            iterate 11 (first | go_big_quiet_step (fail) | (go_big_quiet_want; go_simp; go_big_quiet_on))
            iterate 13 (first | go_big_quiet_step (fail) | (go_big_quiet_want; go_simp; go_big_quiet_on))
            refine wpQuiet_nil ?_; rintro w' ⟨X, rfl⟩
            obtain ⟨w9, hw9⟩ : ∃ w2, w2 = X.1 := ⟨_, rfl⟩
            have HS9 := hid (show SumS w w9 p s ids (some ⟨gi, oi, none⟩) Ae Al by rw [hw9]; exact HS.out.kept X.2)
            rw [← hw9]
            clear hw9 X HS hd1 hd2 K1 K2
            go_wp2
            refine ⟨⟨1, by omega, by go_num, by rw [HTK.out.1], by rw [HTK.out.2, ← wrap_add, ← HHW.out, IntWalk.i64_left], HS9⟩, by simp [intOf]; omega⟩
          · obtain ⟨j, rfl⟩ : ∃ j, k = j + 1 := ⟨k - 1, by omega⟩
            obtain ⟨z, hz⟩ : ∃ z, ids[j]? = some z := ⟨ids[j], by simp [show j < ids.length by omega]⟩
            have hzx : ahdF z.1 x.1 = true := by
              rw [ahd_num _ _ (by rw [z.2.1, x.2.1]) z.2.2 x.2.2]
              have hx := HXA.out
              obtain ⟨h1, rfl⟩ := List.getElem?_eq_some_iff.1 hz
              obtain ⟨h2, rfl⟩ := List.getElem?_eq_some_iff.1 hx
              exact decide_eq_true (List.pairwise_iff_getElem.1 HPW.out j (j + 1) h1 h2 (by omega))
            have K3 := hid (fun X : Bw wr => ahead_any z x X.1)
            rw [hzx] at K3
            have HCz := hid (HS.out.idC hz).1
            have HZI := hid (idV_info z)
            have hjw : IntKind.i64.wrap ((j : Int) + 1 - 1) = (j : Int) := IntWalk.i64_in _ (by omega) |>.trans (by omega)
            have hj2 : (j : Int) < (ids.length : Int) := by omega
            have hj3 : j < ids.length := by omega
            clear hzx hz hk0
            go_wp2_with fail
            refine wp_region_bw (by kernel_rfl) (by kernel_rfl) ?_
            iterate 4 (first | go_big_quiet_step (fail) | (go_big_quiet_want; go_simp; go_big_quiet_on))
            (go_big_quiet_want; refine quiet_load_cells 33 _ rfl _ _ rfl _ _ (HCi.out) (HGi.out) Try.underlying33 rfl (HXI.out) ?_; simp only [Act.put, List.setIfInBounds_toArray, List.set_cons_zero, List.set_cons_succ]; go_big_quiet_on)
            (go_big_quiet_want; go_big_quiet_op; go_big_quiet_call ((go_at_call 13; exact Calls.bw (K1.out _))))
            iterate 8 (first | go_big_quiet_step (fail) | (go_big_quiet_want; go_simp; go_big_quiet_on))
            (go_big_quiet_want; refine quiet_load_cells 33 _ rfl _ _ rfl _ _ (HCi.out) (HGi.out) Try.underlying33 rfl (HXI.out) ?_; simp only [Act.put, List.setIfInBounds_toArray, List.set_cons_zero, List.set_cons_succ]; go_big_quiet_on)
            (go_big_quiet_want; go_big_quiet_op; go_big_quiet_call ((go_at_call 14; exact Calls.bw (K2.out _))))
            iterate 11 (first | go_big_quiet_step (fail) | (go_big_quiet_want; go_simp; go_big_quiet_on))
            iterate 4 (first | go_big_quiet_step (fail) | (go_big_quiet_want; go_simp; go_big_quiet_on))
            (go_big_quiet_want; refine quiet_load_cells 33 _ rfl _ _ rfl _ _ (HCz.out) (HGi.out) Try.underlying33 rfl (HZI.out) ?_; simp only [Act.put, List.setIfInBounds_toArray, List.set_cons_zero, List.set_cons_succ]; go_big_quiet_on)
            iterate 3 (first | go_big_quiet_step (fail) | (go_big_quiet_want; go_simp; go_big_quiet_on))
            (go_big_quiet_want; refine quiet_load_cells 33 _ rfl _ _ rfl _ _ (HCi.out) (HGi.out) Try.underlying33 rfl (HXI.out) ?_; simp only [Act.put, List.setIfInBounds_toArray, List.set_cons_zero, List.set_cons_succ]; go_big_quiet_on)
            (go_big_quiet_want; go_big_quiet_op; go_big_quiet_call ((go_at_call 15; exact Calls.bw (K3.out _))))
            iterate 3 (first | go_big_quiet_step (fail) | (go_big_quiet_want; go_simp; go_big_quiet_on))
            refine wpQuiet_nil ?_; rintro w' ⟨X, rfl⟩
            obtain ⟨w9, hw9⟩ : ∃ w2, w2 = X.1 := ⟨_, rfl⟩
            have HS9 := hid (show SumS w w9 p s ids (some ⟨gi, oi, none⟩) Ae Al by rw [hw9]; exact HS.out.kept X.2)
            rw [← hw9]
            clear hw9 X HS hd1 hd2 K1 K2 K3 hjw hj2 hj3
            go_wp2
            refine ⟨⟨j + 1 + 1, by omega, by go_num, by rw [HTK.out.1], by rw [HTK.out.2, ← wrap_add, ← HHW.out, IntWalk.i64_left], HS9⟩, by simp [intOf]; omega⟩
    · have hki : ¬ ((k : Int) < (ids.length : Int)) := by omega
      have htk : ids.take k = ids := List.take_of_length_le (by omega)
      rw [htk]
      obtain ⟨lo, hlo⟩ : ∃ lo, lo = lowS (sumE s.E) ids := ⟨_, rfl⟩
      obtain ⟨hi, hhi⟩ : ∃ hi, hi = IntKind.i64.wrap (highS (sumE s.E) ids) := ⟨_, rfl⟩
      have HZ2 : Hid (IntKind.i64.wrap (IntKind.i64.wrap (hi * 1000003) + lo) = 0) := hid (by rw [hhi, hlo]; exact wrap_zero HZ.out)
      rw [← hlo, ← hhi]
      clear htk hlo hhi
      go_wp2_with fail
      go_loopw [12] (fun j wr => ∃ m : Nat, m ≤ s.E.length ∧ j = .int .i64 m ∧ Hid (SumS w wr p s ids Ai Ae Al)) (fun j _ => s.E.length - (intOf j).toNat)
      case atStart => exact ⟨0, by omega, rfl, HS⟩
      case round =>
        clear HS
        obtain ⟨m, hm, rfl, HS⟩ := hrel
        by_cases hlm : m < s.E.length
        · have hmi : (m : Int) < (s.E.length : Int) := by omega
          obtain ⟨y, hy⟩ : ∃ y, s.E[m]? = some y := ⟨s.E[m], by simp [hlm]⟩
          obtain ⟨ge, oe, rfl⟩ := HS.out.enAt hy
          have hym := List.mem_of_getElem? hy
          obtain ⟨ya1, ya2, ya3⟩ := INV.out.good.mem y hym
          obtain ⟨ym1, ym2⟩ := HKM.out y hym
          have HYto := hid (idV_info y.to)
          have HYfr := hid (idV_info y.fr)
          have HC := hid (HS.out.enC hy)
          have HCfr := hid (box_fr HC.out.1)
          have HCto := hid (en_to HC.out.1)
          have hca := box_amt HC.out.1
          have HGe := hid HC.out.2
          have hge := HC.out.2
          have heq := eq_ids y.fr.1 y.to.1 y.fr.2 y.to.2
          rw [decide_eq_false (show ¬ y.fr.1 = y.to.1 from fun h => ya3 (Subtype.ext h))] at heq
          have K1 := hid (fun X : Bw wr => in_any ids Ai ci y.fr (by omega) X.1 (HS.out.kept X.2).ids)
          have K2 := hid (fun X : Bw wr => in_any ids Ai ci y.to (by omega) X.1 (HS.out.kept X.2).ids)
          rw [decide_eq_true ym1] at K1
          rw [decide_eq_true ym2] at K2
          have hd1 : decide (y.amt < 1) = false := decide_eq_false (by omega)
          clear hy hym ya3 ym1 ym2
          go_wp2_with fail
          refine wp_region_bw (by kernel_rfl) (by kernel_rfl) ?_
          iterate 4 (first | go_big_quiet_step (fail) | (go_big_quiet_want; go_simp; go_big_quiet_on))
          (go_big_quiet_want; refine quiet_load_cell 3 _ rfl _ _ rfl _ (hca) (fun w h => by go_simp) ?_; simp only [Act.put, List.setIfInBounds_toArray, List.set_cons_zero, List.set_cons_succ]; go_big_quiet_on)
          iterate 6 (first | go_big_quiet_step (fail) | (go_big_quiet_want; go_simp; go_big_quiet_on))
          (go_big_quiet_want; refine quiet_load_cells 33 _ rfl _ _ rfl _ _ (HCfr.out) (HGe.out) Try.underlying33 rfl (HYfr.out) ?_; simp only [Act.put, List.setIfInBounds_toArray, List.set_cons_zero, List.set_cons_succ]; go_big_quiet_on)
          iterate 4 (first | go_big_quiet_step (fail) | (go_big_quiet_want; go_simp; go_big_quiet_on))
          (go_big_quiet_want; refine quiet_load_cells 33 _ rfl _ _ rfl _ _ (HCto.out) (HGe.out) Try.underlying33 rfl (HYto.out) ?_; simp only [Act.put, List.setIfInBounds_toArray, List.set_cons_zero, List.set_cons_succ]; go_big_quiet_on)
          iterate 8 (first | go_big_quiet_step (fail) | (go_big_quiet_want; go_simp; go_big_quiet_on))
          (go_big_quiet_want; refine quiet_load_cells 33 _ rfl _ _ rfl _ _ (HCfr.out) (HGe.out) Try.underlying33 rfl (HYfr.out) ?_; simp only [Act.put, List.setIfInBounds_toArray, List.set_cons_zero, List.set_cons_succ]; go_big_quiet_on)
          (go_big_quiet_want; go_big_quiet_op; go_big_quiet_call ((go_at_call 16; exact Calls.bw (K1.out _))))
          iterate 8 (first | go_big_quiet_step (fail) | (go_big_quiet_want; go_simp; go_big_quiet_on))
          (go_big_quiet_want; refine quiet_load_cells 33 _ rfl _ _ rfl _ _ (HCto.out) (HGe.out) Try.underlying33 rfl (HYto.out) ?_; simp only [Act.put, List.setIfInBounds_toArray, List.set_cons_zero, List.set_cons_succ]; go_big_quiet_on)
          (go_big_quiet_want; go_big_quiet_op; go_big_quiet_call ((go_at_call 16; exact Calls.bw (K2.out _))))
          iterate 2 (first | go_big_quiet_step (fail) | (go_big_quiet_want; go_simp; go_big_quiet_on))
          refine wpQuiet_nil ?_; rintro w' ⟨X, rfl⟩
          obtain ⟨w9, hw9⟩ : ∃ w2, w2 = X.1 := ⟨_, rfl⟩
          have HS9 := hid (show SumS w w9 p s ids Ai (some ⟨ge, oe, none⟩) Al by rw [hw9]; exact HS.out.kept X.2)
          rw [← hw9]
          clear hw9 X HS hd1 K1 K2 heq hca hge
          go_wp2
          refine ⟨⟨m + 1, by omega, by go_num, HS9⟩, by simp [intOf]; omega⟩
        · have hmi : ¬ ((m : Int) < (s.E.length : Int)) := by omega
          have hz2 := HZ2.out
          clear hlm hm
          go_wp2
          go_ret
          rw [IntWalk.i64_left, IntWalk.i64_left] at hz2
          exact ⟨by simp; exact hz2, HS.out.led.below⟩
end Go.Proofs.Ytnapfjgokeloeaa
