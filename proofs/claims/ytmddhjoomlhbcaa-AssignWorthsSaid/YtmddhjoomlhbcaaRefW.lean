/- The walk of the reference's Worth. -/
import Derived.Test.YtmddhjoomlhbcaaRefP
import Derived.Test.YtmddhjoomlhbcaaRefR
namespace Go.Proofs.Ytmddhjoomlhbcaa
open Go.RowKit

set_option maxRecDepth 100000 in
set_option maxHeartbeats 8000000 in
theorem refWorth_any (g : Gr) (a : Option Addr) (cap : Nat) (hok : GrOk g cap) (l : List (Int × Int)) (A : Option Addr) (cl : Nat) (hl : l.length ≤ 1048576) (w : World) (hr : RowsAt 3 edV w a g.es) (hm : RowsAt 2 prV w A l) :
    Calls Try.prog 14 #[grV g a cap, .slice A l.length cl] w fun e w' => e = .returned (.tuple #[.int .i64 (worthF g l).1, .int .i64 (worthF g l).2]) ∧ Below w.heap.size w w' := by
  have HR := hid hr
  have HM := hid hm
  have HOK := hid hok
  have HLL := hid hl
  clear hr hm hok hl
  unfold grV at *
  go_enter Try.func14, Try.ntmps14
  go_upto_region 1 with fail
  have HS := hid (GBx.start (cap := cap) HR.out)
  generalize w.alloc (.cells #[.int .i64 g.rows, .int .i64 g.cols, .slice a g.es.length cap] 24) = w1 at *
  obtain ⟨gb, hgb⟩ : ∃ gb, gb = w.heap.size := ⟨_, rfl⟩
  rw [← hgb] at HS ⊢
  have HGB := hid hgb
  clear hgb
  go_wp2_with (refine wpList_load_w rfl 24 _ rfl _ rfl _ _ _ _ (HS.out.blk) Try.underlying24 rfl (info_gr) ?_)
  refine (right_any g a cap HOK.out w1 HS.out.es).mono ?_
  rintro e w2 ⟨rfl, hb⟩
  have HS2 := hid (HS.out.kept hb)
  clear hb HS
  by_cases hc : chk g = true
  case neg =>
    have hc' : chk g = false := by simpa using hc
    have HW : Hid (worthF g l = (0, 170)) := hid (by unfold worthF; rw [if_neg hc])
    rw [hc']
    clear hc hc'
    go_wp2
    go_ret2
    exact ⟨by rw [HW.out]; rfl, HS2.out.below⟩
  rw [hc]
  have HC := hid hc
  clear hc
  go_wp2_with (refine wpList_load_w rfl 24 _ rfl _ rfl _ _ _ _ (HS2.out.blk) Try.underlying24 rfl (info_gr) ?_)
  refine (matching_any g a cap HC.out l A cl HLL.out w2 HS2.out.es (HM.out.kept HS2.out.below)).mono ?_
  rintro e w3 ⟨hb, hcase⟩
  have HS3 := hid (HS2.out.kept hb)
  clear hb HS2
  rcases hcase with ⟨rfl, hall⟩ | ⟨rfl, i, hi, _, hno⟩
  case inr =>
    have HW : Hid (worthF g l = (0, 180)) := hid (worth_no HC.out fun h => hno (h i hi))
    clear hi hno
    go_wp2
    go_ret2
    exact ⟨by rw [HW.out]; rfl, HS3.out.below⟩
  have HALL := hid hall
  clear hall
  have HWS := hid (worth_sum HC.out HALL.out)
  have hsz := BestAns.sizes HC.out
  obtain ⟨R, hR⟩ : ∃ R, R = g.rows.toNat := ⟨_, rfl⟩
  rw [← hR] at hsz HWS
  obtain ⟨hR64, hC0, hRr, hCc⟩ := hsz
  clear hC0 hCc
  have HRr := hid hRr
  have HRC := hid hR
  clear hRr hR
  have b0 := HS3.out.rows HRr.out
  go_wp2_with fail
  refine (less1_any R hR64 w3).mono ?_
  rintro e w4 ⟨tb, rfl, htb, htt, hb⟩
  have HS4 := hid (HS3.out.kept hb)
  have HT4 := hid htt
  have HTB : Hid (gb < tb ∧ w3.heap.size ≤ tb) := hid ⟨by have := heap_lt HS3.out.blk; omega, htb⟩
  have HB4 := hid hb
  clear hb htt htb b0
  have hll : (l.length : Int) ≤ 1048576 := by have := HLL.out; omega
  go_wp2
  go_loopw [7] (fun i wx => ∃ j : Nat, j ≤ l.length ∧ i = .int .i64 j ∧ Hid (TabAt wx tb 3 (putL (List.replicate R (-1)) (l.take j))) ∧ Hid (Below w3.heap.size w3 wx)) (fun i _ => l.length - (intOf i).toNat)
  case atStart => exact ⟨0, by omega, rfl, HT4, HB4⟩
  case round =>
    clear HT4 HB4 HS4
    obtain ⟨j, hj, rfl, HT, HB⟩ := hrel
    have hjl : (j : Int) ≤ 1048576 := by omega
    by_cases hlt : j < l.length
    · have hki : (j : Int) < (l.length : Int) := by omega
      obtain ⟨⟨p1, p2⟩, hx⟩ : ∃ x, l[j]? = some x := ⟨l[j], by simp [hlt]⟩
      have hin := good_in (BestAns.sizes HC.out).2.1 (by simp) ((good_iff HC.out).2 HALL.out) _ (List.mem_of_getElem? hx)
      rw [← HRC.out] at hin
      obtain ⟨r, rfl⟩ : ∃ r : Nat, p1 = r := ⟨p1.toNat, by have := hin.1; omega⟩
      have hr1 : r < R := by have := hin.2.1; simp at this; exact this
      have HTK : Hid (l.take (j + 1) = l.take j ++ [((r : Int), p2)]) := hid (by
        obtain ⟨h1, h2⟩ := List.getElem?_eq_some_iff.1 hx
        rw [List.take_succ_eq_append_getElem h1, h2])
      obtain ⟨pg, po, hA, hpg, hcc⟩ := HM.out.get hx
      have hbw := below_tr HS3.out.below HB.out
      have q0 : wr.cell? ⟨pg, po + j * 2, none⟩ = some (.int .i64 r) := by
        have := (hcc.kept hbw hpg) 0 (.int .i64 r) rfl
        rw [Nat.mul_comm] at this; exact this
      have q1 : wr.cell? ⟨pg, po + j * 2 + 1, none⟩ = some (.int .i64 p2) := by
        have := (hcc.kept hbw hpg) 1 (.int .i64 p2) rfl
        rw [Nat.mul_comm] at this; exact this
      rw [← HGB.out] at hpg
      have e0 := HT.out.cellI (k := r) (by rw [putL_len]; simpa using hr1)
      have f0 := free_row HT.out r
      have n2 : tb ≠ pg := by have := HTB.out; omega
      have hrR : (r : Int) < (R : Int) := by omega
      subst hA
      clear hx hcc hpg hin hbw
      go_wp2
      go_region
      go_wp2
      refine ⟨⟨j + 1, by omega, by go_num, hid ?_, hid ?_⟩, by simp [intOf]; omega⟩
      · rw [HTK.out, putL_snoc]
        exact HT.out.set r p2
      · exact (HB.out.setCell HTB.out.2 _).drew
    · obtain rfl : j = l.length := by omega
      have hkr : ¬ ((l.length : Int) < (l.length : Int)) := by omega
      rw [List.take_length] at HT
      have HSr := hid (HS3.out.kept HB.out)
      have HTR := hid (tab_rows HT.out)
      obtain ⟨tl, htl⟩ : ∃ tl, tl = putL (List.replicate R (-1)) l := ⟨_, rfl⟩
      rw [← htl] at HTR HWS
      have hlen : tl.length = R := by rw [htl, putL_len]; simp
      have CS := hid ((sum_any g a cap HC.out tl (some ⟨tb, 0, none⟩) R (by rw [hlen, HRC.out]) wr HSr.out.es HTR.out))
      rw [hlen] at CS
      clear hj hlt htl hlen hjl
      go_wp2_with (refine wpList_load_w rfl 24 _ rfl _ rfl _ _ _ _ (HSr.out.blk) Try.underlying24 rfl (info_gr) ?_)
      refine CS.out.mono ?_
      rintro e w6 ⟨rfl, hb6⟩
      have HB6 := hid (below_tr HSr.out.below hb6)
      clear hb6
      go_wp2
      go_ret2
      exact ⟨by rw [HWS.out]; rfl, HB6.out⟩
end Go.Proofs.Ytmddhjoomlhbcaa
