/- The walk of AssignWorths. -/
import Derived.Test.YtmddhjoomlhbcaaRefW
import Derived.Test.YtmddhjoomlhbcaaAsBe
namespace Go.Proofs.Ytmddhjoomlhbcaa
open Go.RowKit

set_option maxRecDepth 100000 in
set_option maxHeartbeats 8000000 in
theorem aworths_any (g : Gr) (a : Option Addr) (cap : Nat) (hok : GrOk g cap) (hes : g.es.length * 24 ≤ 140737488351232) (l : List (Int × Int)) (A : Option Addr) (cl : Nat) (hlp : ∀ p ∈ l, I64 p.1 ∧ I64 p.2) (hll : l.length * 16 ≤ 140737488351232) (w : World) (hr : RowsAt 3 edV w a g.es) (hm : RowsAt 2 prV w A l) :
    Calls Try.prog 3 #[grV g a cap, .slice A l.length cl] w fun e w' => e = .returned (.bool true) ∧ Below w.heap.size w w' := by
  have HR := hid hr
  have HM := hid hm
  have HOK := hid hok
  have HLP := hid hlp
  have HSZ := hid (And.intro hes hll)
  have hel : (g.es.length : Int) ≤ 9223372036854775807 := by omega
  have hlls : (l.length : Int) ≤ 9223372036854775807 := by omega
  clear hr hm hok hlp hes hll
  unfold grV at *
  go_enter Try.func3, Try.ntmps3
  go_upto_region 1 with fail
  have HS := hid (GBx.start (cap := cap) HR.out)
  generalize w.alloc (.cells #[.int .i64 g.rows, .int .i64 g.cols, .slice a g.es.length cap] 24) = w1 at *
  obtain ⟨gb, hgb⟩ : ∃ gb, gb = w.heap.size := ⟨_, rfl⟩
  rw [← hgb] at HS ⊢
  have HGB := hid hgb
  clear hgb
  have c2 := HS.out.list
  go_wp2_with fail
  have CB := beyond_any [(g.es.length : Int), (l.length : Int)] (some ⟨w1.heap.size, 0, none⟩) 2 (by simp) (by simp) (by have := HSZ.out; simp; omega) (w1.alloc (.cells #[.int .i64 g.es.length, .int .i64 l.length] 3)) (lit_rows (f := numV) (s := 1) (l := [(g.es.length : Int), (l.length : Int)]) (fun _ => rfl) (heap_alloc_new w1 (.cells #[.int .i64 g.es.length, .int .i64 l.length] 3)) rfl)
  rw [show [(g.es.length : Int), (l.length : Int)].sum = (g.es.length : Int) + (l.length : Int) from by simp] at CB
  refine CB.mono ?_
  clear CB
  rintro e w2 ⟨rfl, m, hm2⟩
  have hb2 : Below w1.heap.size w1 w2 := below_tr (below_new w1 (.cells #[.int .i64 g.es.length, .int .i64 l.length] 3)) (by rw [hm2]; exact below_dn _ m)
  have HS2 := hid (HS.out.kept hb2)
  clear hb2 hm2 HS c2
  by_cases hbig : 1048576 < (g.es.length : Int) + (l.length : Int)
  · rw [show decide (1048576 < (g.es.length : Int) + (l.length : Int)) = true from decide_eq_true hbig]
    clear hbig
    go_wp2
    go_ret
    exact ⟨rfl, HS2.out.below⟩
  rw [show decide (1048576 < (g.es.length : Int) + (l.length : Int)) = false from decide_eq_false hbig]
  have HLN : Hid (g.es.length ≤ 1048576 ∧ l.length ≤ 1048576) := hid (by omega)
  clear hbig hel hlls
  go_wp2_with (refine wpList_load_w rfl 24 _ rfl _ rfl _ _ _ _ (HS2.out.blk) Try.underlying24 rfl (info_gr) ?_)
  refine (refWorth_any g a cap HOK.out l A cl HLN.out.2 w2 HS2.out.es (HM.out.kept HS2.out.below)).mono ?_
  rintro e w3 ⟨rfl, hb⟩
  have HS3 := hid (HS2.out.kept hb)
  clear hb HS2
  obtain ⟨nn, hnn⟩ : ∃ nn, nn = (worthF g l).1 := ⟨_, rfl⟩
  obtain ⟨ee, hee⟩ : ∃ ee, ee = (worthF g l).2 := ⟨_, rfl⟩
  rw [← hnn, ← hee]
  have HWN := hid (And.intro hnn hee)
  clear hnn hee
  go_wp2_with (refine wpList_load_w rfl 24 _ rfl _ rfl _ _ _ _ (HS3.out.blk) Try.underlying24 rfl (info_gr) ?_)
  refine (twinGraph_any g a cap HLN.out.1 w3 HS3.out.es).mono ?_
  rintro e w4 ⟨tb, rfl, htb, hta, hb⟩
  unfold grV
  have HS4 := hid (HS3.out.kept hb)
  have HTA := hid hta
  have hb5 := below_new w4 (.cells #[.int .i64 g.rows, .int .i64 g.cols, .slice (some ⟨tb, 0, none⟩) g.es.length (g.es.length + 1)] 24)
  have HT5 : Hid (GBx w4 (w4.alloc (.cells #[.int .i64 g.rows, .int .i64 g.cols, .slice (some ⟨tb, 0, none⟩) g.es.length (g.es.length + 1)] 24)) g (some ⟨tb, 0, none⟩) (g.es.length + 1) w4.heap.size) := hid ⟨heap_alloc_new _ _, (hta.rows ⟨_, rfl⟩).alloc _, hb5⟩
  have HS5 := hid (HS4.out.kept hb5)
  have HTA5 : Hid (EdsAt (w4.alloc (.cells #[.int .i64 g.rows, .int .i64 g.cols, .slice (some ⟨tb, 0, none⟩) g.es.length (g.es.length + 1)] 24)) tb (g.es ++ [markEd])) := hid (alloc_keep hta _)
  clear hb hb5 hta htb HS3 HS4 HTA
  go_upto_region 5 with fail
  generalize w4.alloc (.cells #[.int .i64 g.rows, .int .i64 g.cols, .slice (some ⟨tb, 0, none⟩) g.es.length (g.es.length + 1)] 24) = w5 at *
  generalize w4.heap.size = xb at *
  go_wp2_with fail
  refine (twinPairs_any l A cl HLN.out.2 w5 (HM.out.kept HS5.out.below)).mono ?_
  rintro e w6 ⟨pb, rfl, hpb, hpa, hb⟩
  have HS6 := hid (HS5.out.kept hb)
  have HT6 := hid (HT5.out.kept hb)
  have HTA6 : Hid (EdsAt w6 tb (g.es ++ [markEd])) := hid (below_keep hb HTA5.out)
  have HPA6 := hid hpa
  clear hb hpb hpa HS5 HT5 HTA5
  have HOKT : Hid (GrOk g (g.es.length + 1)) := hid ⟨HOK.out.rows, HOK.out.cols, HOK.out.es, by omega, by have := HLN.out; omega⟩
  go_wp2_with (refine wpList_load_w rfl 24 _ rfl _ rfl _ _ _ _ (HT6.out.blk) Try.underlying24 rfl (info_gr) ?_)
  refine (worth_any g (some ⟨tb, 0, none⟩) (g.es.length + 1) HOKT.out l (some ⟨pb, 0, none⟩) (l.length + 1) (by have := HLN.out; omega) HLP.out w6 HT6.out.es (HPA6.out.rows ⟨_, rfl⟩)).mono ?_
  rintro e w7 ⟨rfl, hb⟩
  rw [← HWN.out.1, ← HWN.out.2]
  have HS7 := hid (HS6.out.kept hb)
  have HT7 := hid (HT6.out.kept hb)
  have HTA7 : Hid (EdsAt w7 tb (g.es ++ [markEd])) := hid (below_keep hb HTA6.out)
  have HPA7 : Hid (PrsAt w7 pb (l ++ [markP])) := hid (below_keep hb HPA6.out)
  clear hb HS6 HT6 HTA6 HPA6
  go_wp2_with (first | (refine wpList_load_w rfl 24 _ rfl _ rfl _ _ _ _ (HT7.out.blk) Try.underlying24 rfl (info_gr) ?_) | (refine wpList_load_w rfl 24 _ rfl _ rfl _ _ _ _ (HS7.out.blk) Try.underlying24 rfl (info_gr) ?_))
  refine (leftGraph_any g tb a cap HLN.out.1 w7 HTA7.out HS7.out.es).mono ?_
  rintro e w8 ⟨rfl, hb⟩
  have HS8 := hid (HS7.out.kept hb)
  have HPA8 : Hid (PrsAt w8 pb (l ++ [markP])) := hid (below_keep hb HPA7.out)
  clear hb HS7 HT7 HTA7 HPA7
  go_wp2_with fail
  refine (leftPairs_any l pb A cl HLN.out.2 w8 HPA8.out (HM.out.kept HS8.out.below)).mono ?_
  rintro e w9 ⟨rfl, hb⟩
  have HB9 := hid (below_tr HS8.out.below hb)
  clear hb HS8 HPA8
  go_wp2_with fail
  refine (lives_any _).mono ?_
  rintro e w10 ⟨rfl, hb⟩
  have HB10 := hid (below_tr HB9.out hb)
  clear hb
  go_wp2
  go_ret
  exact ⟨rfl, HB10.out⟩
end Go.Proofs.Ytmddhjoomlhbcaa
