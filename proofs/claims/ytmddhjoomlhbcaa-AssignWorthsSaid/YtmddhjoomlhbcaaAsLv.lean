/- The walk of 'lives'. -/
import Derived.Test.YtmddhjoomlhbcaaAsLi
import Derived.Test.YtmddhjoomlhbcaaAsBb
namespace Go.Proofs.Ytmddhjoomlhbcaa
open Go.RowKit

theorem lit_rows {α : Type} {f : α → Array Value} {s : Nat} (hs : ∀ x, (f x).size = s) {w : World} {g : Nat} {T : TypeId} {fr : Nat × Nat} {cs : Array Value} (h : w.heap[g]? = some (.cells cs T fr)) {l : List α} (hc : cs.toList = flatV f l) : RowsAt s f w (some ⟨g, 0, none⟩) l := by
  refine .inr ⟨g, 0, rfl, heap_lt h, fun i x hx j v hj => row_cell h _ _ ?_⟩
  have h9 := flatV_get hs l i x hx j v hj
  rw [← hc] at h9
  rw [show 0 + s * i + j = s * i + j by omega]
  simpa using h9

theorem CertAt.kept' {w w' : World} {v : Value} {ps : List (Int × Int)} {ys zs : List Int} (h : CertAt w v ps ys zs) (hb : Below w.heap.size w w') : CertAt w' v ps ys zs := by
  obtain ⟨Xp, xp, Xy, xy, Xz, xz, hx, hcp, hcy, hcz, r1, r2, r3⟩ := h.at_
  exact ⟨Xp, xp, Xy, xy, Xz, xz, hx, hcp, hcy, hcz, r1.kept hb, r2.kept hb, r3.kept hb⟩

theorem lit_cert (w : World) (P I : TypeId) (ps : List (Int × Int)) (ys zs : List Int) (c1 c2 c3 : Array Value) (h1 : c1.toList = flatV prV ps) (h2 : c2.toList = flatV numV ys) (h3 : c3.toList = flatV numV zs) :
    CertAt (((w.alloc (.cells c1 P)).alloc (.cells c2 I)).alloc (.cells c3 I)) (.agg #[.slice (some ⟨w.heap.size, 0, none⟩) ps.length ps.length, .slice (some ⟨w.heap.size + 1, 0, none⟩) ys.length ys.length, .slice (some ⟨w.heap.size + 1 + 1, 0, none⟩) zs.length zs.length]) ps ys zs ∧
      Below w.heap.size w (((w.alloc (.cells c1 P)).alloc (.cells c2 I)).alloc (.cells c3 I)) := by
  have k1 := heap_alloc_new w (.cells c1 P)
  have k2 := heap_2 w (.cells c1 P) (.cells c2 I)
  have k3 := heap_2 (w.alloc (.cells c1 P)) (.cells c2 I) (.cells c3 I)
  rw [alloc_size] at k3
  refine ⟨⟨_, _, _, _, _, _, rfl, Nat.le_refl _, Nat.le_refl _, Nat.le_refl _, lit_rows (f := prV) (s := 2) (fun _ => rfl) (alloc_keep (alloc_keep k1 _) _) h1, lit_rows (f := numV) (s := 1) (fun _ => rfl) (alloc_keep k2 _) h2, lit_rows (f := numV) (s := 1) (fun _ => rfl) k3 h3⟩, ?_⟩
  exact (((Below.refl _ _).alloc (Nat.le_refl _) _).alloc (by simp) _).alloc (by simp; omega) _

set_option maxRecDepth 100000 in
set_option maxHeartbeats 8000000 in
theorem lives_any (w : World) : Calls Try.prog 20 #[] w fun e w' => e = .returned (.bool true) ∧ Below w.heap.size w w' := by
  go_enter Try.func20, Try.ntmps20
  go_upto_region 2 with fail
  have HE1 : Hid (RowsAt 3 edV ((w.alloc (.cells #[.int .i64 0, .int .i64 0, .int .i64 13, .int .i64 1, .int .i64 0, .int .i64 18] 47)).alloc (.cells #[.int .i64 2, .int .i64 1, .slice (some ⟨w.heap.size, 0, none⟩) 2 2] 24)) (some ⟨w.heap.size, 0, none⟩) lg1.es) :=
    hid (lit_rows (f := edV) (s := 3) (l := lg1.es) (fun _ => rfl) (alloc_keep (heap_alloc_new w (.cells #[.int .i64 0, .int .i64 0, .int .i64 13, .int .i64 1, .int .i64 0, .int .i64 18] 47)) _) rfl)
  have HG1 := hid (heap_2 w (.cells #[.int .i64 0, .int .i64 0, .int .i64 13, .int .i64 1, .int .i64 0, .int .i64 18] 47) (.cells #[.int .i64 2, .int .i64 1, .slice (some ⟨w.heap.size, 0, none⟩) 2 2] 24))
  have HB1 := hid (show Below w.heap.size w ((w.alloc (.cells #[.int .i64 0, .int .i64 0, .int .i64 13, .int .i64 1, .int .i64 0, .int .i64 18] 47)).alloc (.cells #[.int .i64 2, .int .i64 1, .slice (some ⟨w.heap.size, 0, none⟩) 2 2] 24)) from ((Below.refl _ _).alloc (Nat.le_refl _) _).alloc (by simp) _)
  generalize (w.alloc (.cells #[.int .i64 0, .int .i64 0, .int .i64 13, .int .i64 1, .int .i64 0, .int .i64 18] 47)).alloc (.cells #[.int .i64 2, .int .i64 1, .slice (some ⟨w.heap.size, 0, none⟩) 2 2] 24) = w1 at *
  generalize hb1 : w.heap.size + 1 = b1 at *
  clear hb1
  go_wp2_with (refine wpList_load_w rfl 24 _ rfl _ rfl _ _ _ _ (HG1.out) Try.underlying24 rfl (info_gr) ?_)
  have ok1 : GrOk lg1 2 := by refine ⟨?_, ?_, ?_, ?_, ?_⟩ <;> simp [lg1, I64, EdOk]
  have OK1 := hid ok1
  clear ok1
  refine (best_any lg1 (some ⟨w.heap.size, 0, none⟩) 2 OK1.out w1 HE1.out).mono ?_
  rintro e w2 ⟨hb, hc⟩
  rcases hc with ⟨hc, _⟩ | ⟨_, tt, y, z, v, ha, rfl, hcv⟩
  · rw [lg1_chk] at hc; cases hc
  have ha2 := lg1_ans ha
  have hcv2 : CertAt w2 v [(1, 0)] [0, 5] [13] := by
    have e1 : prsTo tt lg1.rows.toNat = [(1, 0)] := ha2.1
    have e2 : y.take lg1.rows.toNat = [0, 5] := ha2.2.1
    have e3 : z.take lg1.cols.toNat = [13] := ha2.2.2
    rw [e1, e2, e3] at hcv
    exact hcv
  have HE2 := hid (HE1.out.kept hb)
  have HG2 := hid (below_keep hb HG1.out)
  have HB2 := hid (HB1.out.trans (hb.mono HB1.out.size))
  clear hb ha ha2 hcv HE1 HG1 HB1
  obtain ⟨Ap, cp, Ay, cy, Az, cz, rfl, hcp, hcy, hcz, r1, r2, r3⟩ := hcv2.at_
  have HA2 := hid (And.intro hcp (And.intro hcy (And.intro hcz (And.intro r1 (And.intro r2 r3)))))
  clear hcp hcy hcz r1 r2 r3 hcv2
  go_upto_region 3 with fail
  have hb3 : Below w2.heap.size w2 (w2.alloc (.cells #[.slice Ap 1 cp, .slice Ay 2 cy, .slice Az 1 cz] 39)) := (Below.refl _ _).alloc (Nat.le_refl _) _
  have HC3 := hid (heap_alloc_new w2 (.cells #[.slice Ap 1 cp, .slice Ay 2 cy, .slice Az 1 cz] 39))
  have HE3 := hid (HE2.out.kept hb3)
  have HG3 := hid (below_keep hb3 HG2.out)
  have HB3 := hid (HB2.out.trans (hb3.mono HB2.out.size))
  have HA3 := hid (show CertAt (w2.alloc (.cells #[.slice Ap 1 cp, .slice Ay 2 cy, .slice Az 1 cz] 39)) (.agg #[.slice Ap 1 cp, .slice Ay 2 cy, .slice Az 1 cz]) [(1, 0)] [0, 5] [13] from ⟨Ap, cp, Ay, cy, Az, cz, rfl, HA2.out.1, HA2.out.2.1, HA2.out.2.2.1, HA2.out.2.2.2.1.kept hb3, HA2.out.2.2.2.2.1.kept hb3, HA2.out.2.2.2.2.2.kept hb3⟩)
  clear hb3 HE2 HG2 HB2 HA2
  generalize w2.alloc (.cells #[.slice Ap 1 cp, .slice Ay 2 cy, .slice Az 1 cz] 39) = w3 at *
  generalize w2.heap.size = b2 at *
  go_wp2_with (refine wpList_load_w rfl 24 _ rfl _ rfl _ _ _ _ (HG3.out) Try.underlying24 rfl (info_gr) ?_)
  have hb4 : Below w3.heap.size w3 (w3.alloc (.cells #[.int .i64 0, .int .i64 0] 45)) := (Below.refl _ _).alloc (Nat.le_refl _) _
  have CW := worth_any lg1 (some ⟨w.heap.size, 0, none⟩) 2 OK1.out [(0, 0)] (some ⟨w3.heap.size, 0, none⟩) 1 (by simp) (by intro p hp; simp at hp; subst hp; unfold I64; constructor <;> omega) (w3.alloc (.cells #[.int .i64 0, .int .i64 0] 45)) (HE3.out.kept hb4) (lit_rows (f := prV) (s := 2) (l := [(0, 0)]) (fun _ => rfl) (heap_alloc_new w3 (.cells #[.int .i64 0, .int .i64 0] 45)) rfl)
  rw [lg1_worth] at CW
  refine CW.mono ?_
  clear CW
  rintro e w4 ⟨rfl, hb⟩
  have hb5 : Below w3.heap.size w3 w4 := hb4.trans (hb.mono hb4.size)
  have HC4 := hid (below_keep hb5 HC3.out)
  have HB4 := hid (HB3.out.trans (hb5.mono HB3.out.size))
  obtain ⟨Xp, xp, Xy, xy, Xz, xz, hx, hcp, hcy, hcz, r1, r2, r3⟩ := HA3.out.at_
  have HA4 := hid (show CertAt w4 (.agg #[.slice Ap 1 cp, .slice Ay 2 cy, .slice Az 1 cz]) [(1, 0)] [0, 5] [13] from ⟨Xp, xp, Xy, xy, Xz, xz, hx, hcp, hcy, hcz, r1.kept hb5, r2.kept hb5, r3.kept hb5⟩)
  clear hb hb4 hb5 hx hcp hcy hcz r1 r2 r3 HE3 HG3 HB3 HC3 HA3 OK1
  go_upto_region 5 with fail
  have hb5 : Below w4.heap.size w4 ((w4.alloc (.cells #[.int .i64 0, .int .i64 0, .int .i64 3, .int .i64 0, .int .i64 1, .int .i64 2, .int .i64 1, .int .i64 0, .int .i64 2] 47)).alloc (.cells #[.int .i64 2, .int .i64 2, .slice (some ⟨w4.heap.size, 0, none⟩) 3 3] 24)) := ((Below.refl _ _).alloc (Nat.le_refl _) _).alloc (by simp) _
  have HE5 : Hid (RowsAt 3 edV ((w4.alloc (.cells #[.int .i64 0, .int .i64 0, .int .i64 3, .int .i64 0, .int .i64 1, .int .i64 2, .int .i64 1, .int .i64 0, .int .i64 2] 47)).alloc (.cells #[.int .i64 2, .int .i64 2, .slice (some ⟨w4.heap.size, 0, none⟩) 3 3] 24)) (some ⟨w4.heap.size, 0, none⟩) lg2.es) :=
    hid (lit_rows (f := edV) (s := 3) (l := lg2.es) (fun _ => rfl) (alloc_keep (heap_alloc_new w4 (.cells #[.int .i64 0, .int .i64 0, .int .i64 3, .int .i64 0, .int .i64 1, .int .i64 2, .int .i64 1, .int .i64 0, .int .i64 2] 47)) _) rfl)
  have HG5 := hid (heap_2 w4 (.cells #[.int .i64 0, .int .i64 0, .int .i64 3, .int .i64 0, .int .i64 1, .int .i64 2, .int .i64 1, .int .i64 0, .int .i64 2] 47) (.cells #[.int .i64 2, .int .i64 2, .slice (some ⟨w4.heap.size, 0, none⟩) 3 3] 24))
  have HC5 := hid (below_keep hb5 HC4.out)
  have HB5 := hid (HB4.out.trans (hb5.mono HB4.out.size))
  have HA5 := hid (HA4.out.kept' hb5)
  clear hb5 HC4 HB4 HA4
  generalize ((w4.alloc (.cells #[.int .i64 0, .int .i64 0, .int .i64 3, .int .i64 0, .int .i64 1, .int .i64 2, .int .i64 1, .int .i64 0, .int .i64 2] 47)).alloc (.cells #[.int .i64 2, .int .i64 2, .slice (some ⟨w4.heap.size, 0, none⟩) 3 3] 24)) = w5 at *
  generalize w4.heap.size + 1 = b5 at *
  generalize w4.heap.size = b4 at *
  go_wp2_with (refine wpList_load_w rfl 24 _ rfl _ rfl _ _ _ _ (HG5.out) Try.underlying24 rfl (info_gr) ?_)
  have ok2 : GrOk lg2 3 := by refine ⟨?_, ?_, ?_, ?_, ?_⟩ <;> simp [lg2, I64, EdOk]
  refine (best_any lg2 (some ⟨b4, 0, none⟩) 3 ok2 w5 HE5.out).mono ?_
  clear ok2
  rintro e w6 ⟨hb, hc⟩
  rcases hc with ⟨hc, _⟩ | ⟨_, tt2, y2, z2, v2, ha, rfl, hcv⟩
  · rw [lg2_chk] at hc; cases hc
  have ha2 := lg2_ans ha
  have hcv2 : CertAt w6 v2 [(0, 1), (1, 0)] [2, 1] [1, 0] := by
    have e1 : prsTo tt2 lg2.rows.toNat = [(0, 1), (1, 0)] := ha2.1
    have e2 : y2.take lg2.rows.toNat = [2, 1] := ha2.2.1
    have e3 : z2.take lg2.cols.toNat = [1, 0] := ha2.2.2
    rw [e1, e2, e3] at hcv
    exact hcv
  have HC6 := hid (below_keep hb HC5.out)
  have HB6 := hid (HB5.out.trans (hb.mono HB5.out.size))
  have HA6 := hid (HA5.out.kept' hb)
  clear hb ha ha2 hcv HE5 HG5 HB5 HC5 HA5
  obtain ⟨Bp, dp, By, dy, Bz, dz, rfl, hcp, hcy, hcz, r1, r2, r3⟩ := hcv2.at_
  have HD6 := hid hcv2
  clear hcp hcy hcz r1 r2 r3 hcv2
  go_upto_region 6 with fail
  have hb7 : Below w6.heap.size w6 (w6.alloc (.cells #[.slice Bp 2 dp, .slice By 2 dy, .slice Bz 2 dz] 39)) := (Below.refl _ _).alloc (Nat.le_refl _) _
  have HH7 := hid (heap_alloc_new w6 (.cells #[.slice Bp 2 dp, .slice By 2 dy, .slice Bz 2 dz] 39))
  have HC7 := hid (below_keep hb7 HC6.out)
  have HB7 := hid (HB6.out.trans (hb7.mono HB6.out.size))
  have HA7 := hid (HA6.out.kept' hb7)
  have HD7 := hid (HD6.out.kept' hb7)
  clear hb7 HC6 HB6 HA6 HD6
  have HIC : Hid ((Try.prog.info? 39).map (·.size) = some 3) := hid info_cert
  generalize w6.alloc (.cells #[.slice Bp 2 dp, .slice By 2 dy, .slice Bz 2 dz] 39) = w7 at *
  generalize w6.heap.size = b7 at *
  go_wp2_with (refine wpList_load_w rfl 39 _ rfl _ rfl _ _ _ _ (HC7.out) Try.underlying39 rfl (HIC.out) ?_)
  have hl8 := lit_cert w7 45 3 [(1, 0)] [0, 5] [13] #[.int .i64 1, .int .i64 0] #[.int .i64 0, .int .i64 5] #[.int .i64 13] rfl rfl rfl
  have CS := sameCert_any _ (.agg #[.slice Ap 1 cp, .slice Ay 2 cy, .slice Az 1 cz]) _ [(1, 0)] [(1, 0)] [0, 5] [13] [0, 5] [13] (HA7.out.kept' hl8.2) hl8.1 (by decide) (by decide)
  rw [show (decide ([((1 : Int), (0 : Int))] = [(1, 0)]) && (decide ([(0 : Int), 5] = [0, 5]) && decide ([(13 : Int)] = [13]))) = true from by decide] at CS
  have HL8 := hid hl8.2
  clear hl8
  refine CS.mono ?_
  clear CS
  rintro e w9 ⟨rfl, hb⟩
  have hb9 : Below w7.heap.size w7 w9 := HL8.out.trans (hb.mono HL8.out.size)
  have HH9 := hid (below_keep hb9 HH7.out)
  have HB9 := hid (HB7.out.trans (hb9.mono HB7.out.size))
  have HD9 := hid (HD7.out.kept' hb9)
  clear hb hb9 HL8 HC7 HB7 HD7 HA7 HH7
  go_wp2_with (refine wpList_load_w rfl 39 _ rfl _ rfl _ _ _ _ (HH9.out) Try.underlying39 rfl (HIC.out) ?_)
  have hl8 := lit_cert w9 45 3 [(0, 1), (1, 0)] [2, 1] [1, 0] #[.int .i64 0, .int .i64 1, .int .i64 1, .int .i64 0] #[.int .i64 2, .int .i64 1] #[.int .i64 1, .int .i64 0] rfl rfl rfl
  have CS := sameCert_any _ (.agg #[.slice Bp 2 dp, .slice By 2 dy, .slice Bz 2 dz]) _ [(0, 1), (1, 0)] [(0, 1), (1, 0)] [2, 1] [1, 0] [2, 1] [1, 0] (HD9.out.kept' hl8.2) hl8.1 (by decide) (by decide)
  rw [show (decide ([((0 : Int), (1 : Int)), (1, 0)] = [(0, 1), (1, 0)]) && (decide ([(2 : Int), 1] = [2, 1]) && decide ([(1 : Int), 0] = [1, 0]))) = true from by decide] at CS
  have HL8 := hid hl8.2
  clear hl8
  refine CS.mono ?_
  clear CS
  rintro e w10 ⟨rfl, hb⟩
  have hb9 : Below w9.heap.size w9 w10 := HL8.out.trans (hb.mono HL8.out.size)
  have HB10 := hid (HB9.out.trans (hb9.mono HB9.out.size))
  clear hb hb9 HL8 HB9 HD9 HH9
  go_wp2
  go_ret
  exact ⟨rfl, HB10.out⟩
end Go.Proofs.Ytmddhjoomlhbcaa
