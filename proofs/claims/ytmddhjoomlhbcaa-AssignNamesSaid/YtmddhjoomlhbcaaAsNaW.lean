/- The walk of AssignNames. -/
import Derived.Test.YtmddhjoomlhbcaaAsFu
namespace Go.Proofs.Ytmddhjoomlhbcaa
open Go.RowKit
attribute [local go_sem high] eqPair

def g65 : Gr := ⟨65, 0, []⟩
def gE0 : Gr := ⟨1, 1, [⟨0, 0, 0⟩]⟩
def g11 : Gr := ⟨1, 1, []⟩
def gC2 : Gr := ⟨0, 2, []⟩
theorem g65_chk : chk g65 = false := by decide +kernel
theorem gE0_chk : chk gE0 = false := by decide +kernel
theorem g11_chk : chk g11 = true := by decide +kernel
theorem gC2_chk : chk gC2 = true := by decide +kernel
theorem g11_worth : worthF g11 [(0, 0)] = (0, 180) := by
  have e : wG g11 0 0 = 0 := wG_eq g11_chk (fun h => absurd rfl h) (fun _ x hx => by simp [g11] at hx)
  unfold worthF
  rw [if_pos g11_chk]
  have hb : badP (wG g11) g11.rows.toNat g11.cols.toNat (List.replicate 64 false) (-1) (0, 0) = true := by
    unfold badP
    show (_ || decide (wG g11 0 0 = 0)) = true
    rw [e]; simp
  unfold worthL
  rw [hb]; rfl
theorem gr_ok0 (r c : Int) (hr : I64 r) (hc : I64 c) : GrOk ⟨r, c, []⟩ 0 := ⟨hr, hc, (fun x hx => by cases hx), Nat.le_refl _, by omega⟩

set_option maxRecDepth 100000 in
set_option maxHeartbeats 8000000 in
theorem names_any (w : World) : Calls Try.prog 12 #[] w fun e w' => e = .returned (.bool true) ∧ Below w.heap.size w w' := by
  have hu45 := Try.underlying45
  have CL := hid (fun (w' : World) => lives_any w')
  go_enter Try.func12, Try.ntmps12
  go_wp2_with fail
  refine (full_any _).mono ?_
  rintro e w1 ⟨A, cap, rfl, h1, h2, h3, h4⟩
  obtain ⟨g, hg⟩ : ∃ g, g = gF := ⟨_, rfl⟩
  have HBA := hid (fun tt y z (h : BestAns g tt y z) => full_ans (hg ▸ h))
  have hc : chk g = true := by rw [hg]; exact full_chk
  have hrr : g.rows.toNat = 64 ∧ g.cols.toNat = 64 := by rw [hg]; exact ⟨rfl, rfl⟩
  rw [← hg] at h1 h3 ⊢
  have HG := hid hg
  have HC := hid hc
  have HOK := hid (gr_ok hc h1 h2)
  have HES := hid h3
  have HB1 := hid h4
  have HRR := hid hrr
  clear hg hc hrr h1 h2 h3 h4
  go_wp2_with fail
  refine (lbest_any g A cap HOK.out (Nat.le_trans (es_len HC.out) (by omega)) w1 HES.out).mono ?_
  rintro e w2 ⟨hb, hcase⟩
  have HB2 := hid (below_tr HB1.out hb)
  clear hb HB1 HES
  rcases hcase with ⟨hc, _⟩ | ⟨_, tt, y, z, v, ha, rfl, hcv⟩
  · rw [HC.out] at hc; cases hc
  obtain ⟨k1, k2, k3, k4⟩ := HBA.out _ _ _ ha
  rw [HRR.out.1, HRR.out.2] at hcv
  rw [HRR.out.1, HG.out, k4]
  obtain ⟨ps, hps⟩ : ∃ ps, ps = prsTo tt 64 := ⟨_, rfl⟩
  obtain ⟨ys, hys⟩ : ∃ ys, ys = y.take 64 := ⟨_, rfl⟩
  obtain ⟨zs, hzs⟩ : ∃ zs, zs = z.take 64 := ⟨_, rfl⟩
  rw [← hps, ← hys, ← hzs] at hcv
  have HP := hid (fun i (hi : i < 64) => full_prs k1 hi)
  have HY : Hid (∀ i : Nat, i < 64 → ys[i]? = some (1099513724929 - (i : Int))) := hid (fun i hi => by rw [hys, take_get hi (by rw [ha.ly]; omega), k2 i hi])
  have HZ : Hid (∀ i : Nat, i < 64 → zs[i]? = some 0) := hid (fun i hi => by rw [hzs, take_get hi (by rw [ha.lz]; omega), k3 i hi])
  rw [← hps] at HP
  have hl1 : ps.length = 64 := by
    have h1 := prsTo_len tt 64
    rw [← hps] at h1
    have h2 := HP.out 63 (by omega)
    have h3 := (List.getElem?_eq_some_iff.1 h2).1
    omega
  have hl2 : ys.length = 64 := by rw [hys, List.length_take, ha.ly]; rfl
  have hl3 : zs.length = 64 := by rw [hzs, List.length_take, ha.lz]; rfl
  obtain ⟨Ap, cp, Ay, cy, Az, cz, rfl, _, _, _, r1, r2, r3⟩ := hcv.at_
  have HK := hid (CBx.start (cp := cp) (cy := cy) (cz := cz) r1 r2 r3)
  have hb3 := below_new w2 (.cells #[.slice Ap ps.length cp, .slice Ay ys.length cy, .slice Az zs.length cz] 39)
  have HB3 := hid (below_tr HB2.out hb3)
  rw [hl1, hl2, hl3] at HB3
  have HLS := hid (And.intro hl1 (And.intro hl2 hl3))
  rw [hl1, hl2, hl3]
  have HBLK : Hid ((w2.alloc (.cells #[.slice Ap 64 cp, .slice Ay 64 cy, .slice Az 64 cz] 39)).heap[w2.heap.size]? = some (.cells #[.slice Ap 64 cp, .slice Ay 64 cy, .slice Az 64 cz] 39 (0, 0))) := hid (heap_alloc_new _ _)
  have HPY := hid (show RowsAt 2 prV (w2.alloc (.cells #[.slice Ap 64 cp, .slice Ay 64 cy, .slice Az 64 cz] 39)) Ap ps ∧ RowsAt 1 numV (w2.alloc (.cells #[.slice Ap 64 cp, .slice Ay 64 cy, .slice Az 64 cz] 39)) Ay ys ∧ RowsAt 1 numV (w2.alloc (.cells #[.slice Ap 64 cp, .slice Ay 64 cy, .slice Az 64 cz] 39)) Az zs from ⟨r1.alloc _, r2.alloc _, r3.alloc _⟩)
  clear ha k1 k2 k3 k4 hps hys hzs hl1 hl2 hl3 hcv r1 r2 r3 hb3 HB2 HK
  go_upto_region 2 with fail
  generalize w2.alloc (.cells #[.slice Ap 64 cp, .slice Ay 64 cy, .slice Az 64 cz] 39) = w3 at *
  generalize w2.heap.size = cb at *
  have a0 := row_cell HBLK.out 0 (.slice Ap 64 cp) rfl
  go_wp2
  clear a0
  go_loopw [4] (fun i wx => ∃ j : Nat, j ≤ 64 ∧ i = .int .i64 j ∧ Hid (Below w3.heap.size w3 wx)) (fun i _ => 64 - (intOf i).toNat)
  case atStart => exact ⟨0, by omega, rfl, hid (Below.refl _ _)⟩
  case round =>
    obtain ⟨j, hj, rfl, HX⟩ := hrel
    by_cases hlt : j < 64
    · -- L1
      have hki : (j : Int) < 64 := by omega
      have a0 := row_cell (below_keep HX.out HBLK.out) 0 (.slice Ap 64 cp) rfl
      have a1 := row_cell (below_keep HX.out HBLK.out) 1 (.slice Ay 64 cy) rfl
      have a2 := row_cell (below_keep HX.out HBLK.out) 2 (.slice Az 64 cz) rfl
      obtain ⟨pg, po, hAp, _, hcc⟩ := (HPY.out.1.kept HX.out).get (HP.out j hlt)
      have HCE : Hid (CellsAt wr pg (po + j * 2) #[.int .i64 j, .int .i64 j]) := hid (by rw [Nat.mul_comm]; exact hcc)
      obtain ⟨ga, oa, hAy, e1⟩ := num_cell (HPY.out.2.1.kept HX.out) (HY.out j hlt)
      obtain ⟨gc, oc, hAz, e2⟩ := num_cell (HPY.out.2.2.kept HX.out) (HZ.out j hlt)
      subst hAp hAy hAz
      clear hcc
      go_wp2_with (refine wpList_load_cells rfl 45 _ rfl _ _ rfl _ _ HCE.out Try.underlying45 rfl info_pr ?_)
      exact ⟨⟨j + 1, by omega, by go_num, HX⟩, by simp [intOf]; omega⟩
      -- /L1
    · -- L2
      obtain rfl : j = 64 := by omega
      have hkr : ¬ ((64 : Nat) : Int) < 64 := by omega
      have HBX := hid (below_tr HB3.out HX.out)
      clear hj hlt HX HPY HBLK HP HY HZ HB3
      go_wp2_with fail
      refine (best_any g65 none 0 (gr_ok0 _ _ (by unfold I64; omega) (by unfold I64; omega)) _ (.inl rfl)).mono ?_
      rintro e w4 ⟨hb, hcase⟩
      have HB4 := hid (below_tr HBX.out hb)
      clear hb HBX
      rcases hcase with ⟨_, rfl⟩ | ⟨hc, _⟩
      case inr => rw [g65_chk] at hc; cases hc
      go_upto_region 10 with fail
      have HB5 := hid (below_tr HB4.out (below_new w4 (.cells #[.slice none 0 0, .slice none 0 0, .slice none 0 0] 39)))
      clear HB4
      generalize w4.alloc (.cells #[.slice none 0 0, .slice none 0 0, .slice none 0 0] 39) = w5 at *
      generalize w4.heap.size = c5 at *
      go_wp2_with fail
      refine (best_any gE0 (some ⟨w5.heap.size, 0, none⟩) 1 (by refine ⟨?_, ?_, ?_, ?_, ?_⟩ <;> simp [gE0, I64, EdOk]) _ (lit_rows (f := edV) (s := 3) (l := gE0.es) (fun _ => rfl) (heap_alloc_new w5 (.cells #[.int .i64 0, .int .i64 0, .int .i64 0] 47)) rfl)).mono ?_
      rintro e w6 ⟨hb, hcase⟩
      have HB6 := hid (below_tr (below_tr HB5.out (below_new w5 (.cells #[.int .i64 0, .int .i64 0, .int .i64 0] 47))) hb)
      clear hb HB5
      rcases hcase with ⟨_, rfl⟩ | ⟨hc, _⟩
      case inr => rw [gE0_chk] at hc; cases hc
      go_upto_region 11 with fail
      have HB7 := hid (below_tr HB6.out (below_new w6 (.cells #[.slice none 0 0, .slice none 0 0, .slice none 0 0] 39)))
      clear HB6
      generalize w6.alloc (.cells #[.slice none 0 0, .slice none 0 0, .slice none 0 0] 39) = w7 at *
      generalize w6.heap.size = c7 at *
      go_wp2_with fail
      have CW := worth_any g11 none 0 (gr_ok0 _ _ (by unfold I64; omega) (by unfold I64; omega)) [(0, 0)] (some ⟨w7.heap.size, 0, none⟩) 1 (by simp) (by intro p hp; simp at hp; subst hp; unfold I64; constructor <;> omega) (w7.alloc (.cells #[.int .i64 0, .int .i64 0] 45)) (.inl rfl) (lit_rows (f := prV) (s := 2) (l := [((0 : Int), (0 : Int))]) (fun _ => rfl) (heap_alloc_new w7 (.cells #[.int .i64 0, .int .i64 0] 45)) rfl)
      rw [g11_worth] at CW
      refine CW.mono ?_
      clear CW
      rintro e w8 ⟨rfl, hb⟩
      have HB8 := hid (below_tr (below_tr HB7.out (below_new w7 (.cells #[.int .i64 0, .int .i64 0] 45))) hb)
      clear hb HB7
      go_wp2_with fail
      refine (best_any gC2 none 0 (gr_ok0 _ _ (by unfold I64; omega) (by unfold I64; omega)) _ (.inl rfl)).mono ?_
      rintro e w9 ⟨hb, hcase⟩
      have HB9 := hid (below_tr HB8.out hb)
      clear hb HB8
      rcases hcase with ⟨hc, _⟩ | ⟨_, t2, y2, z2, v2, ha2, rfl, hcv⟩
      · rw [gC2_chk] at hc; cases hc
      obtain ⟨Bp, dp, By, dy, Bz, dz, rfl, _, _, _, _, _, _⟩ := hcv.at_
      have hl2 : (y2.take gC2.rows.toNat).length = 0 := by rw [List.length_take]; show min 0 _ = 0; omega
      have hl3 : (z2.take gC2.cols.toNat).length = 2 := by rw [List.length_take, ha2.lz]; rfl
      rw [hl2, hl3]
      clear hl2 hl3 hcv ha2
      generalize (prsTo t2 gC2.rows.toNat).length = np at *
      go_upto_region 13 with fail
      have HD := hid (heap_alloc_new w9 (.cells #[.slice Bp np dp, .slice By 0 dy, .slice Bz 2 dz] 39))
      have HB10 := hid (below_tr HB9.out (below_new w9 (.cells #[.slice Bp np dp, .slice By 0 dy, .slice Bz 2 dz] 39)))
      clear HB9
      generalize w9.alloc (.cells #[.slice Bp np dp, .slice By 0 dy, .slice Bz 2 dz] 39) = w10 at *
      generalize w9.heap.size = c10 at *
      go_wp2_with fail
      refine (CL.out _).mono ?_
      rintro e w11 ⟨rfl, hb⟩
      have d1 := row_cell (below_keep hb HD.out) 1 (.slice By 0 dy) rfl
      have d2 := row_cell (below_keep hb HD.out) 2 (.slice Bz 2 dz) rfl
      have HB11 := hid (below_tr HB10.out hb)
      clear hb HB10 HD
      go_wp2
      go_ret
      exact ⟨rfl, HB11.out⟩
      -- /L2
end Go.Proofs.Ytmddhjoomlhbcaa
