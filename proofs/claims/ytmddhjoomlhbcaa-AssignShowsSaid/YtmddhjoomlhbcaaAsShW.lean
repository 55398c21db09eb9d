/- The walk of AssignShows. -/
import Derived.Test.YtmddhjoomlhbcaaAsBe
import Derived.Test.YtmddhjoomlhbcaaAsSp
import Derived.Test.YtmddhjoomlhbcaaAsLv
namespace Go.Proofs.Ytmddhjoomlhbcaa
open Go.RowKit

theorem sum_in : ∀ (l : List Int), (∀ x ∈ l, 0 ≤ x ∧ x ≤ 150000000000000) → 0 ≤ l.sum ∧ l.sum ≤ 150000000000000 * (l.length : Int)
  | [], _ => by simp
  | a :: l, h => by
    have h1 := sum_in l fun x hx => h x (by simp [hx])
    have h2 := h a (by simp)
    simp only [List.sum_cons, List.length_cons, Int.natCast_add, Int.natCast_one]
    omega

theorem rowFree {g : Gr} {tt y z : List Int} (hc : chk g = true) (h : BestAns g tt y z) {i : Nat} (hi : i < g.rows.toNat) {rl : List Bool} (hrl : rl = markB (List.replicate g.rows.toNat false) ((prsTo tt g.rows.toNat).map fun p => p.1.toNat)) :
    0 ≤ getI y i ∧ (getB rl i = false → getI y i = 0) := by
  refine ⟨(h.price_y hc hi).1, fun hb => ?_⟩
  have hg := markB_get (b := List.replicate g.rows.toNat false) (l := (prsTo tt g.rows.toNat).map fun p => p.1.toNat) (i := i) (by simpa using hi)
  rw [← hrl] at hg
  unfold getB at hb
  rw [hg] at hb
  simp only [Option.getD_some, List.getElem_replicate, Bool.false_or] at hb
  by_cases e : getI tt i < 0
  · exact h.y_none hi e
  · rcases h.val i hi with h1 | ⟨c, h1, _⟩
    · omega
    · have hm := BestAns.pair_of hi h1
      have : i ∈ (prsTo tt g.rows.toNat).map fun p => p.1.toNat := List.mem_map.2 ⟨_, hm, by simp⟩
      rw [List.contains_iff_mem.2 this] at hb
      cases hb
theorem colFree {g : Gr} {tt y z : List Int} (hc : chk g = true) (h : BestAns g tt y z) {i : Nat} (hi : i < g.cols.toNat) {kl : List Bool} (hkl : kl = markB (List.replicate g.cols.toNat false) ((prsTo tt g.rows.toNat).map fun p => p.2.toNat)) :
    0 ≤ getI z i ∧ (getB kl i = false → getI z i = 0) := by
  refine ⟨(h.price_z hc hi).1, fun hb => ?_⟩
  have hg := markB_get (b := List.replicate g.cols.toNat false) (l := (prsTo tt g.rows.toNat).map fun p => p.2.toNat) (i := i) (by simpa using hi)
  rw [← hkl] at hg
  unfold getB at hb
  rw [hg] at hb
  simp only [Option.getD_some, List.getElem_replicate, Bool.false_or] at hb
  refine h.z_none hi fun r hr e => ?_
  have hm := BestAns.pair_of hr e
  have : i ∈ (prsTo tt g.rows.toNat).map fun p => p.2.toNat := List.mem_map.2 ⟨_, hm, by simp⟩
  rw [List.contains_iff_mem.2 this] at hb
  cases hb

theorem info_blA : (Try.prog.info? 4).map (fun i => (i.zero, i.size, i.bytes)) = some (some (.bool false), 1, 1) := by kernel_rfl
theorem made_blsA (n : Nat) : madeCells (Value.bool false).cells n = bls (List.replicate n false) := by
  apply Array.ext
  · simp [size_madeCells, bls]
  · intro i h1 h2
    simp only [madeCells, Array.getElem_map, Array.getElem_range, bls, List.getElem_toArray, List.getElem_map, List.getElem_replicate]
    show #[Value.bool false][i % 1]! = _
    rw [Nat.mod_one]; rfl
theorem make_blsA (w : World) (R : Nat) (hR : R ≤ 64) : (Instr.makeSlice 43 (.int .i64 (R : Int)) (.int .i64 (R : Int))).run Try.prog w = .ok (.slice (some ⟨w.heap.size, 0, none⟩) R R) (w.alloc (.cells (bls (List.replicate R false)) 4)) := by
  obtain ⟨i, hi, hz0, hz1, hz2⟩ := info_parts info_blA
  have h := run_make (P := Try.prog) w 43 4 i _ Try.underlying43 hi hz0 .i64 .i64 (R : Int) (R : Int) (by omega) (by omega) (by rw [hz2]; omega) (by omega)
  rw [h, hz1, Int.toNat_natCast, Nat.mul_one, made_blsA]
set_option maxRecDepth 100000 in
set_option maxHeartbeats 8000000 in
theorem shows_any (g : Gr) (a : Option Addr) (cap : Nat) (hok : GrOk g cap) (w : World) (hr : RowsAt 3 edV w a g.es) :
    Calls Try.prog 4 #[grV g a cap] w fun e w' => e = .returned (.bool true) ∧ Below w.heap.size w w' := by
  have HR := hid hr
  have HOK := hid hok
  have hlen : g.es.length ≤ 9223372036854775807 := by have := hok.len; have := hok.cap; omega
  have HL := hid hlen
  clear hr hok hlen
  unfold grV at *
  go_enter Try.func4, Try.ntmps4
  go_upto_region 1 with fail
  have HG1 := hid (heap_alloc_new w (.cells #[.int .i64 g.rows, .int .i64 g.cols, .slice a g.es.length cap] 24))
  have HB1 := hid (show Below w.heap.size w (w.alloc (.cells #[.int .i64 g.rows, .int .i64 g.cols, .slice a g.es.length cap] 24)) from (Below.refl _ _).alloc (Nat.le_refl _) _)
  generalize w.alloc (.cells #[.int .i64 g.rows, .int .i64 g.cols, .slice a g.es.length cap] 24) = w1 at *
  obtain ⟨gb, hgb⟩ : ∃ gb, gb = w.heap.size := ⟨_, rfl⟩
  rw [← hgb] at HG1 ⊢
  have HGB := hid hgb
  clear hgb
  have c2 := row_cell HG1.out 2 _ rfl
  go_wp2_with fail
  have hb2 : Below w1.heap.size w1 (w1.alloc (.cells #[.int .i64 g.es.length] 3)) := (Below.refl _ _).alloc (Nat.le_refl _) _
  have CB := beyond_any [(g.es.length : Int)] (some ⟨w1.heap.size, 0, none⟩) 1 (by simp) (by simp) (by have := HL.out; simp; omega) (w1.alloc (.cells #[.int .i64 g.es.length] 3)) (lit_rows (f := numV) (s := 1) (l := [(g.es.length : Int)]) (fun _ => rfl) (heap_alloc_new w1 (.cells #[.int .i64 g.es.length] 3)) rfl)
  rw [show [(g.es.length : Int)].sum = g.es.length from by simp] at CB
  refine CB.mono ?_
  clear CB
  rintro e w2 ⟨rfl, m, hm⟩
  have hb : Below w1.heap.size w1 w2 := hb2.trans (by rw [hm]; exact (below_dn _ m).mono hb2.size)
  have HG2 := hid (below_keep hb HG1.out)
  have HB2 := hid (HB1.out.trans (hb.mono HB1.out.size))
  clear hb hb2 hm HG1 HB1 c2
  by_cases hbig : 1048576 < (g.es.length : Int)
  · rw [show decide (1048576 < (g.es.length : Int)) = true from decide_eq_true hbig]
    go_wp2
    go_ret
    exact ⟨rfl, HB2.out⟩
  rw [show decide (1048576 < (g.es.length : Int)) = false from decide_eq_false hbig]
  have HS : Hid (g.es.length ≤ 1048576) := hid (by omega)
  clear hbig
  go_wp2_with (refine wpList_load_w rfl 24 _ rfl _ rfl _ _ _ _ (HG2.out) Try.underlying24 rfl (info_gr) ?_)
  refine (may_any g a cap HOK.out w2 (HR.out.kept HB2.out)).mono ?_
  rintro e w3 ⟨rfl, hb⟩
  have HG3 := hid (below_keep hb HG2.out)
  have HB3 := hid (HB2.out.trans (hb.mono HB2.out.size))
  clear hb HG2 HB2
  go_wp2_with (refine wpList_load_w rfl 24 _ rfl _ rfl _ _ _ _ (HG3.out) Try.underlying24 rfl (info_gr) ?_)
  refine (lbest_any g a cap HOK.out HS.out w3 (HR.out.kept HB3.out)).mono ?_
  rintro e w4 ⟨hb, hcase⟩
  have HG4 := hid (below_keep hb HG3.out)
  have HB4 := hid (HB3.out.trans (hb.mono HB3.out.size))
  clear hb HG3 HB3
  rcases hcase with ⟨hc, rfl⟩ | ⟨hc, tt, y, z, v, ha, rfl, hcv⟩
  · rw [hc]
    have CL := hid (fun (w' : World) => lives_any w')
    clear hc
    go_wp2_with fail
    refine (CL.out _).mono ?_
    rintro e w5 ⟨rfl, hb⟩
    have hb5 : Below w4.heap.size w4 (w4.alloc (.cells #[.slice none 0 0, .slice none 0 0, .slice none 0 0] 39)) := (Below.refl _ _).alloc (Nat.le_refl _) _
    have HB5 := hid (HB4.out.trans ((hb5.trans (hb.mono hb5.size)).mono HB4.out.size))
    clear hb hb5
    go_wp2
    go_ret
    exact ⟨rfl, HB5.out⟩
  · rw [hc]
    rw [← ha.sums hc]
    have hsz := BestAns.sizes hc
    obtain ⟨ps, hps⟩ : ∃ ps, ps = prsTo tt g.rows.toNat := ⟨_, rfl⟩
    obtain ⟨ys, hys⟩ : ∃ ys, ys = y.take g.rows.toNat := ⟨_, rfl⟩
    obtain ⟨zs, hzs⟩ : ∃ zs, zs = z.take g.cols.toNat := ⟨_, rfl⟩
    have hly : ys.length = g.rows.toNat := by rw [hys, List.length_take, ha.ly]; omega
    have hlz : zs.length = g.cols.toNat := by rw [hzs, List.length_take, ha.lz]; omega
    have hlp : ps.length ≤ 64 := by have := prsTo_len tt g.rows.toNat; rw [hps]; omega
    have hyi : ∀ x ∈ ys, 0 ≤ x ∧ x ≤ 150000000000000 := by rw [hys]; exact ha.y_in hc
    have hzi : ∀ x ∈ zs, 0 ≤ x ∧ x ≤ 150000000000000 := by rw [hzs]; exact ha.z_in hc
    rw [← hps, ← hys, ← hzs] at hcv
    rw [← hys, ← hzs]
    have hsy : 0 ≤ ys.sum ∧ ys.sum ≤ 10000000000000000 := by have := sum_in ys hyi; omega
    have hsz2 : 0 ≤ zs.sum ∧ zs.sum ≤ 10000000000000000 := by have := sum_in zs hzi; omega
    have HC := hid hc
    have HA := hid ha
    have HPS := hid (And.intro hps (And.intro hys hzs))
    have HLE := hid (And.intro hly (And.intro hlz (And.intro hlp hsz)))
    obtain ⟨Ap, cp, Ay, cy, Az, cz, rfl, hcp, hcy, hcz, r1, r2, r3⟩ := hcv.at_
    have HRW := hid (And.intro r1 (And.intro r2 r3))
    have CTY := hid (fun (w' : World) (hr : RowsAt 1 numV w' Ay ys) => total_any ys Ay cy (by omega) hyi w' hr)
    have CTZ := hid (fun (w' : World) (hr : RowsAt 1 numV w' Az zs) => total_any zs Az cz (by omega) hzi w' hr)
    generalize ys.sum = sy at *
    generalize zs.sum = sz at *
    clear hc ha hcp hcy hcz r1 r2 r3 hcv hps hys hzs hly hlz hlp hsz hyi hzi
    go_upto_region 7 with fail
    have hb5 : Below w4.heap.size w4 (w4.alloc (.cells #[.slice Ap ps.length cp, .slice Ay ys.length cy, .slice Az zs.length cz] 39)) := (Below.refl _ _).alloc (Nat.le_refl _) _
    have HC5 := hid (heap_alloc_new w4 (.cells #[.slice Ap ps.length cp, .slice Ay ys.length cy, .slice Az zs.length cz] 39))
    have HG5 := hid (below_keep hb5 HG4.out)
    have HB5 := hid (HB4.out.trans (hb5.mono HB4.out.size))
    have HRW5 := hid (And.intro (HRW.out.1.kept hb5) (And.intro (HRW.out.2.1.kept hb5) (HRW.out.2.2.kept hb5)))
    have HLT := hid (heap_lt HG4.out)
    clear hb5 HG4 HB4 HRW
    generalize w4.alloc (.cells #[.slice Ap ps.length cp, .slice Ay ys.length cy, .slice Az zs.length cz] 39) = w5 at *
    generalize w4.heap.size = cb at *
    have a1 := row_cell HC5.out 1 (.slice Ay ys.length cy) rfl
    have a2 := row_cell HC5.out 2 (.slice Az zs.length cz) rfl
    have DY := hid (fun X : Bw w5 => (CTY.out X.1 (HRW5.out.2.1.kept X.2)).mono fun _ w' (h : _ ∧ ∃ m, w' = X.1.drewN m) => (⟨h.1, by obtain ⟨m, hm⟩ := h.2; rw [hm]; exact below_dn X.1 m⟩ : _ ∧ Below X.1.heap.size X.1 w'))
    have DZ := hid (fun X : Bw w5 => (CTZ.out X.1 (HRW5.out.2.2.kept X.2)).mono fun _ w' (h : _ ∧ ∃ m, w' = X.1.drewN m) => (⟨h.1, by obtain ⟨m, hm⟩ := h.2; rw [hm]; exact below_dn X.1 m⟩ : _ ∧ Below X.1.heap.size X.1 w'))
    clear CTY CTZ
    refine wp_region_bw (by kernel_rfl) (by kernel_rfl) ?_
    iterate 4 (go_big_quiet_step (fail))
    (go_big_quiet_want; refine quiet_load_cell 37 _ rfl _ _ rfl _ (a1) (fun w h => by go_simp) ?_; simp only [Act.put, List.setIfInBounds_toArray, List.set_cons_zero, List.set_cons_succ]; go_big_quiet_on)
    (go_big_quiet_want; go_big_quiet_op; go_big_quiet_call ((go_at_call 23; exact Calls.bw (DY.out _))))
    go_big_quiet_step (fail)
    (go_big_quiet_want; refine quiet_load_cell 37 _ rfl _ _ rfl _ (a2) (fun w h => by go_simp) ?_; simp only [Act.put, List.setIfInBounds_toArray, List.set_cons_zero, List.set_cons_succ]; go_big_quiet_on)
    (go_big_quiet_want; go_big_quiet_op; go_big_quiet_call ((go_at_call 23; exact Calls.bw (DZ.out _))))
    iterate 4 (first | go_big_quiet_step (fail) | (go_big_quiet_want; go_simp; go_big_quiet_on))
    refine wpQuiet_nil ?_; rintro w' ⟨X, rfl⟩
    have HB6 := hid (HB5.out.trans (X.2.mono HB5.out.size))
    have HG6 := hid (below_keep X.2 HG5.out)
    have HC6 := hid (below_keep X.2 HC5.out)
    have HRW6 := hid (And.intro (HRW5.out.1.kept X.2) (And.intro (HRW5.out.2.1.kept X.2) (HRW5.out.2.2.kept X.2)))
    clear HB5 HG5 HC5 HRW5 DY DZ a1 a2
    generalize X.1 = w6 at *
    clear X
    obtain ⟨hly, hlz, hlp, hR64, hC64, hRr, hCc⟩ := HLE.out
    have b0 := row_cell HG6.out 0 (.int .i64 g.rows.toNat) (by rw [← hRr]; rfl)
    have b1 := row_cell HG6.out 1 (.int .i64 g.cols.toNat) (by rw [← hCc]; rfl)
    obtain ⟨R, hR⟩ : ∃ R, R = g.rows.toNat := ⟨_, rfl⟩
    obtain ⟨C, hC⟩ : ∃ C, C = g.cols.toNat := ⟨_, rfl⟩
    rw [← hR] at b0 hR64 hly hRr
    rw [← hC] at b1 hC64 hlz hCc
    have HRC := hid (And.intro hR hC)
    have HRC2 := hid (And.intro hRr hCc)
    have HLL := hid (And.intro hly (And.intro hlz hlp))
    clear hR hC hRr hCc hly hlz hlp
    have mk1 : ∀ w1 : World, (Instr.makeSlice 43 (.int .i64 (R : Int)) (.int .i64 (R : Int))).run Try.prog w1 = .ok (.slice (some ⟨w1.heap.size, 0, none⟩) R R) (w1.alloc (.cells (bls (List.replicate R false)) 4)) := fun w1 => make_blsA w1 R hR64
    have mk2 : ∀ w1 : World, (Instr.makeSlice 43 (.int .i64 (C : Int)) (.int .i64 (C : Int))).run Try.prog w1 = .ok (.slice (some ⟨w1.heap.size, 0, none⟩) C C) (w1.alloc (.cells (bls (List.replicate C false)) 4)) := fun w1 => make_blsA w1 C hC64
    go_upto_region 10 with fail
    have hb7 : Below w6.heap.size w6 (w6.alloc (.cells (bls (List.replicate R false)) 4)) := (Below.refl _ _).alloc (Nat.le_refl _) _
    have HR7 : Hid (BlsAt (w6.alloc (.cells (bls (List.replicate R false)) 4)) w6.heap.size 4 (List.replicate R false)) := hid (heap_alloc_new _ _)
    have b7 : (w6.alloc (.cells (bls (List.replicate R false)) 4)).cell? ⟨gb, 1, none⟩ = some (.int .i64 C) := row_cell (below_keep hb7 HG6.out) 1 _ (by rw [HRC2.out.2]; rfl)
    have HB7 := hid hb7
    clear hb7 b0 b1
    obtain ⟨w7, hw7⟩ : ∃ w7, w7 = w6.alloc (.cells (bls (List.replicate R false)) 4) := ⟨_, rfl⟩
    rw [← hw7] at HR7 b7 HB7 ⊢
    have HLT7 : Hid (w6.heap.size < w7.heap.size) := hid (heap_lt HR7.out)
    clear hw7
    go_upto_region 11 with fail
    have hb8 : Below w7.heap.size w7 (w7.alloc (.cells (bls (List.replicate C false)) 4)) := (Below.refl _ _).alloc (Nat.le_refl _) _
    have HK8 : Hid (BlsAt (w7.alloc (.cells (bls (List.replicate C false)) 4)) w7.heap.size 4 (List.replicate C false)) := hid (heap_alloc_new _ _)
    have HR8 := hid (HR7.out.kept hb8)
    have HB8 := hid (HB7.out.trans (hb8.mono HB7.out.size))
    clear hb8 b7 HR7 HB7 mk1 mk2
    generalize w7.alloc (.cells (bls (List.replicate C false)) 4) = w8 at *
    obtain ⟨rb, hrb⟩ : ∃ rb, rb = w6.heap.size := ⟨_, rfl⟩
    rw [← hrb] at HR8 HB8 HLT7 ⊢
    generalize w7.heap.size = kb at *
    have HRB := hid hrb
    clear hrb
    go_wp2
    go_loopw [9] (fun i wr => ∃ k : Nat, k ≤ ps.length ∧ i = .int .i64 k ∧ Hid (BlsAt wr rb 4 (markB (List.replicate R false) ((ps.take k).map fun p => p.1.toNat))) ∧ Hid (BlsAt wr kb 4 (markB (List.replicate C false) ((ps.take k).map fun p => p.2.toNat))) ∧ Hid (Below rb w6 wr)) (fun i _ => ps.length - (intOf i).toNat)
    case atStart => exact ⟨0, by omega, rfl, HR8, HK8, HB8⟩
    case round =>
      clear HR8 HK8 HB8
      obtain ⟨k, hk, rfl, HRr, HKk, HBb⟩ := hrel
      have hB6 : Below w6.heap.size w6 wr := by rw [← HRB.out]; exact HBb.out
      have HBW := hid hB6
      clear hB6
      have d0 := row_cell (below_keep HBW.out HC6.out) 0 (.slice Ap ps.length cp) rfl
      have hk64 : (k : Int) ≤ 64 := by have := HLL.out.2.2; omega
      by_cases hlt : k < ps.length
      · -- L1
        have hki : (k : Int) < (ps.length : Int) := by omega
        obtain ⟨p, hx⟩ : ∃ x, ps[k]? = some x := ⟨ps[k], by simp [hlt]⟩
        obtain ⟨r, c, rfl, hr1, hc1, _⟩ := HA.out.pair_in (p := p) (by rw [← HPS.out.1]; exact List.mem_of_getElem? hx)
        rw [← HRC.out.1] at hr1
        rw [← HRC.out.2] at hc1
        have HTK : Hid (ps.take (k + 1) = ps.take k ++ [((r : Int), (c : Int))]) := hid (by
          obtain ⟨h1, h2⟩ := List.getElem?_eq_some_iff.1 hx
          rw [List.take_succ_eq_append_getElem h1, h2])
        obtain ⟨pg, po, hAp, hpg, hcc⟩ := HRW6.out.1.get hx
        have q0 : wr.cell? ⟨pg, po + k * 2, none⟩ = some (.int .i64 r) := by
          have := (hcc.kept HBW.out hpg) 0 (.int .i64 r) rfl
          rw [Nat.mul_comm] at this; exact this
        have q1 : wr.cell? ⟨pg, po + k * 2 + 1, none⟩ = some (.int .i64 c) := by
          have := (hcc.kept HBW.out hpg) 1 (.int .i64 c) rfl
          rw [Nat.mul_comm] at this; exact this
        rw [← HRB.out] at hpg
        have hcbr : cb < rb := by rw [HRB.out]; exact heap_lt HC6.out
        have hlR : (markB (List.replicate R false) ((ps.take k).map fun p => p.1.toNat)).length = R := by rw [markB_len]; simp
        have hlC : (markB (List.replicate C false) ((ps.take k).map fun p => p.2.toNat)).length = C := by rw [markB_len]; simp
        have e0 := HRr.out.cell (k := r) (by rw [hlR]; exact hr1)
        have e1 := HKk.out.cell (k := c) (by rw [hlC]; exact hc1)
        have f0 := free_row HRr.out r
        have f1 := free_row HKk.out c
        have hrk : rb < kb := HLT7.out
        have n1 : rb ≠ cb := by omega
        have n2 : rb ≠ pg := by omega
        have n3 : rb ≠ kb := by omega
        have hrR : (r : Int) < (R : Int) := by omega
        have hcC : (c : Int) < (C : Int) := by omega
        subst hAp
        clear hx hcc hlR hlC hpg hcbr hrk
        go_wp2
        refine ⟨⟨k + 1, by omega, by go_num, hid ?_, hid ?_, hid ?_⟩, by simp [intOf]; omega⟩
        · rw [HTK.out, List.map_append, List.map_cons, List.map_nil, markB_snoc]
          exact (HRr.out.set r true).other n3 c _
        · rw [HTK.out, List.map_append, List.map_cons, List.map_nil, markB_snoc]
          exact (HKk.out.other (Ne.symm n3) r _).set c true
        · exact (HBb.out.setCell (Nat.le_refl rb) _).setCell (by show rb ≤ kb; have := HLT7.out; omega) _
        -- /L1
      · -- L2
        obtain rfl : k = ps.length := by omega
        have hki : ¬ ((ps.length : Int) < (ps.length : Int)) := by omega
        rw [List.take_length] at HRr HKk
        have HRF := hid (fun (i : Nat) (hi : i < R) => rowFree HC.out HA.out (by rw [← HRC.out.1]; exact hi) (by rw [← HPS.out.1, ← HRC.out.1]))
        have HKF := hid (fun (i : Nat) (hi : i < C) => colFree HC.out HA.out (by rw [← HRC.out.2]; exact hi) (by rw [← HPS.out.1, ← HRC.out.2]))
        have hlR : (markB (List.replicate R false) (ps.map fun p => p.1.toNat)).length = R := by rw [markB_len]; simp
        have hlC : (markB (List.replicate C false) (ps.map fun p => p.2.toNat)).length = C := by rw [markB_len]; simp
        have HLR := hid hlR
        have HLC := hid hlC
        clear hk hlt hlR hlC
        generalize markB (List.replicate R false) (ps.map fun p => p.1.toNat) = rl at *
        generalize markB (List.replicate C false) (ps.map fun p => p.2.toNat) = kl at *
        have HG9 := hid (below_keep HBW.out HG6.out)
        have HC9 := hid (below_keep HBW.out HC6.out)
        have HY9 := hid (HRW6.out.2.1.kept HBW.out)
        have HZ9 := hid (HRW6.out.2.2.kept HBW.out)
        have HB9 := hid (HB6.out.trans (HBW.out.mono HB6.out.size))
        clear HB6 HG6 HC6 HRW6 HBb HBW
        have g0 := row_cell HG9.out 0 (.int .i64 (R : Int)) (by rw [HRC2.out.1]; rfl)
        have g1 := row_cell HG9.out 1 (.int .i64 (C : Int)) (by rw [HRC2.out.2]; rfl)
        have a1 := row_cell HC9.out 1 (.slice Ay ys.length cy) rfl
        have a2 := row_cell HC9.out 2 (.slice Az zs.length cz) rfl
        have hly : ys.length = R := HLL.out.1
        have hlz : zs.length = C := HLL.out.2.1
        rw [hly] at a1
        rw [hlz] at a2
        clear hly hlz
        go_wp2
        go_loopw [10] (fun i wx => ∃ k : Nat, k ≤ R ∧ i = .int .i64 k ∧ Hid (wx = wr)) (fun i _ => R - (intOf i).toNat)
        case atStart => exact ⟨0, by omega, rfl, hid rfl⟩
        case round =>
          obtain ⟨i, hi, rfl, hwx⟩ := hrel
          obtain rfl := hwx.out
          clear hwx
          have hi64 : (i : Int) ≤ 64 := by omega
          by_cases hlt : i < R
          · -- L3
            have hki2 : (i : Int) < (R : Int) := by omega
            have hy1 := HRF.out i hlt
            have hyx : ys[i]? = some (getI y i) := by
              rw [HPS.out.2.1]
              exact take_get (by rw [← HRC.out.1]; exact hlt) (by rw [HA.out.ly]; exact (BestAns.sizes HC.out).1)
            obtain ⟨ga, oa, hAy, cx⟩ := num_cell HY9.out hyx
            subst hAy
            have e0 := HRr.out.cell (k := i) (by rw [HLR.out]; exact hlt)
            clear hyx
            cases hb : getB rl i with
            | true =>
              rw [hb] at e0
              have hy0 : ¬ getI y i < 0 := by omega
              clear hy1 hb
              go_wp2
              exact ⟨⟨i + 1, by omega, by go_num, hid trivial⟩, by simp [intOf]; omega⟩
            | false =>
              rw [hb] at e0
              rw [hy1.2 hb] at cx
              clear hy1 hb
              go_wp2
              exact ⟨⟨i + 1, by omega, by go_num, hid trivial⟩, by simp [intOf]; omega⟩
            -- /L3
          · -- L4
            obtain rfl : i = R := by omega
            have hkr : ¬ ((i : Int) < (i : Int)) := by omega
            clear hlt hi HRF HRr HLR hi64 a1
            go_wp2
            clear g0
            have c2 := row_cell HG9.out 2 (.slice a g.es.length cap) rfl
            go_loopw [11] (fun i wx => ∃ k : Nat, k ≤ C ∧ i = .int .i64 k ∧ Hid (wx = wr)) (fun i _ => C - (intOf i).toNat)
            case atStart => exact ⟨0, by omega, rfl, hid rfl⟩
            case round =>
              obtain ⟨j, hj, rfl, hwx⟩ := hrel
              obtain rfl := hwx.out
              clear hwx
              have hj64 : (j : Int) ≤ 64 := by omega
              by_cases hlt : j < C
              · -- L5
                have hki2 : (j : Int) < (C : Int) := by omega
                have hy1 := HKF.out j hlt
                have hyx : zs[j]? = some (getI z j) := by
                  rw [HPS.out.2.2]
                  exact take_get (by rw [← HRC.out.2]; exact hlt) (by rw [HA.out.lz]; exact (BestAns.sizes HC.out).2.1)
                obtain ⟨ga, oa, hAz, cx⟩ := num_cell HZ9.out hyx
                subst hAz
                have e0 := HKk.out.cell (k := j) (by rw [HLC.out]; exact hlt)
                clear hyx
                cases hb : getB kl j with
                | true =>
                  rw [hb] at e0
                  have hy0 : ¬ getI z j < 0 := by omega
                  clear hy1 hb
                  go_wp2
                  exact ⟨⟨j + 1, by omega, by go_num, hid trivial⟩, by simp [intOf]; omega⟩
                | false =>
                  rw [hb] at e0
                  rw [hy1.2 hb] at cx
                  clear hy1 hb
                  go_wp2
                  exact ⟨⟨j + 1, by omega, by go_num, hid trivial⟩, by simp [intOf]; omega⟩
                -- /L5
              · -- L6
                obtain rfl : j = C := by omega
                have hkr : ¬ ((j : Int) < (j : Int)) := by omega
                clear hlt hj HKF HKk HLC hj64 a2
                go_wp2
                clear g1
                go_loopw [12] (fun i wx => ∃ k : Nat, k ≤ g.es.length ∧ i = .int .i64 k ∧ Hid (Below wr.heap.size wr wx)) (fun i _ => g.es.length - (intOf i).toNat)
                case atStart => exact ⟨0, by omega, rfl, hid (Below.refl _ _)⟩
                case round =>
                  obtain ⟨k, hk, rfl, HBX⟩ := hrel
                  have hkL : (k : Int) ≤ 1048576 := by have := HS.out; omega
                  have c3 := row_cell (below_keep HBX.out HG9.out) 2 (.slice a g.es.length cap) rfl
                  have HBW2 := hid (HB9.out.trans (HBX.out.mono HB9.out.size))
                  clear c2 d0
                  by_cases hlt : k < g.es.length
                  · -- L7
                    have hki3 : (k : Int) < (g.es.length : Int) := by omega
                    obtain ⟨x, hx⟩ : ∃ x, g.es[k]? = some x := ⟨g.es[k], by simp [hlt]⟩
                    obtain ⟨r, c, h1, h2, h3, h4, h5⟩ := HA.out.edge HC.out (List.mem_of_getElem? hx)
                    have hyr := HA.out.price_y HC.out h3
                    have hzc := HA.out.price_z HC.out h4
                    have hyx : ys[r]? = some (getI y r) := by
                      rw [HPS.out.2.1]
                      exact take_get h3 (by rw [HA.out.ly]; exact (BestAns.sizes HC.out).1)
                    have hzx : zs[c]? = some (getI z c) := by
                      rw [HPS.out.2.2]
                      exact take_get h4 (by rw [HA.out.lz]; exact (BestAns.sizes HC.out).2.1)
                    rw [← HRC.out.1] at h3
                    rw [← HRC.out.2] at h4
                    obtain ⟨eg, eo, haa, _, hcc⟩ := (HR.out.kept HBW2.out).get hx
                    have HCE : Hid (CellsAt wr eg (eo + k * 3) #[.int .i64 r, .int .i64 c, .int .i64 x.w]) := hid (by rw [Nat.mul_comm, ← h1, ← h2]; exact hcc)
                    subst haa
                    clear hx hcc h1 h2
                    go_upto_region 30 with (refine wpList_load_cells rfl 47 _ rfl _ _ rfl _ _ HCE.out Try.underlying47 rfl info_ed ?_)
                    have hb9 : Below wr.heap.size wr (wr.alloc (.cells #[.int .i64 r, .int .i64 c, .int .i64 x.w] 47)) := (Below.refl _ _).alloc (Nat.le_refl _) _
                    have HX9 := hid (heap_alloc_new wr (.cells #[.int .i64 r, .int .i64 c, .int .i64 x.w] 47))
                    have HBX2 := hid (HBX.out.trans (hb9.mono HBX.out.size))
                    clear HBX HBW2 HCE c3 hb9
                    generalize wr.alloc (.cells #[.int .i64 r, .int .i64 c, .int .i64 x.w] 47) = wy at *
                    generalize wr.heap.size = eb at *
                    have x0 := row_cell HX9.out 0 (.int .i64 r) rfl
                    have x1 := row_cell HX9.out 1 (.int .i64 c) rfl
                    have x2 := row_cell HX9.out 2 (.int .i64 x.w) rfl
                    have a1 := row_cell (below_keep HBX2.out HC9.out) 1 (.slice Ay ys.length cy) rfl
                    have a2 := row_cell (below_keep HBX2.out HC9.out) 2 (.slice Az zs.length cz) rfl
                    rw [HLL.out.1] at a1
                    rw [HLL.out.2.1] at a2
                    obtain ⟨ga, oa, hAy, cx⟩ := num_cell (HY9.out.kept HBX2.out) hyx
                    obtain ⟨ha, oz, hAz, cz2⟩ := num_cell (HZ9.out.kept HBX2.out) hzx
                    subst hAy hAz
                    have hrR : (r : Int) < (i : Int) := by omega
                    have hcC : (c : Int) < (j : Int) := by omega
                    have hfin : ¬ (getI y r + getI z c < x.w) := by omega
                    clear hyx hzx h5
                    refine wp_region_bw (by kernel_rfl) (by kernel_rfl) ?_
                    go_big_quiet_step (fail)
                    (go_big_quiet_want; refine quiet_load_cell 37 _ rfl _ _ rfl _ (a1) (fun w h => by go_simp) ?_; simp only [Act.put, List.setIfInBounds_toArray, List.set_cons_zero, List.set_cons_succ]; go_big_quiet_on)
                    go_big_quiet_step (fail)
                    (go_big_quiet_want; refine quiet_load_cell 3 _ rfl _ _ rfl _ (x0) (fun w h => by go_simp) ?_; simp only [Act.put, List.setIfInBounds_toArray, List.set_cons_zero, List.set_cons_succ]; go_big_quiet_on)
                    go_big_quiet_step (fail)
                    (go_big_quiet_want; refine quiet_load_cell 3 _ rfl _ _ rfl _ (cx) (fun w h => by go_simp) ?_; simp only [Act.put, List.setIfInBounds_toArray, List.set_cons_zero, List.set_cons_succ]; go_big_quiet_on)
                    go_big_quiet_step (fail)
                    (go_big_quiet_want; refine quiet_load_cell 37 _ rfl _ _ rfl _ (a2) (fun w h => by go_simp) ?_; simp only [Act.put, List.setIfInBounds_toArray, List.set_cons_zero, List.set_cons_succ]; go_big_quiet_on)
                    go_big_quiet_step (fail)
                    (go_big_quiet_want; refine quiet_load_cell 3 _ rfl _ _ rfl _ (x1) (fun w h => by go_simp) ?_; simp only [Act.put, List.setIfInBounds_toArray, List.set_cons_zero, List.set_cons_succ]; go_big_quiet_on)
                    go_big_quiet_step (fail)
                    (go_big_quiet_want; refine quiet_load_cell 3 _ rfl _ _ rfl _ (cz2) (fun w h => by go_simp) ?_; simp only [Act.put, List.setIfInBounds_toArray, List.set_cons_zero, List.set_cons_succ]; go_big_quiet_on)
                    iterate 2 (go_big_quiet_step (fail))
                    (go_big_quiet_want; refine quiet_load_cell 3 _ rfl _ _ rfl _ (x2) (fun w h => by go_simp) ?_; simp only [Act.put, List.setIfInBounds_toArray, List.set_cons_zero, List.set_cons_succ]; go_big_quiet_on)
                    iterate 1 (first | go_big_quiet_step (fail) | (go_big_quiet_want; go_simp; go_big_quiet_on))
                    refine wpQuiet_nil ?_; rintro w' ⟨X, rfl⟩
                    have HBX3 := hid (HBX2.out.trans (X.2.mono HBX2.out.size))
                    go_wp2
                    exact ⟨⟨k + 1, by omega, by go_num, HBX3⟩, by simp [intOf]; omega⟩
                    -- /L7
                  · -- L8
                    obtain rfl : k = g.es.length := by omega
                    have hkr3 : ¬ ((g.es.length : Int) < (g.es.length : Int)) := by omega
                    clear hlt hk
                    go_wp2_with fail
                    refine (lives_any _).mono ?_
                    rintro e wz ⟨rfl, hb⟩
                    have HBZ := hid (HBW2.out.trans (hb.mono HBW2.out.size))
                    clear hb
                    go_wp2
                    go_ret
                    exact ⟨rfl, HBZ.out⟩
                    -- /L8
                -- /L6
            -- /L4
        -- /L2
end Go.Proofs.Ytmddhjoomlhbcaa
