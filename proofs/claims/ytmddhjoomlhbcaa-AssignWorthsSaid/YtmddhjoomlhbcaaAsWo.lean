/- The walk of Worth. -/
import Derived.Test.YtmddhjoomlhbcaaAsBs
namespace Go.Proofs.Ytmddhjoomlhbcaa
open Go.RowKit

/-- A pair that may not stand there. -/
def badP (W : Nat → Nat → Int) (R C : Nat) (taken : List Bool) (last : Int) (p : Int × Int) : Bool :=
  decide (p.1 ≤ last ∨ (R : Int) ≤ p.1 ∨ p.2 < 0 ∨ (C : Int) ≤ p.2) || getB taken p.2.toNat || decide (W p.1.toNat p.2.toNat = 0)
def worthL (W : Nat → Nat → Int) (R C : Nat) : List (Int × Int) → Int → List Bool → Int → Int × Int
  | [], _, _, s => (s, 0)
  | p :: l, last, taken, s => if badP W R C taken last p = true then (0, 180) else worthL W R C l p.1 (taken.set p.2.toNat true) (s + W p.1.toNat p.2.toNat)
/-- What pairs are worth, and whether they may be. -/
def worthF (g : Gr) (l : List (Int × Int)) : Int × Int := if chk g = true then worthL (wG g) g.rows.toNat g.cols.toNat l (-1) (List.replicate 64 false) 0 else (0, 170)
structure WoAt (w0 w : World) (tp kb R C : Nat) (T : List Int) (taken : List Bool) : Prop where
  tbl : TblAt w tp R C T
  taken : BlsAt w kb 63 taken
  below : Below w0.heap.size w0 w
  ord : w0.heap.size ≤ tp ∧ tp < kb
theorem WoAt.kept {w0 w w' : World} {tp kb R C : Nat} {T : List Int} {taken : List Bool} (h : WoAt w0 w tp kb R C T taken) (hb : Below w.heap.size w w') : WoAt w0 w' tp kb R C T taken :=
  ⟨h.tbl.kept hb, h.taken.kept hb, h.below.trans (hb.mono h.below.size), h.ord⟩
theorem WoAt.set {w0 w : World} {tp kb R C : Nat} {T : List Int} {taken : List Bool} (h : WoAt w0 w tp kb R C T taken) (c : Nat) (b : Bool) : WoAt w0 (w.setCell ⟨kb, c, none⟩ (.bool b)) tp kb R C T (taken.set c b) := by
  have := h.ord
  exact ⟨h.tbl.other (by omega) _ _, h.taken.set c b, h.below.setCell (by show w0.heap.size ≤ kb; omega) _, h.ord⟩
theorem BlsAt.lt' {w : World} {g : Nat} {T : TypeId} {l : List Bool} (h : BlsAt w g T l) : g < w.heap.size := heap_lt h
theorem below_dn (w : World) (m : Nat) : Below w.heap.size w (w.drewN m) := ⟨rfl, rfl, rfl, Nat.le_refl _, fun _ _ => rfl⟩
theorem info_pr : (Try.prog.info? 45).map (·.size) = some 2 := by kernel_rfl

set_option maxRecDepth 100000 in
set_option maxHeartbeats 8000000 in
theorem worth_any (g : Gr) (a : Option Addr) (cap : Nat) (hok : GrOk g cap) (l : List (Int × Int)) (A : Option Addr) (cl : Nat) (hll : l.length ≤ 4611686018427387904) (hlp : ∀ p ∈ l, I64 p.1 ∧ I64 p.2) (w : World) (hr : RowsAt 3 edV w a g.es) (hm : RowsAt 2 prV w A l) :
    Calls Try.prog 17 #[grV g a cap, .slice A l.length cl] w fun e w' => e = .returned (.tuple #[.int .i64 (worthF g l).1, .int .i64 (worthF g l).2]) ∧ Below w.heap.size w w' := by
  have HOK := hid hok
  have HR := hid hr
  have HM := hid hm
  have HLP := hid hlp
  have CK := hid (fun w hr => check_any g a cap hok w hr)
  clear hok hr hm hlp
  unfold grV at *
  go_enter Try.func17, Try.ntmps17
  go_upto_region 1 with fail
  have HG := hid (heap_alloc_new w (.cells #[.int .i64 g.rows, .int .i64 g.cols, .slice a g.es.length cap] 24))
  have HB : Hid (Below w.heap.size w (w.alloc (.cells #[.int .i64 g.rows, .int .i64 g.cols, .slice a g.es.length cap] 24))) := hid ((Below.refl _ _).alloc (Nat.le_refl _) _)
  generalize w.alloc (.cells #[.int .i64 g.rows, .int .i64 g.cols, .slice a g.es.length cap] 24) = w1 at *
  go_wp2_with (refine wpList_load_w rfl 24 _ rfl _ rfl _ _ _ _ (HG.out) Try.underlying24 rfl (info_gr) ?_)
  refine (CK.out _ (HR.out.kept HB.out)).mono ?_
  rintro e w2 ⟨rfl, hb2⟩
  have HG2 := hid (below_keep hb2 HG.out)
  have HB2 := hid (HB.out.trans (hb2.mono HB.out.size))
  clear hb2 HG HB CK
  by_cases k1 : chk g = true
  · have HV1 : Hid (chkV g = 0) := hid (by unfold chkV; rw [if_pos k1])
    rw [HV1.out]
    have hsz := chk_size k1
    obtain ⟨R, hR⟩ := Int.eq_ofNat_of_zero_le hsz.1
    obtain ⟨C, hC⟩ := Int.eq_ofNat_of_zero_le hsz.2.2.1
    have hRt : g.rows.toNat = R := by omega
    have hCt : g.cols.toNat = C := by omega
    have hR64 : R ≤ 64 := by omega
    have hC64 : C ≤ 64 := by omega
    have HW := hid (wG_ok k1)
    have HWF : Hid (worthF g l = worthL (wG g) R C l (-1) (List.replicate 64 false) 0) := hid (by unfold worthF; rw [if_pos k1, hRt, hCt])
    have CL := hid (fun w hr => laid_any g a cap R C HOK.out k1 hR hC w hr)
    unfold grV at CL
    rw [hR, hC] at HG2 CL
    clear k1 hsz hR hC hRt hCt
    go_wp2_with (refine wpList_load_w rfl 24 _ rfl _ rfl _ _ _ _ (HG2.out) Try.underlying24 rfl (info_gr) ?_)
    refine (CL.out _ (HR.out.kept HB2.out)).mono ?_
    rintro e w3 ⟨tp, rfl, htp, htb, hb3⟩
    have hlt3 := heap_lt htb.row
    have HWO : Hid (WoAt w (w3.alloc (.cells (bls (List.replicate 64 false)) 63)) tp w3.heap.size R C (tblOf g.es) (List.replicate 64 false)) := hid ⟨htb.kept ((Below.refl _ _).alloc (Nat.le_refl _) _), heap_alloc_new _ _, ((HB2.out.trans (hb3.mono HB2.out.size)).alloc (Nat.le_trans HB2.out.size hb3.size) _), ⟨by have := HB2.out.size; omega, hlt3⟩⟩
    clear hb3 HG2 HB2 htb htp CL HOK
    go_upto_region 6 with fail
    refine at_world (fun w4 => WoAt w w4 tp w3.heap.size R C (tblOf g.es) (List.replicate 64 false)) _ rfl HWO.out ?_
    intro w4 hwo
    have HWA := hid hwo
    clear hwo HWO
    generalize w3.heap.size = kb at *
    go_wp2
    go_loopw [9, 10, 22] (fun la s i wr => ∃ (k : Nat) (last sum : Int) (taken : List Bool), k ≤ l.length ∧ i = .int .i64 k ∧ la = .int .i64 last ∧ s = .int .i64 sum ∧ (-1 ≤ last ∧ last < 64 ∧ 0 ≤ sum ∧ sum ≤ 1099513724929 * (last + 1)) ∧ Hid (taken.length = 64) ∧ Hid (WoAt w wr tp kb R C (tblOf g.es) taken) ∧ Hid (worthF g l = worthL (wG g) R C (l.drop k) last taken sum)) (fun _ _ i _ => l.length - (intOf i).toNat)
    case atStart => exact ⟨0, -1, 0, _, by omega, rfl, rfl, rfl, by omega, hid (by simp), HWA, HWF⟩
    case round =>
      clear HWA HWF
      obtain ⟨k, last, sum, taken, hk, rfl, rfl, rfl, hbd, HTL, HWA, HWF⟩ := hrel
      by_cases hlt : k < l.length
      · obtain ⟨⟨p1, p2⟩, hx⟩ : ∃ x, l[k]? = some x := ⟨l[k], by simp [hlt]⟩
        have hki : (k : Int) < (l.length : Int) := by omega
        have HD : Hid (l.drop k = (p1, p2) :: l.drop (k + 1)) := hid (by obtain ⟨h1, h2⟩ := List.getElem?_eq_some_iff.1 hx; rw [List.drop_eq_getElem_cons h1, h2])
        have hI := HLP.out _ (List.mem_of_getElem? hx)
        obtain ⟨gg, o, rfl, _, hcc⟩ := (HM.out.kept HWA.out.below).get hx
        have HCE : Hid (CellsAt wr gg (o + k * 2) #[.int .i64 p1, .int .i64 p2]) := hid (by rw [Nat.mul_comm]; exact hcc)
        clear hx hcc
        go_upto_region 10 with (refine wpList_load_cells rfl 45 _ rfl _ _ rfl _ _ HCE.out Try.underlying45 rfl info_pr ?_)
        have hba : Below wr.heap.size wr (wr.alloc (.cells #[.int .i64 p1, .int .i64 p2] 45)) := (Below.refl _ _).alloc (Nat.le_refl _) _
        have HX1 : Hid ((wr.alloc (.cells #[.int .i64 p1, .int .i64 p2] 45)).heap[wr.heap.size]? = some (.cells #[.int .i64 p1, .int .i64 p2] 45 (0, 0))) := hid (heap_alloc_new _ _)
        have HW1 := hid (HWA.out.kept hba)
        have hgx : kb < wr.heap.size := HWA.out.taken.lt'
        clear hba
        generalize wr.alloc (.cells #[.int .i64 p1, .int .i64 p2] 45) = w5 at *
        generalize wr.heap.size = gx at *
        clear HWA HCE
        have cx0 := row_cell HX1.out 0 _ rfl
        have cx1 := row_cell HX1.out 1 _ rfl
        have cr := HW1.out.tbl.rows
        have cc := HW1.out.tbl.cols
        by_cases h1 : p1 ≤ last
        · have g1 : decide (p1 ≤ last) = true := decide_eq_true h1
          have HN : Hid (worthF g l = (0, 180)) := hid (by rw [HWF.out, HD.out, worthL, if_pos]; unfold badP; simp [h1])
          go_quiet (fail)
          go_wp2
          go_ret2
          exact ⟨by rw [HN.out]; rfl, HW1.out.below.trans ((below_dn w5 nq).mono HW1.out.below.size)⟩
        · have g1 : decide (p1 ≤ last) = false := decide_eq_false h1
          by_cases h2 : (R : Int) ≤ p1
          · have g2 : decide ((R : Int) ≤ p1) = true := decide_eq_true h2
            have HN : Hid (worthF g l = (0, 180)) := hid (by rw [HWF.out, HD.out, worthL, if_pos]; unfold badP; simp [h2])
            go_quiet (fail)
            go_wp2
            go_ret2
            exact ⟨by rw [HN.out]; rfl, HW1.out.below.trans ((below_dn w5 nq).mono HW1.out.below.size)⟩
          · have g2 : decide ((R : Int) ≤ p1) = false := decide_eq_false h2
            by_cases h3 : p2 < 0
            · have g3 : decide (p2 < 0) = true := decide_eq_true h3
              have HN : Hid (worthF g l = (0, 180)) := hid (by rw [HWF.out, HD.out, worthL, if_pos]; unfold badP; simp [h3])
              go_quiet (fail)
              go_wp2
              go_ret2
              exact ⟨by rw [HN.out]; rfl, HW1.out.below.trans ((below_dn w5 nq).mono HW1.out.below.size)⟩
            · have g3 : decide (p2 < 0) = false := decide_eq_false h3
              by_cases h4 : (C : Int) ≤ p2
              · have g4 : decide ((C : Int) ≤ p2) = true := decide_eq_true h4
                have HN : Hid (worthF g l = (0, 180)) := hid (by rw [HWF.out, HD.out, worthL, if_pos]; unfold badP; simp [h4])
                go_quiet (fail)
                go_wp2
                go_ret2
                exact ⟨by rw [HN.out]; rfl, HW1.out.below.trans ((below_dn w5 nq).mono HW1.out.below.size)⟩
              · have g4 : decide ((C : Int) ≤ p2) = false := decide_eq_false h4
                obtain ⟨r, rfl⟩ := Int.eq_ofNat_of_zero_le (show 0 ≤ p1 by omega)
                obtain ⟨c, rfl⟩ := Int.eq_ofNat_of_zero_le (show 0 ≤ p2 by omega)
                have hr64 : r < 64 := by omega
                have hc64 : c < 64 := by omega
                have hri : (r : Int) < 64 := by omega
                have hci : (c : Int) < 64 := by omega
                have ct := HW1.out.taken.cell (k := c) (by rw [HTL.out]; exact hc64)
                have cT := HW1.out.tbl.at hr64 hc64
                cases h5 : getB taken c with
                | true =>
                  rw [h5] at ct
                  have HT5 := hid h5
                  clear h5
                  have HN : Hid (worthF g l = (0, 180)) := hid (by rw [HWF.out, HD.out, worthL, if_pos]; unfold badP; simp [HT5.out])
                  go_quiet (fail)
                  go_wp2
                  go_ret2
                  exact ⟨by rw [HN.out]; rfl, HW1.out.below.trans ((below_dn w5 nq).mono HW1.out.below.size)⟩
                | false =>
                  rw [h5] at ct
                  have HT5 := hid h5
                  clear h5
                  by_cases h6 : wOf (tblOf g.es) r c = 0
                  · have g6 : (wOf (tblOf g.es) r c == 0) = true := by simp [h6]
                    have HN : Hid (worthF g l = (0, 180)) := hid (by rw [HWF.out, HD.out, worthL, if_pos]; unfold badP; simp [h6])
                    rw [h6] at cT
                    clear h6
                    go_quiet (fail)
                    go_wp2
                    go_ret2
                    exact ⟨by rw [HN.out]; rfl, HW1.out.below.trans ((below_dn w5 nq).mono HW1.out.below.size)⟩
                  · have g6 : (wOf (tblOf g.es) r c == 0) = false := by simp [h6]
                    have b1 : 0 ≤ wOf (tblOf g.es) r c := HW.out.lo r c
                    have b2 : wOf (tblOf g.es) r c ≤ 1099513724929 := HW.out.hi r c
                    have HN : Hid (worthF g l = worthL (wG g) R C (l.drop (k + 1)) r (taken.set c true) (sum + wOf (tblOf g.es) r c)) := hid (by
                      rw [HWF.out, HD.out, worthL, if_neg]
                      · simp
                      · unfold badP
                        simp [HT5.out, h6]
                        omega)
                    obtain ⟨x, hx⟩ : ∃ x, x = wOf (tblOf g.es) r c := ⟨_, rfl⟩
                    have HXV := hid hx
                    rw [← hx] at cT g6 b1 b2 HN
                    clear hx h6
                    go_quiet (fail)
                    have HW2 := hid (HW1.out.kept (below_dn w5 nq))
                    have HX2 := hid (below_keep (below_dn w5 nq) HX1.out)
                    clear HW1 HX1 cx0 cx1 cr cc ct cT
                    generalize w5.drewN nq = w6 at *
                    obtain ⟨wq, hwq⟩ : ∃ wq, wq = w6.drew := ⟨_, rfl⟩
                    have HQD := hid hwq
                    have hbd : Below w6.heap.size w6 wq := by rw [hwq]; exact (Below.refl _ _).drew
                    have HWq := hid (HW2.out.kept hbd)
                    have HXq := hid (below_keep hbd HX2.out)
                    clear hwq hbd HW2 HX2
                    have cx0 := row_cell HXq.out 0 _ rfl
                    have cx1 := row_cell HXq.out 1 _ rfl
                    have ct := HWq.out.taken.cell (k := c) (by rw [HTL.out]; exact hc64)
                    have ft := free_row HWq.out.taken c
                    have HW3 := hid (HWq.out.set c true)
                    have HX3 : Hid ((wq.setCell ⟨kb, c, none⟩ (.bool true)).heap[gx]? = some (.cells #[.int .i64 r, .int .i64 c] 45 (0, 0))) := hid (by rw [heap_setCell_ne (by omega)]; exact HXq.out)
                    go_wp2
                    refine wp_region_tail 6 (by kernel_rfl) (by kernel_rfl) wq HQD.out ?_
                    simp only [List.take_succ_cons, List.take_zero, List.drop_succ_cons, List.drop_zero]
                    iterate 6 still_step
                    refine wpStill_nil ?_
                    go_upto_region 13 with fail
                    generalize wq.setCell ⟨kb, c, none⟩ (.bool true) = w7 at *
                    clear cx0 cx1 ct ft HWq HXq
                    have cx0 := row_cell HX3.out 0 _ rfl
                    have cx1 := row_cell HX3.out 1 _ rfl
                    have cT := HW3.out.tbl.at hr64 hc64
                    have hx7 : wOf (tblOf g.es) r c = x := HXV.out.symm
                    rw [hx7] at cT
                    clear hx7
                    have hs1 : 1099513724929 * (last + 1) + 1099513724929 ≤ 1099513724929 * ((r : Int) + 1) := by omega
                    go_quiet (fail)
                    have HW4 := hid (HW3.out.kept (below_dn w7 nq))
                    clear cx0 cx1 cT
                    go_wp2
                    go_roundw
                    case rel => exact ⟨k + 1, r, sum + x, _, by omega, by go_num, rfl, rfl, by omega, hid (by simp [HTL.out]), HW4, HN⟩
                    case measure => simp [intOf]; omega
      · obtain rfl : k = l.length := by omega
        have hki : ¬ ((l.length : Int) < (l.length : Int)) := by omega
        have HN : Hid (worthF g l = (sum, 0)) := hid (by rw [HWF.out, List.drop_length]; rfl)
        clear hk hlt
        go_wp2
        go_ret2
        exact ⟨by rw [HN.out]; rfl, HWA.out.below⟩
  · have HV1 : Hid (chkV g = 170) := hid (by unfold chkV; rw [if_neg k1])
    have HWF : Hid (worthF g l = (0, 170)) := hid (by unfold worthF; rw [if_neg k1])
    rw [HV1.out]
    clear k1
    go_wp2
    go_ret2
    exact ⟨by rw [HWF.out]; rfl, HB2.out⟩
end Go.Proofs.Ytmddhjoomlhbcaa
