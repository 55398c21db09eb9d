/- The walk of heaviest. -/
import Derived.Test.YtmddhjoomlhbcaaAsMem
namespace Go.Proofs.Ytmddhjoomlhbcaa
open Go.RowKit

attribute [local go_sem] zeroValue_z65 zeroValue_b65
attribute [local simp] z65_ne b65_ne
/-- The world under a name of its own, with what is known of it. -/
theorem at_world {P : Program} {c : Code} {Q : Exit → Act → World → Prop} {a : Act} {w : World} (F : World → Prop) (w0 : World) (hw : w0 = w) (hF : F w0) (h : ∀ w1, F w1 → c.wp P Q a w1) : c.wp P Q a w := h w (hw ▸ hF)
theorem HvAt.start {w w1 : World} {tp R C : Nat} {T : List Int} (ht : TblAt w1 tp R C T) (hr : TabAt w1 w.heap.size 64 (List.replicate 64 0)) (hb : Below w.heap.size w w1) (hs : w1.heap.size = w.heap.size + 1) (nq : Nat) (htp : tp < w.heap.size) :
    HvAt w (((((w1.drewN nq).alloc (.cells z65 77)).alloc (.cells z65 77)).alloc (.cells z65 77)).alloc (.cells z65 77)) tp w.heap.size (w.heap.size + 1) (w.heap.size + 1 + 1) (w.heap.size + 1 + 1 + 1) (w.heap.size + 1 + 1 + 1 + 1) R C T (List.replicate 64 0) (List.replicate 65 0) (List.replicate 65 0) (List.replicate 65 0) (List.replicate 65 0) := by
  have hb0 : Below w1.heap.size w1 (w1.drewN nq) := ⟨rfl, rfl, rfl, Nat.le_refl _, fun _ _ => rfl⟩
  have s0 : (w1.drewN nq).heap.size = w.heap.size + 1 := hs
  generalize w1.drewN nq = a at *
  have s1 : (a.alloc (.cells z65 77)).heap.size = w.heap.size + 1 + 1 := by rw [alloc_size, s0]
  have n1 : TabAt (a.alloc (.cells z65 77)) (w.heap.size + 1) 77 (List.replicate 65 0) := by rw [← s0]; exact heap_alloc_new _ _
  have b1 : Below a.heap.size a (a.alloc (.cells z65 77)) := (Below.refl _ _).alloc (Nat.le_refl _) _
  generalize a.alloc (.cells z65 77) = b at *
  have s2 : (b.alloc (.cells z65 77)).heap.size = w.heap.size + 1 + 1 + 1 := by rw [alloc_size, s1]
  have n2 : TabAt (b.alloc (.cells z65 77)) (w.heap.size + 1 + 1) 77 (List.replicate 65 0) := by rw [← s1]; exact heap_alloc_new _ _
  have b2 : Below b.heap.size b (b.alloc (.cells z65 77)) := (Below.refl _ _).alloc (Nat.le_refl _) _
  generalize b.alloc (.cells z65 77) = c at *
  have s3 : (c.alloc (.cells z65 77)).heap.size = w.heap.size + 1 + 1 + 1 + 1 := by rw [alloc_size, s2]
  have n3 : TabAt (c.alloc (.cells z65 77)) (w.heap.size + 1 + 1 + 1) 77 (List.replicate 65 0) := by rw [← s2]; exact heap_alloc_new _ _
  have b3 : Below c.heap.size c (c.alloc (.cells z65 77)) := (Below.refl _ _).alloc (Nat.le_refl _) _
  generalize c.alloc (.cells z65 77) = d at *
  have n4 : TabAt (d.alloc (.cells z65 77)) (w.heap.size + 1 + 1 + 1 + 1) 77 (List.replicate 65 0) := by rw [← s3]; exact heap_alloc_new _ _
  have b4 : Below d.heap.size d (d.alloc (.cells z65 77)) := (Below.refl _ _).alloc (Nat.le_refl _) _
  generalize d.alloc (.cells z65 77) = e at *
  have k3 : Below c.heap.size c e := b3.trans (b4.mono b3.size)
  have k2 : Below b.heap.size b e := b2.trans (k3.mono b2.size)
  have k1 : Below a.heap.size a e := b1.trans (k2.mono b1.size)
  have k0 : Below w1.heap.size w1 e := hb0.trans (k1.mono hb0.size)
  exact ⟨ht.kept k0, hr.kept k0, n1.kept k2, n2.kept k3, n3.kept b4, n4, hb.trans (k0.mono hb.size), ⟨htp, Nat.le_refl _, by omega, by omega, by omega, by omega⟩⟩

theorem HwAt.start {w0 w : World} {tp rb ub vb ob wb R C : Nat} {T tt u v o way : List Int} (h : HvAt w0 w tp rb ub vb ob wb R C T tt u v o way) (x : Int) :
    HwAt w0 (((w.setCell ⟨ob, 0, none⟩ (.int .i64 x)).alloc (.cells z65 77)).alloc (.cells b65 78)) tp rb ub vb ob wb w.heap.size (w.heap.size + 1) R C T tt u v (o.set 0 x) way (List.replicate 65 0) (List.replicate 65 false) := by
  have h1 := h.setO 0 x
  have s0 : (w.setCell ⟨ob, 0, none⟩ (.int .i64 x)).heap.size = w.heap.size := setCell_size _ _ _
  have hlt := h.way.lt
  generalize w.setCell ⟨ob, 0, none⟩ (.int .i64 x) = a at *
  have s1 : (a.alloc (.cells z65 77)).heap.size = w.heap.size + 1 := by rw [alloc_size, s0]
  have n1 : TabAt (a.alloc (.cells z65 77)) w.heap.size 77 (List.replicate 65 0) := by rw [← s0]; exact heap_alloc_new _ _
  have b1 : Below a.heap.size a (a.alloc (.cells z65 77)) := (Below.refl _ _).alloc (Nat.le_refl _) _
  generalize a.alloc (.cells z65 77) = b at *
  have n2 : BlsAt (b.alloc (.cells b65 78)) (w.heap.size + 1) 78 (List.replicate 65 false) := by rw [← s1]; exact heap_alloc_new _ _
  have b2 : Below b.heap.size b (b.alloc (.cells b65 78)) := (Below.refl _ _).alloc (Nat.le_refl _) _
  exact ⟨h1.kept (b1.trans (b2.mono b1.size)), n1.kept b2, n2, ⟨hlt, by omega⟩⟩

set_option maxRecDepth 100000 in
set_option maxHeartbeats 20000000 in
theorem heaviest_any (tp R C : Nat) (T : List Int) (hR : R ≤ 64) (hC : C ≤ 64) (hW : WOk (wOf T)) (hout : ∀ r c, ¬ (r < R ∧ c < C) → wOf T r c = 0) (w : World) (ht : TblAt w tp R C T) :
    Calls Try.prog 41 #[.pointer (some ⟨tp, 0, none⟩)] w fun e w' => ∃ tt, e = .returned (.agg (ints tt)) ∧ tt.length = 64 ∧ Top (wOf T) R C (getI tt) ∧ Below w.heap.size w w' := by
  have HT := hid ht
  have HW := hid hW
  have HO := hid hout
  have HRC := hid (And.intro hR hC)
  have htp : tp < w.heap.size := heap_lt ht.row
  clear ht hW hout
  go_enter Try.func41, Try.ntmps41
  go_upto_region 1 with fail
  refine at_world (fun w1 => TblAt w1 tp R C T ∧ TabAt w1 w.heap.size 64 (List.replicate 64 0) ∧ Below w.heap.size w w1 ∧ w1.heap.size = w.heap.size + 1) (w.alloc (.cells (ints (List.replicate 64 0)) 64)) rfl ⟨HT.out.kept ((Below.refl _ _).alloc (Nat.le_refl _) _), heap_alloc_new _ _, (Below.refl _ _).alloc (Nat.le_refl _) _, alloc_size _ _⟩ ?_
  rintro w1 ⟨ht1, hr1, hb1, hs1⟩
  have c1 := ht1.rows
  have c2 := ht1.cols
  go_quiet (fail)
  obtain ⟨n, hn⟩ : ∃ n : Nat, n = if R < C then C else R := ⟨_, rfl⟩
  have hni : (if R < C then (C : Int) else (R : Int)) = (n : Int) := by rw [hn]; split <;> rfl
  rw [hni]
  have HN : Hid (n ≤ 64 ∧ R ≤ n ∧ C ≤ n) := hid (by rw [hn]; split <;> omega)
  have hn64 : (n : Int) ≤ 64 := by have := HN.out.1; omega
  clear hni hn c1 c2
  go_upto_region 4 with fail
  have HV0 := hid (HvAt.start ht1 hr1 hb1 hs1 nq htp)
  refine at_world (fun w2 => HvAt w w2 tp w.heap.size (w.heap.size + 1) (w.heap.size + 1 + 1) (w.heap.size + 1 + 1 + 1) (w.heap.size + 1 + 1 + 1 + 1) R C T (List.replicate 64 0) (List.replicate 65 0) (List.replicate 65 0) (List.replicate 65 0) (List.replicate 65 0)) _ rfl HV0.out ?_
  intro w2 hv2
  have HV := hid hv2
  clear hv2 HV0 ht1 hr1 hb1 hs1
  generalize w.heap.size + 1 + 1 + 1 + 1 = wb at *
  generalize w.heap.size + 1 + 1 + 1 = ob at *
  generalize w.heap.size + 1 + 1 = vb at *
  generalize w.heap.size + 1 = ub at *
  go_wp2
  go_loopw [8] (fun r wr => ∃ (m : Nat) (u v o way : List Int), m ≤ n ∧ r = .int .i64 ((m : Int) + 1) ∧ Hid (HvAt w wr tp w.heap.size ub vb ob wb R C T (List.replicate 64 0) u v o way) ∧ Hid (HR (wOf T) n m u v o) ∧ Hid (way.length = 65)) (fun r _ => n + 1 - (intOf r).toNat)
  case atStart => exact ⟨0, _, _, _, _, by omega, rfl, HV, hid (HR.start rfl rfl rfl HN.out.1), hid (by simp)⟩
  case round =>
    clear HV
    obtain ⟨m, u, v, o, way, hm, rfl, HV, HRI, HWL⟩ := hrel
    by_cases hlt : m < n
    · have hmi : (m : Int) + 1 ≤ (n : Int) := by omega
      have c1 := HV.out.o.cellI (k := 0) (by rw [HRI.out.lo]; omega)
      have f1 := free_row HV.out.o 0
      have HW1 := hid (HwAt.start HV.out ((m : Int) + 1))
      have lwb := HV.out.way.lt
      go_upto_region 11 with fail
      generalize ((wr.setCell ⟨ob, 0, none⟩ (.int .i64 ((m : Int) + 1))).alloc (.cells z65 77)).alloc (.cells b65 78) = w3 at *
      generalize wr.heap.size + 1 = xb at *
      generalize wr.heap.size = lb at *
      clear c1 f1 HV
      go_wp2
      go_loopw [38] (fun i wr => ∃ k : Nat, k ≤ 65 ∧ i = .int .i64 k ∧ Hid (HwAt w wr tp w.heap.size ub vb ob wb lb xb R C T (List.replicate 64 0) u v (o.set 0 ((m : Int) + 1)) way (fillF k) (List.replicate 65 false))) (fun i _ => 65 - (intOf i).toNat)
      case atStart => exact ⟨0, by omega, rfl, HW1⟩
      case round =>
        clear HW1
        obtain ⟨k, hk, rfl, HW1⟩ := hrel
        by_cases hk65 : k < 65
        · have hki : (k : Int) < 65 := by omega
          have c1 := HW1.out.least.cellI (k := k) (by rw [fillF_len hk]; omega)
          have f1 := free_row HW1.out.least k
          have HW2 := hid (HW1.out.setLeast k 1152921504606846976)
          rw [fillF_set hk65] at HW2
          go_wp2
          go_roundw
          case rel => exact ⟨k + 1, by omega, by go_num, HW2⟩
          case measure => simp [intOf]; omega
        · obtain rfl : k = 65 := by omega
          have hki : ¬ ((65 : Nat) : Int) < 65 := by omega
          have e1 : ((m + 1 : Nat) : Int) = (m : Int) + 1 := by omega
          have HS0 := HS.start HRI.out hlt HN.out.1 HWL.out (least := fillF 65) rfl (used := List.replicate 65 false) rfl
          rw [e1] at HS0
          have HSI := hid HS0
          clear e1 HS0 hk65 hk
          go_wp2
          generalize o.set 0 ((m : Int) + 1) = o' at *
          clear HRI HWL hki
          have HM := hid hlt
          go_loopw [9] (fun a wr => ∃ (k at_ : Nat) (u v way least : List Int) (used : List Bool) (d : Nat → Nat), a = .int .i64 at_ ∧ Hid (HwAt w wr tp w.heap.size ub vb ob wb lb xb R C T (List.replicate 64 0) u v o' way least used) ∧ Hid (HS (wOf T) n m u v o' way least used d k at_)) (fun _ wr => unu wr xb)
          case atStart => exact ⟨0, 0, _, _, _, _, _, _, rfl, HW1, HSI⟩
          case round =>
            clear HW1 HSI
            obtain ⟨k, at_, u, v, way, least, used, d, rfl, HWT, HSI⟩ := hrel
            have HMT := hid (unu_at HWT.out.used)
            have hatn := HSI.out.atn
            have hat64 : (at_ : Int) < 65 := by have := HN.out; omega
            by_cases hz : getI o' at_ = 0
            · have c1 := HWT.out.base.o.cellV (k := at_) (by rw [HSI.out.lo]; omega) hz
              obtain ⟨ha0, hat0⟩ := HA.start HSI.out hz
              have HA0 := hid ha0
              have HT0 := hid hat0
              clear ha0 hat0 hz
              go_wp2
              clear c1
              go_loopw [9] (fun a wr => ∃ (a2 : Nat) (o2 : List Int), a = .int .i64 a2 ∧ Hid (HwAt w wr tp w.heap.size ub vb ob wb lb xb R C T (List.replicate 64 0) u v o2 way least used) ∧ Hid (HA (wOf T) n m u v o' used d at_ o2 a2)) (fun a _ => d (intOf a).toNat)
              case atStart => exact ⟨at_, _, rfl, HWT, HA0⟩
              case round =>
                clear HWT HA0
                obtain ⟨a2, o2, rfl, HWT, HA2⟩ := hrel
                by_cases hz : a2 = 0
                · subst hz
                  have hzi : (((0 : Nat) : Int) != 0) = false := rfl
                  have HRN := hid (HA.done HSI.out HT0.out HA2.out)
                  have HVN := hid HWT.out.base
                  have HWN := hid HSI.out.lw
                  go_wp2
                  go_roundw
                  case rel => exact ⟨m + 1, _, _, _, _, by omega, by go_num, HVN, HRN, HWN⟩
                  case measure => simp [intOf]; omega
                · obtain ⟨p, i, h1, h2, h3, h4, h5, h6⟩ := HA2.out.step HSI.out HN.out.1 hz
                  have HDP := hid h3
                  have HAN := hid h6
                  have HWP := hid h1
                  have HOP := hid h4
                  have ha2n := HA2.out.atn
                  have hzi : ((a2 : Int) != 0) = true := by simp; omega
                  have hn65 : n ≤ 64 := HN.out.1
                  have hpi : (p : Int) < 65 := by omega
                  have hai : (a2 : Int) < 65 := by omega
                  clear h1 h3 h4 h6
                  have c1 := HWT.out.base.way.cellV (k := a2) (by rw [HSI.out.lw]; omega) HWP.out
                  have c2 := HWT.out.base.o.cellV (k := p) (by rw [HA2.out.lo]; omega) HOP.out
                  have c3 := HWT.out.base.o.cellI (k := a2) (by rw [HA2.out.lo]; omega)
                  have f3 := free_row HWT.out.base.o a2
                  have HWQ := hid (HWT.out.setO a2 (i : Int))
                  go_upto_region 38 with fail
                  generalize wr.setCell ⟨ob, a2, none⟩ (.int .i64 (i : Int)) = w7 at *
                  clear c1 c2 c3 f3 HWT
                  have c1 := HWQ.out.base.way.cellV (k := a2) (by rw [HSI.out.lw]; omega) HWP.out
                  go_wp2
                  go_roundw
                  case rel => exact ⟨p, _, rfl, HWQ, HAN⟩
                  case measure => simp [intOf]; exact HDP.out
            · obtain ⟨ro, hro, hro1, hrom⟩ := HSI.out.atRow hz
              obtain ⟨q, rfl⟩ : ∃ q, ro = q + 1 := ⟨ro - 1, by omega⟩
              have e1 : ((q + 1 : Nat) : Int) = (q : Int) + 1 := by omega
              have hq64 : (q : Int) < 64 := by have := HN.out; omega
              have hqn : (((q : Int) + 1) != 0) = true := by simp; omega
              rw [e1] at hro
              have HZ := hid hz
              have HRO := hid hro
              have c1 := HWT.out.base.o.cellV (k := at_) (by rw [HSI.out.lo]; omega) hro
              have c2 := HWT.out.used.cell (k := at_) (by rw [HSI.out.lus]; omega)
              have f2 := free_row HWT.out.used at_
              have HW2 := hid (HWT.out.setUsed at_ true)
              clear hz hro hro1 e1
              obtain ⟨U, hU⟩ : ∃ U, U = used.set at_ true := ⟨_, rfl⟩
              rw [← hU] at HW2
              have HU := hid hU
              have HUL : Hid (U.length = 65) := hid (by rw [hU]; simp [HSI.out.lus])
              obtain ⟨lf, hlf⟩ : ∃ lf, lf = rc (wOf T) u v (q + 1) := ⟨_, rfl⟩
              have HLF := hid hlf
              clear hU hlf
              go_upto_region 18 with fail
              generalize wr.setCell ⟨xb, at_, none⟩ (.bool true) = w4 at *
              clear c1 c2 f2
              have c1 := HW2.out.base.o.cellV (k := at_) (by rw [HSI.out.lo]; omega) HRO.out
              go_wp2
              go_loopw [14, 15, 16] (fun nx b c wr => ∃ (j next : Nat) (by_ : Int) (least1 way1 : List Int), j ≤ n ∧ nx = .int .i64 next ∧ b = .int .i64 by_ ∧ c = .int .i64 ((j : Int) + 1) ∧ Hid (HwAt w wr tp w.heap.size ub vb ob wb lb xb R C T (List.replicate 64 0) u v o' way1 least1 U) ∧ Hid (Rlx n at_ lf U least way j least1 way1 next by_)) (fun _ _ c _ => n + 1 - (intOf c).toNat)
              case atStart => exact ⟨0, 0, _, _, _, by omega, rfl, rfl, rfl, HW2, hid (Rlx.start HSI.out.ll HSI.out.lw)⟩
              case round =>
                clear HW2
                obtain ⟨j, next, by_, least1, way1, hj, rfl, rfl, rfl, HWR, HRL⟩ := hrel
                by_cases hjn : j < n
                · have hji : (j : Int) + 1 ≤ (n : Int) := by omega
                  have cu := HWR.out.used.cell (k := j + 1) (by rw [HUL.out]; have := HN.out; omega)
                  cases hu : getB U (j + 1) with
                  | true =>
                    rw [hu] at cu
                    have HRL2 := hid (HRL.out.skip hu)
                    clear hu
                    go_wp2
                    go_roundw
                    case rel => exact ⟨j + 1, next, by_, _, _, by omega, rfl, rfl, by go_num, HWR, HRL2⟩
                    case measure => simp [intOf]; omega
                  | false =>
                    rw [hu] at cu
                    have HUJ := hid hu
                    clear hu
                    have cT := HWR.out.base.tbl.at (r := q) (c := j) (by omega) (by have := HN.out; omega)
                    have cU := HWR.out.base.u.cellI (k := q + 1) (by rw [HSI.out.lu]; omega)
                    have cV := HWR.out.base.v.cellI (k := j + 1) (by rw [HSI.out.lv]; have := HN.out; omega)
                    have cL := HWR.out.least.cellI (k := j + 1) (by rw [HRL.out.ll]; have := HN.out; omega)
                    have b1 := HW.out.lo q j
                    have b2 := HW.out.hi q j
                    have b3 := (HSI.out.small HM.out HN.out.1).1 (q + 1) (by omega) (by omega)
                    have b4 := (HSI.out.small HM.out HN.out.1).2 (j + 1) (by omega)
                    have hlj : lf (j + 1) = -(wOf T q j) - getI u (q + 1) - getI v (j + 1) := by rw [HLF.out]; rfl
                    generalize wOf T q j = xa at *
                    generalize getI u (q + 1) = xu at *
                    generalize getI v (j + 1) = xv at *
                    go_wp2
                    go_quiet (fail)
                    rw [← hlj]
                    have HWX := hid (HWR.out.drewN nq)
                    clear hlj cT cU cV cu cL b1 b2 b3 b4 HWR
                    generalize wr.drewN nq = w5 at *
                    have hj64 : j < 64 := by have := HN.out; omega
                    have cL := HWX.out.least.cellI (k := j + 1) (by rw [HRL.out.ll]; omega)
                    by_cases hA : lf (j + 1) < getI least1 (j + 1)
                    · have fL := free_row HWX.out.least (j + 1)
                      have cW := HWX.out.base.way.cellI (k := j + 1) (by rw [HRL.out.lw]; omega)
                      have fW := free_row HWX.out.base.way (j + 1)
                      have m1 : lb ≠ wb := by have := HWX.out.ord; omega
                      have m2 : wb ≠ lb := by omega
                      have HWY := hid ((HWX.out.setLeast (j + 1) (lf (j + 1))).setWay (j + 1) (at_ : Int))
                      go_upto_region 26 with fail
                      generalize (w5.setCell ⟨lb, j + 1, none⟩ (.int .i64 (lf (j + 1)))).setCell ⟨wb, j + 1, none⟩ (.int .i64 (at_ : Int)) = w6 at *
                      clear cL fL cW fW m1 m2 HWX
                      have e1 : getI (least1.set (j + 1) (lf (j + 1))) (j + 1) = lf (j + 1) := by rw [getI_set, if_pos ⟨rfl, by rw [HRL.out.ll]; omega⟩]
                      have cL := HWY.out.least.cellV (k := j + 1) (by simp [HRL.out.ll]; omega) e1
                      clear e1
                      by_cases hB : lf (j + 1) < by_
                      · have HRL2 := hid (HRL.out.put_less hj64 HUJ.out hA hB)
                        go_wp2
                        go_roundw
                        case rel => exact ⟨j + 1, j + 1, _, _, _, by omega, by go_num, rfl, by go_num, HWY, HRL2⟩
                        case measure => simp [intOf]; omega
                      · have HRL2 := hid (HRL.out.put_same hj64 HUJ.out hA hB)
                        go_wp2
                        go_roundw
                        case rel => exact ⟨j + 1, next, by_, _, _, by omega, rfl, rfl, by go_num, HWY, HRL2⟩
                        case measure => simp [intOf]; omega
                    · by_cases hB : getI least1 (j + 1) < by_
                      · have HRL2 := hid (HRL.out.less HUJ.out hA hB)
                        go_wp2
                        go_roundw
                        case rel => exact ⟨j + 1, j + 1, _, _, _, by omega, by go_num, rfl, by go_num, HWX, HRL2⟩
                        case measure => simp [intOf]; omega
                      · have HRL2 := hid (HRL.out.same hA hB)
                        go_wp2
                        go_roundw
                        case rel => exact ⟨j + 1, next, by_, _, _, by omega, rfl, rfl, by go_num, HWX, HRL2⟩
                        case measure => simp [intOf]; omega
                · obtain rfl : n = j := by omega
                  have hjn' : ¬ ((n : Int) + 1 ≤ (n : Int)) := by omega
                  have HST := HSI.out.step HW.out HM.out HN.out.1 HZ.out (by rw [← HU.out, show ofN o' at_ = q + 1 by (have := HRO.out; unfold ofN; omega), ← HLF.out]; exact HRL.out)
                  rw [← HU.out] at HST
                  obtain ⟨⟨hn1, hn2, hb1, hb2⟩, hls, hsh⟩ := HST
                  have HLS := hid hls
                  have HSH := hid (fun (u2 v2 l2 : List Int) (h : Shf n o' U by_ u v least1 (n + 1) u2 v2 l2) => hsh h)
                  have HWS := hid HWR.out
                  clear hls hsh HWR hj hjn
                  go_wp2
                  go_loopw [18] (fun c wr => ∃ (j : Nat) (u2 v2 least2 : List Int), j ≤ n + 1 ∧ c = .int .i64 j ∧ Hid (HwAt w wr tp w.heap.size ub vb ob wb lb xb R C T (List.replicate 64 0) u2 v2 o' way1 least2 U) ∧ Hid (Shf n o' U by_ u v least1 j u2 v2 least2)) (fun c _ => n + 2 - (intOf c).toNat)
                  case atStart => exact ⟨0, _, _, _, by omega, rfl, HWS, hid (Shf.start HSI.out.lu HSI.out.lv HRL.out.ll)⟩
                  case round =>
                    clear HWS hjn'
                    obtain ⟨j, u2, v2, least2, hj, rfl, HWS, HSF⟩ := hrel
                    by_cases hjn : j ≤ n
                    · have hji : (j : Int) ≤ (n : Int) := by omega
                      have hj64 : j ≤ 64 := by have := HN.out; omega
                      have cu := HWS.out.used.cell (k := j) (by rw [HUL.out]; omega)
                      cases hu : getB U j with
                      | true =>
                        rw [hu] at cu
                        have hu' := hu
                        rw [HU.out] at hu'
                        obtain ⟨_, i, hi, hi1, him⟩ := HSI.out.rowOf HN.out.1 HZ.out hu'
                        have hoN : ofN o' j = i := by unfold ofN; omega
                        obtain ⟨e1, e2, hsf⟩ := HSF.out.used hj64 (by have := HN.out; omega) hu (fun x hx hxu e => by
                          rw [HU.out] at hxu
                          have := HSI.out.onlyOne HN.out.1 HZ.out hxu hu' e
                          omega)
                        rw [hoN] at e1 hsf
                        have HS2 := hid hsf
                        have HJO := hid hi
                        have b3 := (HSI.out.small HM.out HN.out.1).1 i hi1 (by omega)
                        have b4 := (HSI.out.small HM.out HN.out.1).2 j hjn
                        have hi64 : i ≤ 64 := by have := HN.out; omega
                        clear hu hu' hsf hi hoN
                        have c1 := HWS.out.base.o.cellV (k := j) (by rw [HSI.out.lo]; omega) HJO.out
                        have c2 := HWS.out.base.u.cellV (k := i) (by rw [HSF.out.lu]; omega) e1
                        have f2 := free_row HWS.out.base.u i
                        have HWU := hid (HWS.out.setU i (getI u i + by_))
                        have hi65 : (i : Int) < 65 := by omega
                        go_upto_region 33 with fail
                        generalize wr.setCell ⟨ub, i, none⟩ (.int .i64 (getI u i + by_)) = w7 at *
                        clear cu c1 c2 f2 HWS
                        have c3 := HWU.out.base.v.cellV (k := j) (by rw [HSF.out.lv]; omega) e2
                        have f3 := free_row HWU.out.base.v j
                        have HWV := hid (HWU.out.setV j (getI v j - by_))
                        go_wp2
                        go_roundw
                        case rel => exact ⟨j + 1, _, _, _, by omega, by go_num, HWV, HS2⟩
                        case measure => simp [intOf]; omega
                      | false =>
                        rw [hu] at cu
                        obtain ⟨e1, hsf⟩ := HSF.out.other hj64 hu
                        have HS2 := hid hsf
                        have b3 := HLS.out j hjn hu
                        clear hu hsf
                        have c2 := HWS.out.least.cellV (k := j) (by rw [HSF.out.ll]; omega) e1
                        have f2 := free_row HWS.out.least j
                        have HWV := hid (HWS.out.setLeast j (getI least1 j - by_))
                        go_wp2
                        go_roundw
                        case rel => exact ⟨j + 1, _, _, _, by omega, by go_num, HWV, HS2⟩
                        case measure => simp [intOf]; omega
                    · obtain rfl : j = n + 1 := by omega
                      have hji : ¬ (((n + 1 : Nat) : Int) ≤ (n : Int)) := by omega
                      have HSN := hid (HSH.out _ _ _ HSF.out)
                      have hmu : unu wr xb = unmet U := unu_at HWS.out.used
                      go_wp2
                      go_roundw
                      case rel => exact ⟨k + 1, next, _, _, _, _, _, _, rfl, HWS, HSN⟩
                      case measure =>
                        have := unmet_set used at_ HSI.out.atu (by rw [HSI.out.lus]; omega)
                        rw [hmu, HMT.out, HU.out]; omega
    · obtain rfl : n = m := by omega
      have hni : ¬ ((n : Int) + 1 ≤ (n : Int)) := by omega
      clear hlt
      go_wp2
      clear hni hm
      go_loopw [141] (fun i wr => ∃ k : Nat, k ≤ 64 ∧ i = .int .i64 k ∧ Hid (HvAt w wr tp w.heap.size ub vb ob wb R C T (fillM k) u v o way)) (fun i _ => 64 - (intOf i).toNat)
      case atStart => exact ⟨0, by omega, rfl, HV⟩
      case round =>
        clear HV
        obtain ⟨k, hk, rfl, HV⟩ := hrel
        by_cases hk64 : k < 64
        · have hki : (k : Int) < 64 := by omega
          have c1 := HV.out.res.cellI (k := k) (by rw [fillM_len hk]; omega)
          have f1 := free_row HV.out.res k
          have HV2 := hid (HV.out.setRes k (-1))
          rw [fillM_set hk64] at HV2
          go_wp2
          go_roundw
          case rel => exact ⟨k + 1, by omega, by go_num, HV2⟩
          case measure => simp [intOf]; omega
        · obtain rfl : k = 64 := by omega
          have hki : ¬ ((64 : Nat) : Int) < 64 := by omega
          clear hk hk64
          go_wp2
          clear hki
          go_loopw [20] (fun c wr => ∃ (j : Nat) (tt : List Int), j ≤ n ∧ c = .int .i64 ((j : Int) + 1) ∧ Hid (HvAt w wr tp w.heap.size ub vb ob wb R C T tt u v o way) ∧ Hid (ToOf (wOf T) o tt j)) (fun c _ => n + 1 - (intOf c).toNat)
          case atStart => exact ⟨0, _, by omega, rfl, HV, hid (ToOf.start _ _ rfl)⟩
          case round =>
            clear HV
            obtain ⟨j, tt, hj, rfl, HV, HTO⟩ := hrel
            by_cases hjn : j < n
            · have hji : (j : Int) + 1 ≤ (n : Int) := by omega
              have hj64 : j < 64 := by have := HN.out; omega
              obtain ⟨x, hx, hxn⟩ := HRI.out.ofv (j + 1) (by omega) (by omega)
              have HX := hid hx
              have c1 := HV.out.o.cellV (k := j + 1) (by rw [HRI.out.lo]; omega) hx
              clear hx
              by_cases hx0 : x = 0
              · subst hx0
                have HT2 := hid (HTO.out.skip (fun r _ hr => by rw [HX.out] at hr; omega))
                have hgt : decide (((0 : Nat) : Int) > 0) = false := rfl
                go_wp2
                go_roundw
                case rel => exact ⟨j + 1, tt, by omega, by go_num, HV, HT2⟩
                case measure => simp [intOf]; omega
              · obtain ⟨q, rfl⟩ : ∃ q, x = q + 1 := ⟨x - 1, by omega⟩
                have e1 : ((q + 1 : Nat) : Int) = (q : Int) + 1 := by omega
                rw [e1] at c1
                have hgt : decide ((q : Int) + 1 > 0) = true := decide_eq_true (by omega)
                have hq64 : q < 64 := by have := HN.out; omega
                have hqi : (q : Int) < 64 := by omega
                have cT := HV.out.tbl.at (r := q) (c := j) hq64 hj64
                clear hx0 e1
                by_cases hw : 0 < wOf T q j
                · have HT2 := hid (HTO.out.put hq64 HX.out hw (fun c h1 h2 e => by
                    have := HRI.out.inj c (j + 1) h1 (by omega) (by omega) (by omega) (by omega) (by rw [e, HX.out])
                    omega))
                  have hw2 : decide (wOf T q j > 0) = true := decide_eq_true hw
                  have c2 := HV.out.res.cellI (k := q) (by rw [HTO.out.len]; omega)
                  have f2 := free_row HV.out.res q
                  have HV2 := hid (HV.out.setRes q (j : Int))
                  go_wp2
                  go_roundw
                  case rel => exact ⟨j + 1, _, by omega, by go_num, HV2, HT2⟩
                  case measure => simp [intOf]; omega
                · have HT2 := hid (HTO.out.skip (fun r _ hr => by
                    rw [HX.out] at hr
                    have : r = q := by omega
                    subst this; exact hw))
                  have hw2 : decide (wOf T q j > 0) = false := decide_eq_false hw
                  go_wp2
                  go_roundw
                  case rel => exact ⟨j + 1, tt, by omega, by go_num, HV, HT2⟩
                  case measure => simp [intOf]; omega
            · obtain rfl : n = j := by omega
              have hji : ¬ ((n : Int) + 1 ≤ (n : Int)) := by omega
              have HTOP := hid (HR.top HW.out HN.out.2.1 HN.out.2.2 HN.out.1 HO.out HRI.out HTO.out)
              have HRES := hid HV.out.res
              have HIN : Hid ((Try.prog.info? 64).map (·.size) = some (ints tt).size) := hid (by rw [ints_size, HTO.out.len]; exact info_64)
              clear hj hjn
              go_wp2_with (first | refine wpList_load_w rfl 64 _ rfl _ rfl _ _ _ _ HRES.out Try.underlying64 rfl HIN.out ?_ | refine wpList_store_row rfl 64 _ _ rfl _ rfl _ rfl _ _ HRES.out rfl (ints_one _) HIN.out _ (setRow_self _ _ _ _ _ HRES.out) ?_)
              refine bodyPost_ret (results_cell_row rfl _ _ _ 64 _ _ _ rfl HRES.out Try.underlying64 rfl HIN.out) rfl ⟨tt, rfl, HTO.out.len, HTOP.out, HV.out.below⟩
end Go.Proofs.Ytmddhjoomlhbcaa
