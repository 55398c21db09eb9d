/- The walk of covers. -/
import Derived.Test.YtmddhjoomlhbcaaAsHv
import Derived.BigQuiet
import Derived.StillTailTactics
namespace Go.Proofs.Ytmddhjoomlhbcaa
open Go.RowKit

/-- A function value says who may be whose. -/
def TightAt (w0 : World) (fid : FuncId) (caps : Array Value) (n : Nat) (t : Nat → Nat → Bool) : Prop :=
  ∀ w, Below w0.heap.size w0 w → ∀ a b : Nat, a < 64 → b < n → Calls Try.prog fid (#[.int .i64 a, .int .i64 b] ++ caps) w fun e w' => e = .returned (.bool (t a b)) ∧ ∃ m, w' = w.drewN m
/-- A call of it enters its text. -/
def Enters (fid : FuncId) : Prop := ∀ (args : Array Value) (w : World), Sem.run Try.prog (callFunc fid args) w = .ok (.enter fid args) w
/-- What a search holds: how many others there are, the marks, the function, who has whom, itself. -/
structure CvAt (w0 w : World) (nb sb tb ob cb n : Nat) (fid : FuncId) (caps : Array Value) (s : St) : Prop where
  nbox : w.heap[nb]? = some (.cells #[.int .i64 n] 3 (0, 0))
  seen : BlsAt w sb 63 s.met
  tbox : w.heap[tb]? = some (.cells #[.func (.func fid) #[] caps] 79 (0, 0))
  of : TabAt w ob 64 s.col
  cbox : w.heap[cb]? = some (.cells #[.func (.func 50) #[] #[.pointer (some ⟨nb, 0, none⟩), .pointer (some ⟨sb, 0, none⟩), .pointer (some ⟨tb, 0, none⟩), .pointer (some ⟨ob, 0, none⟩), .pointer (some ⟨cb, 0, none⟩)]] 81 (0, 0))
  below : Below w0.heap.size w0 w
  ord : w0.heap.size ≤ nb ∧ nb < tb ∧ tb < ob ∧ ob < sb ∧ sb < cb
section
variable {w0 w w' : World} {nb sb tb ob cb n : Nat} {fid : FuncId} {caps : Array Value} {s : St}
theorem CvAt.kept (h : CvAt w0 w nb sb tb ob cb n fid caps s) (hb : Below w.heap.size w w') : CvAt w0 w' nb sb tb ob cb n fid caps s :=
  ⟨below_keep hb h.nbox, h.seen.kept hb, below_keep hb h.tbox, h.of.kept hb, below_keep hb h.cbox, h.below.trans (hb.mono h.below.size), h.ord⟩
theorem CvAt.drewN (h : CvAt w0 w nb sb tb ob cb n fid caps s) (m : Nat) : CvAt w0 (w.drewN m) nb sb tb ob cb n fid caps s := h.kept ⟨rfl, rfl, rfl, Nat.le_refl _, fun _ _ => rfl⟩
theorem CvAt.mark (h : CvAt w0 w nb sb tb ob cb n fid caps s) (c : Nat) : CvAt w0 (w.setCell ⟨sb, c, none⟩ (.bool true)) nb sb tb ob cb n fid caps (s.mark c) := by
  have := h.ord
  exact ⟨by rw [heap_setCell_ne (by omega)]; exact h.nbox, h.seen.set c true, by rw [heap_setCell_ne (by omega)]; exact h.tbox, h.of.other (by omega) _ _, by rw [heap_setCell_ne (by omega)]; exact h.cbox, h.below.setCell (by show w0.heap.size ≤ sb; omega) _, h.ord⟩
theorem CvAt.pair (h : CvAt w0 w nb sb tb ob cb n fid caps s) (r c : Nat) : CvAt w0 (w.setCell ⟨ob, c, none⟩ (.int .i64 r)) nb sb tb ob cb n fid caps (s.pair r c) := by
  have := h.ord
  exact ⟨by rw [heap_setCell_ne (by omega)]; exact h.nbox, h.seen.other (by omega) _ _, by rw [heap_setCell_ne (by omega)]; exact h.tbox, h.of.set c r, by rw [heap_setCell_ne (by omega)]; exact h.cbox, h.below.setCell (by show w0.heap.size ≤ ob; omega) _, h.ord⟩
end
/-- Those that are still to be looked at. -/
def restOf (n : Nat) (t : Nat → Nat → Bool) (r b : Nat) : List Nat := (List.range' b (n - b)).filter (t r)
theorem restOf_zero (n : Nat) (t : Nat → Nat → Bool) {r : Nat} (hr : r < 64) : (tlOf n t)[r]?.getD [] = restOf n t r 0 := by
  unfold tlOf restOf
  rw [List.getElem?_map, List.getElem?_range hr]
  simp [List.range_eq_range']
theorem restOf_at {n : Nat} {t : Nat → Nat → Bool} {r b : Nat} (hb : b < n) : restOf n t r b = if t r b = true then b :: restOf n t r (b + 1) else restOf n t r (b + 1) := by
  unfold restOf
  rw [show n - b = (n - (b + 1)) + 1 by omega, List.range'_succ, List.filter_cons]
theorem restOf_end (n : Nat) (t : Nat → Nat → Bool) (r : Nat) : restOf n t r n = [] := by unfold restOf; simp
def CvPost (w0 : World) (nb sb tb ob cb n : Nat) (fid : FuncId) (caps : Array Value) (r : Bool × St) (e : Ending) (w' : World) : Prop :=
  e = .returned (.bool r.1) ∧ CvAt w0 w' nb sb tb ob cb n fid caps r.2

set_option maxRecDepth 100000 in
set_option maxHeartbeats 4000000 in
theorem comes_any (w0 : World) (nb sb tb ob cb n : Nat) (fid : FuncId) (caps : Array Value) (t : Nat → Nat → Bool) (hn : n ≤ 64) (hent : Enters fid) (hT : TightAt w0 fid caps n t) : ∀ (k : Nat) (s : St) (r : Nat) (w : World), r < 64 → StOk s → unmet s.met < k → CvAt w0 w nb sb tb ob cb n fid caps s →
    Calls Try.prog 50 #[.int .i64 r, .pointer (some ⟨nb, 0, none⟩), .pointer (some ⟨sb, 0, none⟩), .pointer (some ⟨tb, 0, none⟩), .pointer (some ⟨ob, 0, none⟩), .pointer (some ⟨cb, 0, none⟩)] w (CvPost w0 nb sb tb ob cb n fid caps (tryF (tlOf n t) noMarks k s r))
  | 0, _, _, _, _, _, h, _ => by omega
  | k + 1, s, r, w, hr, hso, hu, hh => by
    have ih := hid (comes_any w0 nb sb tb ob cb n fid caps t hn hent hT k)
    have HK := hid (tryF_keeps (tlOf_ok hn t) k)
    have HT0 := hid hT
    have HL0 : Hid (tryF (tlOf n t) noMarks (k + 1) s r = tryL (tryF (tlOf n t) noMarks k) noMarks r (restOf n t r 0) s) := hid (by rw [tryF, restOf_zero n t hr])
    have HSO := hid hso
    have HU := hid hu
    have HH := hid hh
    have hri : (r : Int) < 64 := by omega
    have hent2 : ∀ (args : Array Value) (w : World), Sem.run Try.prog (callFunc fid args) w = .ok (.enter fid args) w := hent
    clear hT hso hu hh hent
    go_enter Try.func50, Try.ntmps50
    go_wp2
    go_loopw [8] (fun i wr => ∃ (b : Nat) (s1 : St), b ≤ n ∧ i = .int .i64 b ∧ Hid (CvAt w0 wr nb sb tb ob cb n fid caps s1) ∧ Hid (StOk s1) ∧ Hid (unmet s1.met ≤ unmet s.met) ∧ Hid (tryF (tlOf n t) noMarks (k + 1) s r = tryL (tryF (tlOf n t) noMarks k) noMarks r (restOf n t r b) s1)) (fun i _ => n - (intOf i).toNat)
    case atStart => exact ⟨0, s, by omega, rfl, HH, HSO, hid (Nat.le_refl _), HL0⟩
    case round =>
      clear HH HSO HL0
      obtain ⟨b, s1, hb, rfl, HH, HSO, HU1, HT⟩ := hrel
      have cn := row_cell HH.out.nbox 0 _ rfl
      by_cases hlt : b < n
      · have hb64 : b < 64 := by omega
        have hbi : (b : Int) < (n : Int) := by omega
        have hb64i : (b : Int) < 64 := by omega
        have HD := hid (restOf_at (t := t) (r := r) hlt)
        have cm := HH.out.seen.cell (k := b) (by rw [HSO.out.met]; exact hb64)
        cases hm : getB s1.met b with
        | true =>
          rw [hm] at cm
          have HN : Hid (tryF (tlOf n t) noMarks (k + 1) s r = tryL (tryF (tlOf n t) noMarks k) noMarks r (restOf n t r (b + 1)) s1) := hid (by
            rw [HT.out, HD.out]
            split
            · rw [tryL.eq_2, if_pos (by rw [hm]; rfl)]
            · rfl)
          clear hm
          go_wp2
          go_roundw
          case rel => exact ⟨b + 1, s1, by omega, by go_num, HH, HSO, HU1, HN⟩
          case measure => simp [intOf]; omega
        | false =>
          rw [hm] at cm
          have ct := row_cell HH.out.tbox 0 _ rfl
          have CT := hid (fun w' hw' => HT0.out w' hw' r b hr hlt)
          cases htb : t r b with
          | false =>
            have HTB := hid htb
            have HN : Hid (tryF (tlOf n t) noMarks (k + 1) s r = tryL (tryF (tlOf n t) noMarks k) noMarks r (restOf n t r (b + 1)) s1) := hid (by rw [HT.out, HD.out, if_neg (by rw [htb]; simp)])
            clear hm htb
            go_wp2_with (refine (CT.out _ HH.out.below).mono ?_; rintro e w9 ⟨rfl, m9, rfl⟩; rw [HTB.out])
            go_roundw
            case rel => exact ⟨b + 1, s1, by omega, by go_num, hid (HH.out.drewN _), HSO, HU1, HN⟩
            case measure => simp [intOf]; omega
          | true =>
            have HTB := hid htb
            have HDT : Hid (restOf n t r b = b :: restOf n t r (b + 1)) := hid (by rw [HD.out, if_pos htb])
            have HMF := hid hm
            have HMN : Hid ((getB s1.met b || getB noMarks b) = false) := hid (by rw [hm, noMarks_at]; rfl)
            have fm := free_row HH.out.seen b
            clear hm htb
            go_upto_region 5 with (refine (CT.out _ HH.out.below).mono ?_; rintro e w9 ⟨rfl, m9, rfl⟩; rw [HTB.out])
            have HX := hid (HH.out.drewN m9)
            clear cm ct fm cn HH
            generalize wr.drewN m9 = wy at *
            have cm := HX.out.seen.cell (k := b) (by rw [HSO.out.met]; exact hb64)
            have fm := free_row HX.out.seen b
            have HQ := hid (HX.out.mark b)
            have HQS := hid (HSO.out.mark b)
            have HQU : Hid (unmet (s1.mark b).met + 1 = unmet s1.met) := hid (mark_unmet HSO.out hb64 HMF.out)
            go_upto_region 6 with fail
            generalize wy.setCell ⟨sb, b, none⟩ (.bool true) = wz at *
            clear cm fm HX
            by_cases hneg : getI s1.col b < 0
            · have HN : Hid (tryF (tlOf n t) noMarks (k + 1) s r = (true, (s1.mark b).pair r b)) := hid (by rw [HT.out, HDT.out, tryL.eq_2, if_neg (by rw [HMN.out]; simp), if_pos hneg])
              have cl := HQ.out.of.cellI (k := b) (by rw [HQS.out.col]; exact hb64)
              have hcl : getI (s1.mark b).col b = getI s1.col b := rfl
              rw [hcl] at cl
              clear hcl
              go_quiet (fail)
              have HW := hid (HQ.out.drewN nq)
              clear cl HQ
              generalize wz.drewN nq = wx at *
              have cl := HW.out.of.cellI (k := b) (by rw [HQS.out.col]; exact hb64)
              have fl := free_row HW.out.of b
              have HP := hid (HW.out.pair r b)
              go_wp2
              go_ret
              exact ⟨by rw [HN.out]; rfl, by rw [HN.out]; exact HP.out⟩
            · obtain ⟨q, hq, hq64⟩ := HSO.out.colAt hb64 hneg
              have hqi : ¬ ((q : Int) < 0) := by omega
              have HQV := hid hq
              obtain ⟨wq, hwq⟩ : ∃ wq, wq = wz.drew := ⟨_, rfl⟩
              have HQD := hid hwq
              have HX := hid (hwq ▸ HQ.out.kept (Below.refl _ _).drew)
              clear hwq HQ hneg
              have cl : wq.cell? ⟨ob, b, none⟩ = some (.int .i64 q) := HX.out.of.cellV (k := b) (by rw [HQS.out.col]; exact hb64) hq
              have cc := row_cell HX.out.cbox 0 _ rfl
              have hqd : decide ((q : Int) < 0) = false := by simp
              clear hq
              refine wp_region_tail 9 (by kernel_rfl) (by kernel_rfl) wq HQD.out ?_
              simp only [List.take_succ_cons, List.take_zero, List.drop_succ_cons, List.drop_zero]
              iterate 9 still_step
              refine wpStill_nil ?_
              obtain ⟨rb, s2, hbs⟩ : ∃ rb s2, tryF (tlOf n t) noMarks k (s1.mark b) q = (rb, s2) := ⟨_, _, rfl⟩
              have C := hid (ih.out (s1.mark b) q wq hq64 HQS.out (by have h1 := HQU.out; have h2 := HU.out; have h3 := HU1.out; omega) HX.out)
              rw [hbs] at C
              have hks := HK.out (s1.mark b) q hq64 HQS.out
              rw [hbs] at hks
              have HS2 : Hid (StOk s2) := hid hks.1
              have HU2 : Hid (unmet s2.met ≤ unmet s.met) := hid (by have h1 := hks.2; have h2 := HQU.out; have h3 := HU1.out; simp only at h1; omega)
              have HT2 : Hid (tryF (tlOf n t) noMarks (k + 1) s r = if rb = true then (true, s2.pair r b) else tryL (tryF (tlOf n t) noMarks k) noMarks r (restOf n t r (b + 1)) s2) := hid (by
                rw [HT.out, HDT.out, tryL.eq_2, if_neg (by rw [HMN.out]; simp), if_neg (by rw [HQV.out]; omega), HQV.out, Int.toNat_natCast, hbs])
              clear hbs hks
              cases rb with
              | true =>
                have HN : Hid (tryF (tlOf n t) noMarks (k + 1) s r = (true, s2.pair r b)) := hid (by rw [HT2.out, if_pos rfl])
                clear HT2
                go_wp2_with (go_at_call 50; refine C.out.mono ?_; rintro e w5 ⟨rfl, hh5⟩; have HX5 := hid hh5; clear hh5; have cl5 := HX5.out.of.cellI (k := b) (by rw [HS2.out.col]; exact hb64); have fl5 := free_row HX5.out.of b)
                go_ret
                exact ⟨by rw [HN.out]; rfl, by rw [HN.out]; exact HX5.out.pair r b⟩
              | false =>
                have HN : Hid (tryF (tlOf n t) noMarks (k + 1) s r = tryL (tryF (tlOf n t) noMarks k) noMarks r (restOf n t r (b + 1)) s2) := hid (by rw [HT2.out, if_neg (by simp)])
                clear HT2
                go_wp2_with (go_at_call 50; refine C.out.mono ?_; rintro e w5 ⟨rfl, hh5⟩; have HX5 := hid hh5; clear hh5)
                go_roundw
                case rel => exact ⟨b + 1, s2, by omega, by go_num, HX5, HS2, HU2, HN⟩
                case measure => simp [intOf]; omega
      · obtain rfl : n = b := by omega
        have hbi : ¬ ((n : Int) < (n : Int)) := by omega
        have HN : Hid (tryF (tlOf n t) noMarks (k + 1) s r = (false, s1)) := hid (by rw [HT.out, restOf_end]; rfl)
        clear hlt hb
        go_wp2
        go_ret
        exact ⟨by rw [HN.out]; rfl, by rw [HN.out]; exact HH.out⟩
end Go.Proofs.Ytmddhjoomlhbcaa
