/- The walk of prices. -/
import Derived.Test.YtmddhjoomlhbcaaAsHv
import Derived.Deep.DeepCutAuto
import Derived.BigQuiet
namespace Go.Proofs.Ytmddhjoomlhbcaa
open Go.RowKit

/-- The tables of prices in memory. -/
structure PxAt (w0 w : World) (tp tb yb zb R C : Nat) (T tt y z : List Int) : Prop where
  tbl : TblAt w tp R C T
  tt : TabAt w tb 64 tt
  y : TabAt w yb 64 y
  z : TabAt w zb 64 z
  below : Below w0.heap.size w0 w
  ord : tp < w0.heap.size ∧ w0.heap.size ≤ tb ∧ tb < yb ∧ yb < zb
section
variable {w0 w w' : World} {tp tb yb zb R C : Nat} {T tt y z : List Int}
theorem PxAt.kept (h : PxAt w0 w tp tb yb zb R C T tt y z) (hb : Below w.heap.size w w') : PxAt w0 w' tp tb yb zb R C T tt y z :=
  ⟨h.tbl.kept hb, h.tt.kept hb, h.y.kept hb, h.z.kept hb, h.below.trans (hb.mono h.below.size), h.ord⟩
theorem PxAt.drewN (h : PxAt w0 w tp tb yb zb R C T tt y z) (n : Nat) : PxAt w0 (w.drewN n) tp tb yb zb R C T tt y z := h.kept ⟨rfl, rfl, rfl, Nat.le_refl _, fun _ _ => rfl⟩
theorem PxAt.setY (h : PxAt w0 w tp tb yb zb R C T tt y z) (k : Nat) (n : Int) : PxAt w0 (w.setCell ⟨yb, k, none⟩ (.int .i64 n)) tp tb yb zb R C T tt (y.set k n) z := by
  have := h.ord
  exact ⟨h.tbl.other (by omega) _ _, h.tt.other (by omega) _ _, h.y.set k n, h.z.other (by omega) _ _, h.below.setCell (by show w0.heap.size ≤ yb; omega) _, h.ord⟩
theorem PxAt.setZ (h : PxAt w0 w tp tb yb zb R C T tt y z) (k : Nat) (n : Int) : PxAt w0 (w.setCell ⟨zb, k, none⟩ (.int .i64 n)) tp tb yb zb R C T tt y (z.set k n) := by
  have := h.ord
  exact ⟨h.tbl.other (by omega) _ _, h.tt.other (by omega) _ _, h.y.other (by omega) _ _, h.z.set k n, h.below.setCell (by show w0.heap.size ≤ zb; omega) _, h.ord⟩
theorem PxAt.start {w : World} {tp R C : Nat} {T tt : List Int} (h : TblAt w tp R C T) : PxAt w (((w.alloc (.cells (ints tt) 64)).alloc (.cells (ints (List.replicate 64 0)) 64)).alloc (.cells (ints (List.replicate 64 0)) 64)) tp w.heap.size (w.heap.size + 1) (w.heap.size + 1 + 1) R C T tt (List.replicate 64 0) (List.replicate 64 0) := by
  have htp := heap_lt h.row
  have b1 : Below w.heap.size w (w.alloc (.cells (ints tt) 64)) := (Below.refl _ _).alloc (Nat.le_refl _) _
  have n1 : TabAt (w.alloc (.cells (ints tt) 64)) w.heap.size 64 tt := heap_alloc_new _ _
  have s1 : (w.alloc (.cells (ints tt) 64)).heap.size = w.heap.size + 1 := alloc_size _ _
  generalize w.alloc (.cells (ints tt) 64) = a at *
  have b2 : Below a.heap.size a (a.alloc (.cells (ints (List.replicate 64 0)) 64)) := (Below.refl _ _).alloc (Nat.le_refl _) _
  have n2 : TabAt (a.alloc (.cells (ints (List.replicate 64 0)) 64)) (w.heap.size + 1) 64 (List.replicate 64 0) := by rw [← s1]; exact heap_alloc_new _ _
  have s2 : (a.alloc (.cells (ints (List.replicate 64 0)) 64)).heap.size = w.heap.size + 1 + 1 := by rw [alloc_size, s1]
  generalize a.alloc (.cells (ints (List.replicate 64 0)) 64) = b at *
  have b3 : Below b.heap.size b (b.alloc (.cells (ints (List.replicate 64 0)) 64)) := (Below.refl _ _).alloc (Nat.le_refl _) _
  have n3 : TabAt (b.alloc (.cells (ints (List.replicate 64 0)) 64)) (w.heap.size + 1 + 1) 64 (List.replicate 64 0) := by rw [← s2]; exact heap_alloc_new _ _
  generalize b.alloc (.cells (ints (List.replicate 64 0)) 64) = c at *
  have k2 := b2.trans (b3.mono b2.size)
  have k1 := b1.trans (k2.mono b1.size)
  exact ⟨h.kept k1, n1.kept k2, n2.kept b3, n3, k1, ⟨htp, Nat.le_refl _, by omega, by omega⟩⟩
end
/-- How far the prices in memory may still rise. -/
def gapM (w : World) (g C : Nat) : Nat := match w.heap[g]? with
  | some (.cells cs _ _) => gapP C (cs.toList.map fun v => match v with | .int _ n => n | _ => 0)
  | _ => 0
theorem gapM_at {w : World} {g : Nat} {T : TypeId} {l : List Int} (h : TabAt w g T l) (C : Nat) : gapM w g C = gapP C l := by
  unfold gapM
  rw [h]
  clear h
  show gapP C (((l.map (Value.int .i64)).map fun v => match v with | .int _ n => n | _ => 0)) = _
  congr 1
  induction l with
  | nil => rfl
  | cons a l ih => simp_all
def meaP (m : Value) (w : World) (g C : Nat) : Nat := match m with | .bool true => gapM w g C + 1 | _ => 0

set_option maxRecDepth 100000 in
set_option maxHeartbeats 20000000 in
theorem prices_any (tp R C : Nat) (T tt : List Int) (hR : R ≤ 64) (hC : C ≤ 64) (hW : WOk (wOf T)) (htl : tt.length = 64) (htop : Top (wOf T) R C (getI tt)) (w : World) (ht : TblAt w tp R C T) :
    Calls Try.prog 40 #[.pointer (some ⟨tp, 0, none⟩), .agg (ints tt)] w fun e w' => ∃ y z, e = .returned (.tuple #[.agg (ints y), .agg (ints z)]) ∧ y.length = 64 ∧ z.length = 64 ∧ Ends (wOf T) R C (getI y) (getI z) ∧ (∀ c, c < 64 → 0 ≤ getI z c ∧ getI z c ≤ 150000000000000) ∧ (∀ r, r < 64 → 0 ≤ getI y r ∧ getI y r ≤ 1099513724929) ∧ Below w.heap.size w w' := by
  have HT := hid ht
  have HW := hid hW
  have HTL := hid htl
  have HTOP := hid htop
  have HRC := hid (And.intro hR hC)
  have HP0 := hid (PxAt.start (tt := tt) ht)
  clear ht hW htl htop
  go_enter Try.func40, Try.ntmps40
  go_upto_region 1 with fail
  refine at_world (fun w1 => PxAt w w1 tp w.heap.size (w.heap.size + 1) (w.heap.size + 1 + 1) R C T tt (List.replicate 64 0) (List.replicate 64 0)) _ rfl HP0.out ?_
  intro w1 hp1
  have HP := hid hp1
  clear hp1 HP0
  generalize w.heap.size + 1 + 1 = zb at *
  generalize w.heap.size + 1 = yb at *
  go_wp2
  go_loopw [6] (fun m wr => ∃ (M : Bool) (z : List Int), m = .bool M ∧ Hid (PxAt w wr tp w.heap.size yb zb R C T tt (List.replicate 64 0) z) ∧ Hid (PrI (wOf T) R C tt z) ∧ Hid (M = false → closedP (wOf T) C tt z R)) (fun m wr => meaP m wr zb C)
  case atStart => exact ⟨true, _, rfl, HP, hid (PrI.start hC), hid (fun h => by cases h)⟩
  case round =>
    clear HP
    obtain ⟨M, z, rfl, HP, HPI, HCL⟩ := hrel
    cases M with
    | true =>
      have HG : Hid (meaP (.bool true) wr zb C = gapP C z + 1) := hid (by show gapM wr zb C + 1 = _; rw [gapM_at HP.out.z])
      clear HCL
      go_wp2
      go_loopw [6, 7] (fun m r wr => ∃ (k : Nat) (M : Bool) (z' : List Int), k ≤ R ∧ r = .int .i64 k ∧ m = .bool M ∧ Hid (PxAt w wr tp w.heap.size yb zb R C T tt (List.replicate 64 0) z') ∧ Hid (PrI (wOf T) R C tt z') ∧ Hid (M = false → closedP (wOf T) C tt z' k) ∧ Hid (gapP C z' + M.toNat ≤ gapP C z)) (fun _ r _ => R - (intOf r).toNat)
      case atStart => exact ⟨0, false, z, by omega, rfl, rfl, HP, HPI, hid (fun _ x c hx => by omega), hid (Nat.le_refl _)⟩
      case round =>
        clear HP HPI
        obtain ⟨r, M, z', hr, rfl, rfl, HP, HPI, HCL, HGP⟩ := hrel
        have c1 := HP.out.tbl.rows
        by_cases hlt : r < R
        · have hri : (r : Int) < (R : Int) := by omega
          have hr64 : r < 64 := by omega
          have hr64i : (r : Int) < 64 := by omega
          have c2 := HP.out.tt.cellI (k := r) (by rw [HTL.out]; omega)
          go_upto_if 24 with fail
          go_cut [8] (fun own wx => own = .int .i64 (ownP (wOf T) tt z' r) ∧ Hid (PxAt w wx tp w.heap.size yb zb R C T tt (List.replicate 64 0) z'))
          case first =>
            by_cases hneg : getI tt r < 0
            · have HOWN : Hid (ownP (wOf T) tt z' r = 0) := hid (by unfold ownP; rw [if_pos hneg])
              go_wp2
              go_meet
              exact ⟨by rw [HOWN.out], HP⟩
            · obtain ⟨k, hk, _, hkC, _⟩ := HTOP.out.mat.at (Int.not_lt.1 hneg)
              have HOWN : Hid (ownP (wOf T) tt z' r = wOf T r k - getI z' k) := hid (by unfold ownP; rw [if_neg hneg, hk, Int.toNat_natCast])
              have b1 := HW.out.lo r k
              have b2 := HW.out.hi r k
              have b3 := HPI.out.small HTOP.out k (by omega)
              rw [hk] at c2
              have hki : (k : Int) < 64 := by omega
              have c3 := HP.out.tbl.at (r := r) (c := k) hr64 (by omega)
              have c4 := HP.out.z.cellI (k := k) (by rw [HPI.out.len]; omega)
              have hneg2 : decide ((0 : Int) ≤ getI tt r) = true := decide_eq_true (by omega)
              rw [hk] at hneg2
              clear hneg
              rw [hk]
              go_wp2
              go_quiet (fail)
              go_wp2
              go_meet
              exact ⟨by rw [HOWN.out], hid (HP.out.drewN _)⟩
          case rest =>
            obtain ⟨rfl, HPc⟩ := hcut
            obtain ⟨own, hown⟩ : ∃ own, own = ownP (wOf T) tt z' r := ⟨_, rfl⟩
            rw [← hown]
            have b5 := HPI.out.own0 HTOP.out hlt
            have b6 := own_hi HW.out HPI.out HTOP.out r hC
            rw [← hown] at b5 b6
            have HOWN := hid hown
            clear hown HP c1 c2
            go_wp2
            go_loopw [6, 9] (fun m c wr => ∃ (j : Nat) (M : Bool) (z2 : List Int), j ≤ C ∧ c = .int .i64 j ∧ m = .bool M ∧ Hid (PxAt w wr tp w.heap.size yb zb R C T tt (List.replicate 64 0) z2) ∧ Hid (PrI (wOf T) R C tt z2) ∧ Hid (ownP (wOf T) tt z2 r = own) ∧ Hid (M = false → closedP (wOf T) C tt z2 r ∧ closedC (wOf T) tt z2 r j) ∧ Hid (gapP C z2 + M.toNat ≤ gapP C z)) (fun _ c _ => C - (intOf c).toNat)
            case atStart => exact ⟨0, M, z', by omega, rfl, rfl, HPc, HPI, hid HOWN.out.symm, hid (fun h => ⟨HCL.out h, fun c hc => by omega⟩), HGP⟩
            case round =>
              clear HPc HPI HCL HGP HOWN
              obtain ⟨j, M, z2, hj, rfl, rfl, HP, HPI, HOWN, HCL, HGP⟩ := hrel
              have c1 := HP.out.tbl.cols
              by_cases hjC : j < C
              · have hji : (j : Int) < (C : Int) := by omega
                have hj64 : j < 64 := by omega
                have hj64i : (j : Int) < 64 := by omega
                have b1 := HW.out.lo r j
                have b2 := HW.out.hi r j
                have cT := HP.out.tbl.at (r := r) (c := j) hr64 hj64
                have cZ := HP.out.z.cellI (k := j) (by rw [HPI.out.len]; omega)
                have ct := HP.out.tt.cellI (k := r) (by rw [HTL.out]; omega)
                by_cases hx : getI z2 j < wOf T r j - own
                · have hx2 : decide (wOf T r j - own > getI z2 j) = true := decide_eq_true hx
                  by_cases hne : getI tt r = j
                  · have hn2 : ((j : Int) != getI tt r) = false := by rw [hne]; simp
                    have HC2 : Hid (M = false → closedP (wOf T) C tt z2 r ∧ closedC (wOf T) tt z2 r (j + 1)) := hid (fun h => ⟨(HCL.out h).1, fun c hc hcn => by
                      by_cases e : c = j
                      · subst e; exact absurd hne hcn
                      · exact (HCL.out h).2 c (by omega) hcn⟩)
                    rw [hne] at ct hn2
                    clear hne
                    go_wp2
                    go_roundw
                    case rel => exact ⟨j + 1, M, z2, by omega, by go_num, rfl, HP, HPI, HOWN, HC2, HGP⟩
                    case measure => simp [intOf]; omega
                  · have hn2 : ((j : Int) != getI tt r) = true := by simp; omega
                    have hput := HPI.out.put HTOP.out hC hlt hjC (by rw [HOWN.out]; exact hx)
                    rw [HOWN.out] at hput
                    have HPI2 := hid hput.1
                    have HOWN2 : Hid (ownP (wOf T) tt (z2.set j (wOf T r j - own)) r = own) := hid (by rw [ownP_set r hne]; exact HOWN.out)
                    have HGP2 : Hid (gapP C (z2.set j (wOf T r j - own)) + true.toNat ≤ gapP C z) := hid (by have := hput.2; have := HGP.out; simp; omega)
                    have fZ := free_row HP.out.z j
                    have HP2 := hid (HP.out.setZ j (wOf T r j - own))
                    clear hput hne
                    go_wp2
                    go_roundw
                    case rel => exact ⟨j + 1, true, _, by omega, by go_num, rfl, HP2, HPI2, HOWN2, hid (fun h => by cases h), HGP2⟩
                    case measure => simp [intOf]; omega
                · have hx2 : decide (wOf T r j - own > getI z2 j) = false := decide_eq_false hx
                  have HC2 : Hid (M = false → closedP (wOf T) C tt z2 r ∧ closedC (wOf T) tt z2 r (j + 1)) := hid (fun h => ⟨(HCL.out h).1, fun c hc hcn => by
                    by_cases e : c = j
                    · subst e; rw [HOWN.out]; omega
                    · exact (HCL.out h).2 c (by omega) hcn⟩)
                  go_wp2
                  go_roundw
                  case rel => exact ⟨j + 1, M, z2, by omega, by go_num, rfl, HP, HPI, HOWN, HC2, HGP⟩
                  case measure => simp [intOf]; omega
              · obtain rfl : C = j := by omega
                have hji : ¬ ((C : Int) < (C : Int)) := by omega
                have HC2 : Hid (M = false → closedP (wOf T) C tt z2 (r + 1)) := hid (fun h x c hx hc hcn => by
                  by_cases e : x = r
                  · subst e; exact (HCL.out h).2 c hc hcn
                  · exact (HCL.out h).1 x c (by omega) hc hcn)
                clear hj hjC
                go_wp2
                go_roundw
                case rel => exact ⟨r + 1, M, z2, by omega, by go_num, rfl, HP, HPI, HC2, HGP⟩
                case measure => simp [intOf]; omega
        · obtain rfl : R = r := by omega
          have hri : ¬ ((R : Int) < (R : Int)) := by omega
          have HM : Hid (meaP (.bool M) wr zb C < gapP C z + 1) := hid (by
            cases M with
            | true => show gapM wr zb C + 1 < _; rw [gapM_at HP.out.z]; have := HGP.out; simp at this; omega
            | false => exact Nat.succ_pos _)
          clear hr hlt
          go_wp2
          go_roundw
          case rel => exact ⟨M, z', rfl, HP, HPI, HCL⟩
          case measure => rw [HG.out]; exact HM.out
    | false =>
      have HCF := hid (HCL.out rfl)
      clear HCL
      go_wp2
      go_loopw [11] (fun r wr => ∃ (k : Nat) (y : List Int), k ≤ R ∧ r = .int .i64 k ∧ Hid (PxAt w wr tp w.heap.size yb zb R C T tt y z) ∧ Hid (y.length = 64) ∧ Hid (∀ x, x < k → getI y x = ownP (wOf T) tt z x) ∧ Hid (∀ x, k ≤ x → x < 64 → getI y x = 0)) (fun r _ => R - (intOf r).toNat)
      case atStart => exact ⟨0, _, by omega, rfl, HP, hid (by simp), hid (fun x h => by omega), hid (fun x _ hx => by unfold getI; rw [List.getElem?_replicate, if_pos hx]; rfl)⟩
      case round =>
        clear HP
        obtain ⟨r, y, hr, rfl, HP, HYL, HY1, HY2⟩ := hrel
        have c1 := HP.out.tbl.rows
        by_cases hlt : r < R
        · have hri : (r : Int) < (R : Int) := by omega
          have hr64 : r < 64 := by omega
          have hr64i : (r : Int) < 64 := by omega
          have c2 := HP.out.tt.cellI (k := r) (by rw [HTL.out]; omega)
          by_cases hneg : getI tt r < 0
          · have hown : ownP (wOf T) tt z r = 0 := by unfold ownP; rw [if_pos hneg]
            have H1 : Hid (∀ x, x < r + 1 → getI y x = ownP (wOf T) tt z x) := hid (fun x hx => by
              by_cases e : x = r
              · subst e; rw [hown]; exact HY2.out x (Nat.le_refl _) hr64
              · exact HY1.out x (by omega))
            have H2 : Hid (∀ x, r + 1 ≤ x → x < 64 → getI y x = 0) := hid (fun x h1 h2 => HY2.out x (by omega) h2)
            clear hown
            go_wp2
            go_roundw
            case rel => exact ⟨r + 1, y, by omega, by go_num, HP, HYL, H1, H2⟩
            case measure => simp [intOf]; omega
          · obtain ⟨k, hk, _, hkC, _⟩ := HTOP.out.mat.at (Int.not_lt.1 hneg)
            have hown : ownP (wOf T) tt z r = wOf T r k - getI z k := by unfold ownP; rw [if_neg hneg, hk, Int.toNat_natCast]
            have b1 := HW.out.lo r k
            have b2 := HW.out.hi r k
            have b3 := HPI.out.small HTOP.out k (by omega)
            rw [hk] at c2
            have hki : (k : Int) < 64 := by omega
            have hneg2 : decide ((0 : Int) ≤ getI tt r) = true := decide_eq_true (by omega)
            have HK := hid hk
            have hYS : ∀ x, getI (y.set r (wOf T r k - getI z k)) x = if x = r then wOf T r k - getI z k else getI y x := fun x => by
              rw [getI_set, HYL.out]
              by_cases e : x = r
              · rw [if_pos ⟨e.symm, by omega⟩, if_pos e]
              · rw [if_neg (fun h => e h.1.symm), if_neg e]
            have H1 : Hid (∀ x, x < r + 1 → getI (y.set r (wOf T r k - getI z k)) x = ownP (wOf T) tt z x) := hid (fun x hx => by
              rw [hYS]
              by_cases e : x = r
              · subst e; rw [if_pos rfl, hown]
              · rw [if_neg e]; exact HY1.out x (by omega))
            have H2 : Hid (∀ x, r + 1 ≤ x → x < 64 → getI (y.set r (wOf T r k - getI z k)) x = 0) := hid (fun x h1 h2 => by rw [hYS, if_neg (by omega)]; exact HY2.out x (by omega) h2)
            have HL2 : Hid ((y.set r (wOf T r k - getI z k)).length = 64) := hid (by simp [HYL.out])
            clear hown hneg hYS hk
            go_wp2
            obtain ⟨wq, hwq⟩ : ∃ wq, wq = wr.drew := ⟨_, rfl⟩
            have HQD := hid hwq
            have HPQ := hid (hwq ▸ HP.out.kept (Below.refl _ _).drew)
            clear hwq HP c1 c2
            have c2 := HPQ.out.tt.cellV (k := r) (by rw [HTL.out]; omega) HK.out
            have c3 := HPQ.out.tbl.at (r := r) (c := k) hr64 (by omega)
            have c4 := HPQ.out.z.cellI (k := k) (by rw [HPI.out.len]; omega)
            have c5 := HPQ.out.y.cellI (k := r) (by rw [HYL.out]; omega)
            have f5 := free_row HPQ.out.y r
            have HP2 := hid (HPQ.out.setY r (wOf T r k - getI z k))
            refine wp_region_tail 18 (by kernel_rfl) (by kernel_rfl) wq HQD.out ?_
            simp only [List.take_succ_cons, List.take_zero, List.drop_succ_cons, List.drop_zero]
            iterate 18 still_step
            refine wpStill_nil ?_
            go_wp2
            go_roundw
            case rel => exact ⟨r + 1, _, by omega, by go_num, HP2, HL2, H1, H2⟩
            case measure => simp [intOf]; omega
        · obtain rfl : R = r := by omega
          have hri : ¬ ((R : Int) < (R : Int)) := by omega
          have HE := hid ((HPI.out.ends HTOP.out hC HCF.out).congr (y' := getI y) (z' := getI z) (fun x hx => HY1.out x hx) (fun _ _ => rfl))
          clear hr hlt
          have HRY := hid HP.out.y
          have HRZ := hid HP.out.z
          have HIY : Hid ((Try.prog.info? 64).map (·.size) = some (ints y).size) := hid (by rw [ints_size, HYL.out]; exact info_64)
          have HIZ : Hid ((Try.prog.info? 64).map (·.size) = some (ints z).size) := hid (by rw [ints_size, HPI.out.len]; exact info_64)
          go_wp2
          clear c1
          refine wp_region_bw (by kernel_rfl) (by kernel_rfl) ?_
          (go_big_quiet_want; refine quiet_load_row 64 _ rfl _ rfl _ _ _ _ (HRY.out) Try.underlying64 rfl (HIY.out) ?_; simp only [Act.put, List.setIfInBounds_toArray, List.set_cons_zero, List.set_cons_succ]; go_big_quiet_on)
          (go_big_quiet_want; refine quiet_load_row 64 _ rfl _ rfl _ _ _ _ (HRZ.out) Try.underlying64 rfl (HIZ.out) ?_; simp only [Act.put, List.setIfInBounds_toArray, List.set_cons_zero, List.set_cons_succ]; go_big_quiet_on)
          (go_big_quiet_want; refine quiet_store_self 64 _ _ rfl _ rfl _ rfl _ HRY.out (ints_one _) HIY.out ?_; simp only [Act.put]; go_big_quiet_on)
          (go_big_quiet_want; refine quiet_store_self 64 _ _ rfl _ rfl _ rfl _ HRZ.out (ints_one _) HIZ.out ?_; simp only [Act.put]; go_big_quiet_on)
          refine wpQuiet_nil ?_; rintro w' ⟨X, rfl⟩
          have HPX := hid (HP.out.kept X.2)
          go_wp2
          refine bodyPost_ret (results_two rfl _ _ _ _ 64 64 _ _ _ _ _ rfl HPX.out.y rfl HPX.out.z Try.underlying64 rfl HIY.out HIZ.out) rfl ⟨y, z, rfl, HYL.out, HPI.out.len, HE.out, fun c hc => HPI.out.small HTOP.out c hc, fun x hx => ?_, HPX.out.below⟩
          by_cases e : x < R
          · rw [HY1.out x e]
            exact ⟨HPI.out.own0 HTOP.out e, own_hi HW.out HPI.out HTOP.out x hC⟩
          · rw [HY2.out x (by omega) hx]; omega
end Go.Proofs.Ytmddhjoomlhbcaa
