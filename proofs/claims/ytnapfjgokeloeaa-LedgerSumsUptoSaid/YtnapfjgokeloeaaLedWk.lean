/- The laws' small functions, walked. -/
import Derived.Test.YtnapfjgokeloeaaLedPl
import Derived.Test.YtnapfjgokeloeaaBey
import Derived.BigQuiet
namespace Go.Proofs.Ytnapfjgokeloeaa
open Go.RowKit

theorem below_dn {B : Nat} {w0 w : World} (h : Below B w0 w) (n : Nat) : Below B w0 (w.drewN n) := ⟨h.os, h.tape, h.output, h.size, h.block⟩
theorem tmod4 (k : Int) : (if k.tmod 4 < 0 then k.tmod 4 + 4 else k.tmod 4) = k % 4 := by
  by_cases h : 0 ≤ k
  · rw [Int.tmod_eq_emod_of_nonneg h, if_neg (by omega)]
  · have h1 : k.tmod 4 = -((-k) % 4) := by
      have h2 : k = -(-k) := by omega
      rw [h2, Int.neg_tmod, Int.tmod_eq_emod_of_nonneg (by omega), Int.neg_neg]
    rw [h1]
    split <;> omega
set_option maxRecDepth 100000 in
set_option maxHeartbeats 1000000 in
theorem round_any (k : Int) (_ : I64 k) (w : World) : Calls Try.prog 27 #[.int .i64 k, .int .i64 4] w fun e w' => e = .returned (.int .i64 (k % 4)) ∧ w' = w := by
  have ht := hid (tmod4 k)
  have h1 := Int.tmod_lt_of_pos k (show (0 : Int) < 4 by omega)
  have h2 := Int.lt_tmod_of_pos k (show (0 : Int) < 4 by omega)
  obtain ⟨r, hr⟩ : ∃ r, r = k % 4 := ⟨_, rfl⟩
  rw [← hr] at ht ⊢
  clear hr
  by_cases hlt : k.tmod 4 < 0
  · have hr : Hid (k.tmod 4 + 4 = r) := hid (by rw [← ht.out, if_pos hlt])
    have hw := IntWalk.i64_in (k.tmod 4 + 4) (by omega)
    have hw2 := IntWalk.i64_in (k.tmod 4) (by omega)
    go_enter Try.func27, Try.ntmps27
    go_wp2
    go_ret
    exact ⟨by rw [← hr.out]; first | rfl | (congr 1), rfl⟩
  · have hr : Hid (k.tmod 4 = r) := hid (by rw [← ht.out, if_neg hlt])
    have hw2 := IntWalk.i64_in (k.tmod 4) (by omega)
    go_enter Try.func27, Try.ntmps27
    go_wp2
    go_ret
    exact ⟨by rw [← hr.out]; rfl, rfl⟩
theorem op_who {w : World} {g o : Nat} {x : LOp} (h : CellsAt w g o (opE x)) : w.cell? ⟨g, o, none⟩ = some (.int .i64 x.who) := h 0 _ (opE_get x).1
theorem op_kind {w : World} {g o : Nat} {x : LOp} (h : CellsAt w g o (opE x)) : w.cell? ⟨g, o + 1, none⟩ = some (.int .i64 x.kind) := h 1 _ (opE_get x).2.1
theorem op_ent {w : World} {g o : Nat} {x : LOp} (h : CellsAt w g o (opE x)) : CellsAt w g (o + 2) (enE x.e) := fun j v hj => by rw [Nat.add_assoc]; exact h (2 + j) v ((opE_get x).2.2.1 j v hj)
theorem op_list {w : World} {g o : Nat} {x : LOp} (h : CellsAt w g o (opE x)) : w.cell? ⟨g, o + 19, none⟩ = some (.slice x.A x.l.length x.cap) := h 19 _ (opE_get x).2.2.2
set_option maxRecDepth 100000 in
set_option maxHeartbeats 2000000 in
theorem heavy_any (S : List LOp) (A : Option Addr) (cap : Nat) (hl : S.length ≤ 9223372036854775807) (hin : ∀ o ∈ S, o.l.length ≤ 9223372036854775807) (w : World) (hr : RowsAt 20 opE w A S) :
    Calls Try.prog 8 #[.slice A S.length cap] w fun e w' => e = .returned (.bool (decide (1048576 < (hvy S : Int)))) ∧ Below w.heap.size w w' := by
  have HR := hid hr
  have HI := hid hin
  have hb0 := hvy_le S
  obtain ⟨q0, hq0⟩ : ∃ q, q = hvy S := ⟨_, rfl⟩
  rw [← hq0] at hb0 ⊢
  have HQ0 := hid hq0
  clear hr hin hq0
  go_enter Try.func8, Try.ntmps8
  go_wp2
  go_loop [3, 4] (fun s i => ∃ k : Nat, k ≤ S.length ∧ i = .int .i64 k ∧ s = .int .i64 (hvy (S.take k))) (fun _ i => S.length - (intOf i).toNat)
  case atStart => exact ⟨0, by omega, rfl, rfl⟩
  case round =>
    obtain ⟨k, hk, rfl, rfl⟩ := hrel
    by_cases hlt : k < S.length
    · obtain ⟨x, hx⟩ : ∃ x, S[k]? = some x := ⟨S[k], by simp [hlt]⟩
      obtain ⟨gg, o, rfl, hgg, hcc⟩ := HR.out.get hx
      have hci := op_list hcc
      have hxl := HI.out x (List.mem_of_getElem? hx)
      have hb := hvy_le (S.take k)
      have HS : Hid (hvy (S.take (k + 1)) = min (hvy (S.take k) + 1 + min x.l.length 2097152) 4194304) := hid (by
        obtain ⟨hk', e⟩ := List.getElem?_eq_some_iff.1 hx
        rw [List.take_succ_eq_append_getElem hk', hvy_snoc, e])
      rw [show o + 20 * k + 19 = o + k * 20 + 19 by omega] at hci
      clear hx hcc hgg
      generalize hvy (S.take k) = q at *
      have hki : (k : Int) < (S.length : Int) := by omega
      go_wp2
      all_goals
        refine ⟨⟨k + 1, by omega, by go_num, by rw [HS.out]; go_num⟩, ?_⟩
        simp [intOf]; omega
    · have hki : ¬ ((k : Int) < (S.length : Int)) := by omega
      have HK : Hid (S.take k = S) := hid (List.take_of_length_le (by omega))
      rw [HK.out, ← HQ0.out]
      go_wp2_with (go_at_call 19; (with_reducible refine (beyond_one _ ?_ _ _ (heap_alloc_new _ _)).mono ?_); omega; rintro e w2 ⟨rfl, hb2⟩; have HB2 := hid (((Below.refl _ w).alloc (Nat.le_refl _) _).trans (hb2.mono (by simp))); clear hb2)
      go_ret
      exact ⟨rfl, HB2.out⟩
theorem ahd_num : ∀ (l m : List Int), l.length = m.length → (∀ b ∈ l, 0 ≤ b ∧ b ≤ 255) → (∀ b ∈ m, 0 ≤ b ∧ b ≤ 255) → ahdF l m = decide (num l < num m)
  | [], [], _, _, _ => by simp [ahdF]
  | [], _ :: _, h, _, _ => by simp at h
  | _ :: _, [], h, _, _ => by simp at h
  | a :: l, b :: m, h, hl, hm => by
    have hlen : l.length = m.length := by simpa using h
    have ih := ahd_num l m hlen (fun x hx => hl x (List.mem_cons_of_mem _ hx)) (fun x hx => hm x (List.mem_cons_of_mem _ hx))
    have h1 := num_bd l (fun x hx => hl x (List.mem_cons_of_mem _ hx))
    have h2 := num_bd m (fun x hx => hm x (List.mem_cons_of_mem _ hx))
    unfold ahdF
    rw [num_cons, num_cons, hlen]
    rw [hlen] at h1
    generalize hp : (256 : Int) ^ m.length = p at *
    by_cases e : a = b
    · subst e
      rw [if_neg (by simp), ih, decide_eq_decide]
      omega
    · rw [if_pos e, decide_eq_decide]
      constructor
      · intro h3
        have : a * p + p ≤ b * p := by rw [show a * p + p = (a + 1) * p by rw [Int.add_mul, Int.one_mul]]; exact Int.mul_le_mul_of_nonneg_right (by omega) (by omega)
        omega
      · intro h3
        refine Classical.byContradiction fun h4 => ?_
        have : b * p + p ≤ a * p := by rw [show b * p + p = (b + 1) * p by rw [Int.add_mul, Int.one_mul]]; exact Int.mul_le_mul_of_nonneg_right (by omega) (by omega)
        omega
theorem ahd_drop (l m : List Int) (hlm : l.length = m.length) {k : Nat} (hk : k < l.length) (h : ahdF l m = ahdF (l.drop k) (m.drop k)) : ∃ a b, l[k]? = some a ∧ m[k]? = some b ∧ (a ≠ b → ahdF l m = decide (a < b)) ∧ (a = b → ahdF l m = ahdF (l.drop (k + 1)) (m.drop (k + 1))) := by
  refine ⟨l[k], m[k], by simp [hk], by simp [show k < m.length by omega], fun e => ?_, fun e => ?_⟩
  · rw [h, List.drop_eq_getElem_cons hk, List.drop_eq_getElem_cons (show k < m.length by omega)]
    unfold ahdF; rw [if_pos e]
  · rw [h, List.drop_eq_getElem_cons hk, List.drop_eq_getElem_cons (show k < m.length by omega)]
    conv => lhs; unfold ahdF
    rw [if_neg (by simpa using e)]
set_option maxRecDepth 100000 in
set_option maxHeartbeats 2000000 in
theorem ahead_any (x y : Id8) (w : World) : Calls Try.prog 15 #[.agg (bys x.1), .agg (bys y.1)] w fun e w' => e = .returned (.bool (ahdF x.1 y.1)) ∧ Below w.heap.size w w' := by
  have H1 := hid (heap2_old w (bys x.1) 33 (.cells (bys y.1) 33))
  have H2 := hid (heap2_new w (.cells (bys x.1) 33) (bys y.1) 33)
  have HB := hid ((((Below.refl _ w).alloc (Nat.le_refl _) (.cells (bys x.1) 33)).alloc (by simp) (.cells (bys y.1) 33)))
  obtain ⟨R, hR⟩ : ∃ R, R = ahdF x.1 y.1 := ⟨_, rfl⟩
  have HQ := hid hR
  rw [← hR]
  have hx8 := x.2
  have hy8 := y.2
  have HX8 := hid x.2
  have HY8 := hid y.2
  clear hR hx8 hy8
  go_enter Try.func15, Try.ntmps15
  go_wp2
  obtain ⟨wz, hwz⟩ : ∃ wz, wz = (w.alloc (.cells (bys x.1) 33)).alloc (.cells (bys y.1) 33) := ⟨_, rfl⟩
  rw [← hwz] at H1 H2 HB ⊢
  clear hwz
  go_loopw [5] (fun i wr => ∃ k : Nat, k ≤ 8 ∧ i = .int .i64 k ∧ Hid (Below wz.heap.size wz wr) ∧ Hid (R = ahdF (x.1.drop k) (y.1.drop k))) (fun i _ => 8 - (intOf i).toNat)
  case atStart => exact ⟨0, by omega, rfl, hid (Below.refl _ _), HQ⟩
  case round =>
    obtain ⟨k, hk, rfl, HBW, HK⟩ := hrel
    by_cases hlt : k < 8
    · obtain ⟨a, b, ha, hb, q1, q2⟩ := ahd_drop x.1 y.1 (by rw [HX8.out.1, HY8.out.1]) (k := k) (by rw [HX8.out.1]; exact hlt) (by rw [← HQ.out]; exact HK.out)
      rw [← HQ.out] at q1 q2
      have hc1 : wr.cell? ⟨w.heap.size, k, none⟩ = some (.int .u8 a) := (HBW.out.cell (p := ⟨w.heap.size, k, none⟩) (heap_lt H1.out)).trans (row_cell H1.out k _ (by simp [bys, ha]))
      have hc2 : wr.cell? ⟨w.heap.size + 1, k, none⟩ = some (.int .u8 b) := (HBW.out.cell (p := ⟨w.heap.size + 1, k, none⟩) (heap_lt H2.out)).trans (row_cell H2.out k _ (by simp [bys, hb]))
      by_cases e : a = b
      · have Q2 := hid (q2 e)
        clear q1 q2 ha hb
        subst e
        go_wp2_with fail
        go_quiet (fail)
        go_wp2
        refine ⟨⟨k + 1, by omega, by go_num, hid (below_dn HBW.out _), Q2⟩, by simp [intOf]; omega⟩
      · have Q1 := hid (q1 e)
        clear q1 q2 ha hb
        have hne : (a == b) = false := by simp [e]
        go_wp2_with fail
        go_quiet (fail)
        go_wp2_with fail
        go_quiet (fail)
        go_wp2
        go_ret
        exact ⟨by rw [Q1.out]; rfl, HB.out.trans ((below_dn (below_dn HBW.out _) _).mono HB.out.size)⟩
    · have HR : Hid (R = false) := hid (by rw [HK.out, List.drop_of_length_le (by rw [HX8.out.1]; omega)]; unfold ahdF; rfl)
      have hki : ¬ ((k : Int) < 8) := by omega
      go_wp2
      go_ret
      exact ⟨by rw [HR.out]; rfl, HB.out.trans (HBW.out.mono HB.out.size)⟩
set_option maxRecDepth 100000 in
set_option maxHeartbeats 2000000 in
theorem in_any (l : List Id8) (A : Option Addr) (cap : Nat) (x : Id8) (hl : l.length ≤ 4611686018427387904) (w : World) (hr : RowsAt 8 idE w A l) :
    Calls Try.prog 16 #[.slice A l.length cap, .agg (bys x.1)] w fun e w' => e = .returned (.bool (decide (x ∈ l))) ∧ Below w.heap.size w w' := by
  have HR := hid hr
  have HX := hid (idV_info x)
  have HE := hid (fun y : Id8 => eq_ids y.1 x.1 y.2 x.2)
  obtain ⟨R, hR⟩ : ∃ R, R = decide (x ∈ l) := ⟨_, rfl⟩
  have HQ := hid hR
  rw [← hR]
  clear hR hr
  go_enter Try.func16, Try.ntmps16
  go_wp2
  go_loopw [5] (fun i wr => ∃ k : Nat, k ≤ l.length ∧ i = .int .i64 k ∧ Hid (Below w.heap.size w wr) ∧ Hid (wr.heap[w.heap.size]? = some (.cells (bys x.1) 33 (0, 0))) ∧ Hid (x ∉ l.take k)) (fun i _ => l.length - (intOf i).toNat)
  case atStart => exact ⟨0, by omega, rfl, hid ((Below.refl _ _).alloc (Nat.le_refl _) _), hid (heap_alloc_new _ _), hid (by simp)⟩
  case round =>
    obtain ⟨k, hk, rfl, HB, HN, HM⟩ := hrel
    by_cases hlt : k < l.length
    · have hki : (k : Int) < (l.length : Int) := by omega
      obtain ⟨y, hy⟩ : ∃ y, l[k]? = some y := ⟨l[k], by simp [hlt]⟩
      obtain ⟨gg, o, rfl, hgg, hcc⟩ := (HR.out.kept HB.out).get hy
      have HC : Hid (CellsAt wr gg (o + k * 8) (bys y.1)) := hid (by rw [Nat.mul_comm]; exact hcc)
      have HG := hid hgg
      have HYI := hid (idV_info y)
      have heq := HE.out y
      have hS : x ∈ l.take (k + 1) ↔ x ∈ l.take k ∨ x = y := by
        obtain ⟨hk', e⟩ := List.getElem?_eq_some_iff.1 hy
        rw [List.take_succ_eq_append_getElem hk', e]; simp
      have HYM := List.mem_of_getElem? hy
      obtain ⟨β, hβ⟩ : ∃ β, β = decide (y.1 = x.1) := ⟨_, rfl⟩
      rw [← hβ] at heq
      have HBT := hid hβ
      clear hcc hgg hy hβ
      by_cases e : y = x
      · have hb : β = true := by rw [HBT.out, e]; simp
        have HQ2 : Hid (R = true) := hid (by rw [HQ.out]; exact decide_eq_true (e ▸ HYM))
        subst hb
        clear hS HYM e
        go_wp2_with fail
        refine wp_region_bw (by kernel_rfl) (by kernel_rfl) ?_
        iterate 3 (first | go_big_quiet_step (fail) | (go_big_quiet_want; go_simp; go_big_quiet_on))
        (go_big_quiet_want; refine quiet_load_cells 33 _ rfl _ _ rfl _ _ (HC.out) (HG.out) Try.underlying33 rfl (HYI.out) ?_; simp only [Act.put, List.setIfInBounds_toArray, List.set_cons_zero, List.set_cons_succ]; go_big_quiet_on)
        (go_big_quiet_want; refine quiet_load_row 33 _ rfl _ rfl _ _ _ _ (HN.out) Try.underlying33 rfl (HX.out) ?_; simp only [Act.put, List.setIfInBounds_toArray, List.set_cons_zero, List.set_cons_succ]; go_big_quiet_on)
        iterate 1 (first | go_big_quiet_step (fail) | (go_big_quiet_want; go_simp; go_big_quiet_on))
        refine wpQuiet_nil ?_; rintro w' ⟨X, rfl⟩
        go_wp2
        go_ret
        exact ⟨by rw [HQ2.out]; rfl, HB.out.trans (X.2.mono HB.out.size)⟩
      · have hb : β = false := by rw [HBT.out]; exact decide_eq_false fun h => e (Subtype.ext h)
        have HM2 : Hid (x ∉ l.take (k + 1)) := hid (fun h => (hS.1 h).elim HM.out fun h2 => e h2.symm)
        subst hb
        clear hS HYM
        go_wp2_with fail
        refine wp_region_bw (by kernel_rfl) (by kernel_rfl) ?_
        iterate 3 (first | go_big_quiet_step (fail) | (go_big_quiet_want; go_simp; go_big_quiet_on))
        (go_big_quiet_want; refine quiet_load_cells 33 _ rfl _ _ rfl _ _ (HC.out) (HG.out) Try.underlying33 rfl (HYI.out) ?_; simp only [Act.put, List.setIfInBounds_toArray, List.set_cons_zero, List.set_cons_succ]; go_big_quiet_on)
        (go_big_quiet_want; refine quiet_load_row 33 _ rfl _ rfl _ _ _ _ (HN.out) Try.underlying33 rfl (HX.out) ?_; simp only [Act.put, List.setIfInBounds_toArray, List.set_cons_zero, List.set_cons_succ]; go_big_quiet_on)
        iterate 1 (first | go_big_quiet_step (fail) | (go_big_quiet_want; go_simp; go_big_quiet_on))
        refine wpQuiet_nil ?_; rintro w' ⟨X, rfl⟩
        go_wp2
        refine ⟨⟨k + 1, by omega, by go_num, hid (HB.out.trans (X.2.mono HB.out.size)), hid (below_keep X.2 HN.out), HM2⟩, by simp [intOf]; omega⟩
    · have hki : ¬ ((k : Int) < (l.length : Int)) := by omega
      have HQ2 : Hid (R = false) := hid (by rw [HQ.out]; have := HM.out; rw [List.take_of_length_le (by omega)] at this; exact decide_eq_false this)
      go_wp2
      go_ret
      exact ⟨by rw [HQ2.out]; rfl, HB.out⟩
set_option maxRecDepth 100000 in
set_option maxHeartbeats 2000000 in
theorem limit_any (L : List En) (A : Option Addr) (cap : Nat) (x : Id8) (hl : L.length ≤ 4611686018427387904) (w : World) (hr : RowsAt 17 enE w A L) :
    Calls Try.prog 14 #[.slice A L.length cap, .agg (bys x.1)] w fun e w' => e = .returned (.int .i64 (limL L x)) ∧ Below w.heap.size w w' := by
  have HR := hid hr
  have HX := hid (idV_info x)
  have HE := hid (fun y : Id8 => eq_ids y.1 x.1 y.2 x.2)
  clear hr
  go_enter Try.func14, Try.ntmps14
  go_wp2
  go_loopw [5, 6] (fun n i wr => ∃ k : Nat, k ≤ L.length ∧ i = .int .i64 k ∧ n = .int .i64 (limL (L.take k) x) ∧ Hid (Below w.heap.size w wr) ∧ Hid (wr.heap[w.heap.size]? = some (.cells (bys x.1) 33 (0, 0)))) (fun _ i _ => L.length - (intOf i).toNat)
  case atStart => exact ⟨0, by omega, rfl, rfl, hid ((Below.refl _ _).alloc (Nat.le_refl _) _), hid (heap_alloc_new _ _)⟩
  case round =>
    obtain ⟨k, hk, rfl, rfl, HB, HN⟩ := hrel
    by_cases hlt : k < L.length
    · have hki : (k : Int) < (L.length : Int) := by omega
      obtain ⟨y, hy⟩ : ∃ y, L[k]? = some y := ⟨L[k], by simp [hlt]⟩
      obtain ⟨gg, o, rfl, hgg, hcc⟩ := (HR.out.kept HB.out).get hy
      rw [show o + 17 * k = o + k * 17 by omega] at hcc
      have HC : Hid (CellsAt wr gg (o + k * 17) (bys y.fr.1)) := hid (box_fr hcc)
      have hca := box_amt hcc
      have hcaf : ∀ X : Bw wr, X.1.cell? ⟨gg, o + k * 17 + 16, none⟩ = some (.int .i64 y.amt) := fun X => (X.cell gg _ hgg).trans hca
      have HG := hid hgg
      have HYI := hid (idV_info y.fr)
      have heq := HE.out y.fr
      have hS : limL (L.take (k + 1)) x = if y.fr = x then y.amt else limL (L.take k) x := by
        obtain ⟨hk', e⟩ := List.getElem?_eq_some_iff.1 hy
        rw [List.take_succ_eq_append_getElem hk', e, limL_snoc]
      obtain ⟨β, hβ⟩ : ∃ β, β = decide (y.fr.1 = x.1) := ⟨_, rfl⟩
      rw [← hβ] at heq
      have HBT := hid hβ
      have HCA := hid hcaf
      clear hcc hgg hy hβ hca hcaf
      obtain ⟨n0, hn0⟩ : ∃ n, n = limL (L.take k) x := ⟨_, rfl⟩
      rw [← hn0] at hS ⊢
      clear hn0
      by_cases e : y.fr = x
      · have hb : β = true := by rw [HBT.out, e]; simp
        have HS : Hid (limL (L.take (k + 1)) x = y.amt) := hid (by rw [hS, if_pos e])
        subst hb
        clear hS e
        go_wp2_with fail
        refine wp_region_bw (by kernel_rfl) (by kernel_rfl) ?_
        iterate 4 (first | go_big_quiet_step (fail) | (go_big_quiet_want; go_simp; go_big_quiet_on))
        (go_big_quiet_want; refine quiet_load_cells 33 _ rfl _ _ rfl _ _ (HC.out) (HG.out) Try.underlying33 rfl (HYI.out) ?_; simp only [Act.put, List.setIfInBounds_toArray, List.set_cons_zero, List.set_cons_succ]; go_big_quiet_on)
        (go_big_quiet_want; refine quiet_load_row 33 _ rfl _ rfl _ _ _ _ (HN.out) Try.underlying33 rfl (HX.out) ?_; simp only [Act.put, List.setIfInBounds_toArray, List.set_cons_zero, List.set_cons_succ]; go_big_quiet_on)
        iterate 1 (first | go_big_quiet_step (fail) | (go_big_quiet_want; go_simp; go_big_quiet_on))
        refine wpQuiet_nil ?_; rintro w' ⟨X, rfl⟩
        have hca2 := HCA.out X
        obtain ⟨w2, hw2⟩ : ∃ w2, w2 = X.1 := ⟨_, rfl⟩
        have HB2 := hid (show Below w.heap.size w w2 by rw [hw2]; exact HB.out.trans (X.2.mono HB.out.size))
        have HN2 := hid (show w2.heap[w.heap.size]? = some (.cells (bys x.1) 33 (0, 0)) by rw [hw2]; exact below_keep X.2 HN.out)
        rw [← hw2] at hca2 ⊢
        clear hw2
        go_wp2
        refine ⟨⟨k + 1, by omega, by go_num, by rw [HS.out], HB2, HN2⟩, by simp [intOf]; omega⟩
      · have hb : β = false := by rw [HBT.out]; exact decide_eq_false fun h => e (Subtype.ext h)
        have HS : Hid (limL (L.take (k + 1)) x = n0) := hid (by rw [hS, if_neg e])
        subst hb
        clear hS
        go_wp2_with fail
        refine wp_region_bw (by kernel_rfl) (by kernel_rfl) ?_
        iterate 4 (first | go_big_quiet_step (fail) | (go_big_quiet_want; go_simp; go_big_quiet_on))
        (go_big_quiet_want; refine quiet_load_cells 33 _ rfl _ _ rfl _ _ (HC.out) (HG.out) Try.underlying33 rfl (HYI.out) ?_; simp only [Act.put, List.setIfInBounds_toArray, List.set_cons_zero, List.set_cons_succ]; go_big_quiet_on)
        (go_big_quiet_want; refine quiet_load_row 33 _ rfl _ rfl _ _ _ _ (HN.out) Try.underlying33 rfl (HX.out) ?_; simp only [Act.put, List.setIfInBounds_toArray, List.set_cons_zero, List.set_cons_succ]; go_big_quiet_on)
        iterate 1 (first | go_big_quiet_step (fail) | (go_big_quiet_want; go_simp; go_big_quiet_on))
        refine wpQuiet_nil ?_; rintro w' ⟨X, rfl⟩
        go_wp2
        refine ⟨⟨k + 1, by omega, by go_num, by rw [HS.out], hid (HB.out.trans (X.2.mono HB.out.size)), hid (below_keep X.2 HN.out)⟩, by simp [intOf]; omega⟩
    · have hki : ¬ ((k : Int) < (L.length : Int)) := by omega
      have HK : Hid (L.take k = L) := hid (List.take_of_length_le (by omega))
      rw [HK.out]
      go_wp2
      go_ret
      exact ⟨rfl, HB.out⟩
end Go.Proofs.Ytnapfjgokeloeaa
