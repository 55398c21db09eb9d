/- CoverHangs: its walk. -/
import Derived.Test.YtjhomkdnhdhffaaAlvHangs
import Derived.Test.YtjhomkdnhdhffaaReachW
namespace Go.Proofs.Ytjhomkdnhdhffaa.PCoverHangs
open Go.RowKit Go.Proofs.Ytjhomkdnhdhffaa Go.Proofs.YtjhomkdnhdhffaaW.PrintWords Go.Proofs.YtjhomkdnhdhffaaW.PrintLast Go.Proofs.YtjhomkdnhdhffaaW.PrintMore

theorem wrap_up (j : Nat) (h : j < 4611686018427387904) : wrap64 ((j : Int) + 1) = ((j + 1 : Nat) : Int) := by unfold wrap64; omega
theorem wrap_down (j : Nat) (h : j < 4611686018427387904) : wrap64 (((j + 1 : Nat) : Int) - 1) = (j : Int) := by unfold wrap64; omega
theorem rd_at (l : List Int) (j : Nat) (h : j < l.length) : rd l (j : Int) = l[j] := by
  unfold rd
  rw [Int.toNat_natCast, List.getD_eq_getElem?_getD, List.getElem?_eq_getElem h]; rfl
theorem rising_tells (l : List Int) (b : Int) (hl : l.length ≤ 4611686018427387903) (h1 : ∀ x ∈ l, 0 ≤ x ∧ x < b) (h2 : l.Pairwise (· < ·)) : cabstandlaw19_rising.f (l.length + 1) l b = some true := by
  have key : ∀ (d k j : Nat), j + d = l.length → d < k → cabstandlaw19_rising.l0 k l b j = some true := by
    intro d
    induction d with
    | zero =>
      intro k j hj hk
      obtain ⟨k, rfl⟩ : ∃ m, k = m + 1 := ⟨k - 1, by omega⟩
      simp only [cabstandlaw19_rising.l0]
      rw [if_neg (by omega)]
    | succ d ih =>
      intro k j hj hk
      obtain ⟨k, rfl⟩ : ∃ m, k = m + 1 := ⟨k - 1, by omega⟩
      simp only [cabstandlaw19_rising.l0]
      have := h1 (l[j]'(by omega)) (List.getElem_mem _)
      rw [if_pos (by omega), if_pos (by omega), rd_at l j (by omega), if_neg (by omega), if_neg (by omega)]
      cases j with
      | zero =>
        rw [if_neg (by omega)]
        have h3 := ih k 1 (by omega) (by omega)
        rw [wrap_up 0 (by omega)]
        exact h3
      | succ m =>
        have h4 := List.pairwise_iff_getElem.1 h2 m (m + 1) (by omega) (by omega) (by omega)
        rw [if_pos (by omega), wrap_down m (by omega), if_pos (by omega), if_pos (by omega), rd_at l m (by omega), if_neg (by omega), wrap_up (m + 1) (by omega)]
        exact ih k (m + 1 + 1) (by omega) (by omega)
  have := key l.length (l.length + 1) 0 (by omega) (by omega)
  unfold cabstandlaw19_rising.f
  exact this
/-- A list of integers of the call's own: where it lies. -/
theorem ints_at {w : World} {a : Option Addr} {n : Nat} {l : List Int} (h : Kd.C (Kd.int .i64) w a n l) {k : Nat} {x : Int} (hk : l[k]? = some x) : ∃ g o, a = some ⟨g, o, none⟩ ∧ ∀ (j : Nat) y, l[j]? = some y → w.cell? ⟨g, o + j, none⟩ = some (.int .i64 y) := by
  obtain ⟨h1, h2, h3⟩ := h
  have hlt := (List.getElem?_eq_some_iff.1 hk).1
  obtain ⟨ad, rfl, hc⟩ := h3 (by omega)
  have key : ∀ (j : Nat) y, l[j]? = some y → w.cell? (ad.add j) = some (.int .i64 y) := by
    intro j y hj
    obtain ⟨c, hc1, hc2, hc3⟩ := hc j y hj
    obtain rfl : c = [Value.int .i64 y] := hc2
    have := hc3 0 _ rfl
    rwa [show j * (Kd.int .i64).sz + 0 = j by rw [show (Kd.int .i64).sz = 1 from rfl]; omega] at this
  obtain ⟨g, o, spot⟩ := ad
  have h0 := key 0 (l[0]'(by omega)) (List.getElem?_eq_getElem _)
  have hspot : spot = none := by simpa [Addr.add] using World.cell?_spot h0
  subst hspot
  exact ⟨g, o, rfl, fun j y hj => by have := key j y hj; rwa [add_at] at this⟩
/-- A list of lists of integers: where it lies, and where each of them. -/
theorem lists_at {w : World} {a : Option Addr} {n : Nat} {L : List (List Int)} (h : Kd.C kL w a n L) {k : Nat} {x : List Int} (hk : L[k]? = some x) : ∃ g o, a = some ⟨g, o, none⟩ ∧ ∀ (j : Nat) y, L[j]? = some y → ∃ A0 c0, w.cell? ⟨g, o + j, none⟩ = some (.slice A0 y.length c0) ∧ y.length ≤ c0 ∧ Kd.C (Kd.int .i64) w A0 y.length y := by
  obtain ⟨h1, h2, h3⟩ := h
  have hlt := (List.getElem?_eq_some_iff.1 hk).1
  obtain ⟨ad, rfl, hc⟩ := h3 (by omega)
  have key : ∀ (j : Nat) y, L[j]? = some y → ∃ A0 c0, w.cell? (ad.add j) = some (.slice A0 y.length c0) ∧ y.length ≤ c0 ∧ Kd.C (Kd.int .i64) w A0 y.length y := by
    intro j y hj
    obtain ⟨c, hc1, hc2, hc3⟩ := hc j y hj
    obtain ⟨A0, c0, rfl, l0, g0⟩ := hc2
    have := hc3 0 _ rfl
    exact ⟨A0, c0, by rwa [show j * kL.sz + 0 = j by rw [show kL.sz = 1 from rfl]; omega] at this, l0, g0⟩
  obtain ⟨g, o, spot⟩ := ad
  obtain ⟨_, _, h0, _⟩ := key 0 (L[0]'(by omega)) (List.getElem?_eq_getElem _)
  have hspot : spot = none := by simpa [Addr.add] using World.cell?_spot h0
  subst hspot
  exact ⟨g, o, rfl, fun j y hj => by have := key j y hj; rwa [add_at] at this⟩
theorem made_ints (n : Nat) : madeCells (Value.int .i64 0).cells n = ints (List.replicate n 0) := by
  apply Array.ext
  · simp [size_madeCells, ints]
  · intro i h1 h2
    simp only [madeCells, Array.getElem_map, Array.getElem_range, ints, List.getElem_toArray, List.getElem_map, List.getElem_replicate]
    show #[Value.int .i64 0][i % 1]! = _
    rw [Nat.mod_one]; rfl
theorem make_ints (w : World) (R : Nat) (hR : R ≤ 64) : (Instr.makeSlice 34 (.int .i64 (R : Int)) (.int .i64 (R : Int))).run Try.prog w = .ok (.slice (some ⟨w.heap.size, 0, none⟩) R R) (w.alloc (.cells (ints (List.replicate R 0)) 3)) := by
  obtain ⟨i, hi, hz0, hz1, hz2⟩ := info_parts info_int
  have h := run_make (P := Try.prog) w 34 3 i _ Try.underlying34 hi hz0 .i64 .i64 (R : Int) (R : Int) (by omega) (by omega) (by rw [hz2]; omega) (by omega)
  rw [h, hz1, Int.toNat_natCast, Nat.mul_one, made_ints]
theorem twin_ok {g : Gr} {cap : Nat} (h : GrOk g cap) (hl : g.es.length ≤ 1048576) : GrOk g (g.es.length + 1) := ⟨h.rows, h.cols, h.es, by omega, by omega⟩
theorem below_dn (w : World) (m : Nat) : Below w.heap.size w (w.drewN m) := ⟨rfl, rfl, rfl, Nat.le_refl _, fun _ _ => rfl⟩
/-- The load of one cell in a quiet walk. -/
theorem quiet_load_cell {P : Program} {o : Oper} {a : Act} {W : World} {K : Act → Prop} (ty : TypeId) (x : Operand) (ho : o.op = .load ty x)
    (g off : Nat) (hx : a.eval x = .pointer (some ⟨g, off, none⟩)) (v : Value) (hc : W.cell? ⟨g, off, none⟩ = some v)
    (hs : ∀ w : World, w.cell? ⟨g, off, none⟩ = some v → (loadVar ty ⟨g, off, none⟩).run P w = .ok v w)
    (h : K (a.put o.dst v)) : o.quiet P a (fun w' => ∃ X : Bw W, w' = X.1) K := by
  refine ⟨v, ?_, h⟩
  rintro w ⟨X, rfl⟩
  have hlt : g < W.heap.size := by
    by_cases e : g < W.heap.size
    · exact e
    · simp [World.cell?, Array.getElem?_eq_none (Nat.le_of_not_lt e)] at hc
  have := hs X.1 ((Bw.cell X _ _ hlt).trans hc)
  unfold Oper.quietAt execOp
  simp only [ho, hx, Instr.loadAt, Instr.sureAddr, Sem.run_bind, Sem.run_pure, Result.andThen_ok, this]
  exact ⟨rfl, rfl⟩
/-- A table of the law's own, made after the parts. -/
structure HgA (wp wr : World) (pb : Nat) (T : List Int) : Prop where
  tab : TabAt wr pb 3 T
  below : Below wp.heap.size wp wr
  new : wp.heap.size ≤ pb
theorem HgA.set {wp wr : World} {pb : Nat} {T : List Int} (h : HgA wp wr pb T) (k : Nat) (n : Int) : HgA wp (wr.setCell ⟨pb, k, none⟩ (.int .i64 n)) pb (T.set k n) :=
  ⟨h.tab.set k n, h.below.setCell h.new _, h.new⟩
theorem HgA.next {wp wr w2 : World} {pb : Nat} {T : List Int} (h : HgA wp wr pb T) (hb : Below wr.heap.size wr w2) : HgA wp w2 pb T :=
  ⟨h.tab.kept hb, h.below.trans (hb.mono h.below.size), h.new⟩
theorem tabP_zero (g : Gr) : tabP g (doneB g 0 []) = List.replicate g.rows.toNat 0 := by
  apply List.ext_getElem?
  intro i
  by_cases hi : i < g.rows.toNat
  · rw [tabP_get g _ hi, done_start]; simp [hi]
  · rw [List.getElem?_eq_none (by rw [tabP_len]; omega), List.getElem?_eq_none (by simp; omega)]
theorem tabO_zero (g : Gr) : tabO g [] = List.replicate g.cols.toNat 0 := by
  apply List.ext_getElem?
  intro i
  by_cases hi : i < g.cols.toNat
  · rw [tabO_get g _ hi]; simp [hi, ofVal]
  · rw [List.getElem?_eq_none (by rw [tabO_len]; omega), List.getElem?_eq_none (by simp; omega)]
theorem cntP_zero (g : Gr) : cntP g (doneB g 0 []) = 0 := by
  unfold cntP
  rw [List.filter_eq_nil_iff.2 (fun r _ => by rw [done_start]; simp)]; rfl
theorem cntP_le (g : Gr) (D : Nat → Bool) : cntP g D ≤ g.rows.toNat := by
  unfold cntP
  exact Nat.le_trans (List.length_filter_le _ _) (by simp)
theorem part_rising {g : Gr} {i : Nat} {l : List Nat} (h : (parts g)[i]? = some l) (h64 : g.rows.toNat ≤ 64) (_ : 0 ≤ g.rows) : cabstandlaw19_rising.f ((nats l).length + 1) (nats l) g.rows = some true := by
  have hl := part_le h
  refine rising_tells _ _ (by rw [nats_len]; omega) (fun x hx => ?_) ?_
  · unfold nats at hx
    obtain ⟨y, hy, rfl⟩ := List.mem_map.1 hx
    have := ((mem_part h y).1 hy).1
    exact ⟨Int.natCast_nonneg y, by show ((y : Nat) : Int) < _; omega⟩
  · unfold nats
    rw [List.pairwise_map]
    exact List.Pairwise.imp (fun h => Int.ofNat_lt.2 h) (part_rise h)

theorem rising_quiet (l : List Int) (A : Option Addr) (c : Nat) (b : Int) (h : cabstandlaw19_rising.f (l.length + 1) l b = some true) (n : Nat) (hn : l.length = n) (w : World) (hC : Kd.C (Kd.int .i64) w A l.length l) (hc : l.length ≤ c) (a : Nat) :
    Calls Try.prog 15 #[.slice A n c, .int .i64 b] (w.drewN a) fun e w' => e = .returned (.bool true) ∧ ∃ m, w' = w.drewN m := by
  subst hn
  exact Calls.quiet_of ((cabstandlaw19_rising.calls _ A c l b true (w.drewN a) (Kd.C_below hC (below_dn _ _)) hc h).mono fun _ _ ⟨h1, h2⟩ => ⟨h1, h2.out⟩)

set_option maxRecDepth 100000 in
set_option maxHeartbeats 20000000 in
theorem hangs_any (g : Gr) (a : Option Addr) (cap : Nat) (hok : GrOk g cap) (w : World) (hr : RowsAt 3 edV w a g.es) :
    Calls Try.prog 6 #[grV g a cap] w fun e w' => e = .returned (.bool true) ∧ Below w.heap.size w w' := by
  have HOK := hid hok
  have HR := hid hr
  have HLN : Hid (g.es.length ≤ 9223372036854775807) := hid (by have := hok.len; have := hok.cap; omega)
  clear hok hr
  unfold grV at *
  go_enter Try.func6, Try.ntmps6
  go_wp2_with fail
  refine (alive_any _).mono ?_
  rintro e w1 ⟨rfl, hb1⟩
  have HG := hid (below_keep hb1 (heap_alloc_new _ _))
  have HB : Hid (Below w.heap.size w w1) := hid (((Below.refl _ _).alloc (Nat.le_refl _) _).trans (hb1.mono (by simp)))
  clear hb1
  have cg := row_cell HG.out 2 _ rfl
  go_wp2_with fail
  clear cg
  have HN := C_new_ints w1 [(g.es.length : Int)] (by simp)
  have hbn : Below w1.heap.size w1 (w1.alloc (.cells (intV [(g.es.length : Int)]).toArray 3)) := (Below.refl _ _).alloc (Nat.le_refl _) _
  refine (cabstandlaw01_Beyond.calls 2 (some ⟨w1.heap.size, 0, none⟩) 1 [(g.es.length : Int)] _ _ HN (Nat.le_refl _) (beyond_one _ (by omega) (by have := HLN.out; omega))).mono ?_
  rintro e w2 ⟨rfl, hd2⟩
  have hb2 := hbn.trans (hd2.below.mono hbn.size)
  have HG := hid (below_keep hb2 HG.out)
  have HB := hid (HB.out.trans (hb2.mono HB.out.size))
  clear HN hbn hd2 hb2
  by_cases hbey : (g.es.length : Int) > 1048576
  · rw [decide_eq_true hbey]
    have HX := hid hbey
    clear hbey
    go_wp2_with fail
    refine (alive_any _).mono ?_
    rintro e w3 ⟨rfl, hb3⟩
    have HB := hid (HB.out.trans (hb3.mono HB.out.size))
    clear hb3
    go_wp2
    go_ret
    exact ⟨rfl, HB.out⟩
  · rw [decide_eq_false hbey]
    have hlen : g.es.length ≤ 1048576 := by omega
    clear hbey
    go_wp2_with (refine wpList_load_w rfl 24 _ rfl _ rfl _ _ _ _ (HG.out) Try.underlying24 rfl (info_gr) ?_)
    refine (twinGraph_any g a cap hlen _ (HR.out.kept HB.out)).mono ?_
    rintro e w3 ⟨gt, rfl, hgt, het, hb3⟩
    have HG3 := hid (alloc_keep (below_keep hb3 HG.out) (.cells #[.int .i64 g.rows, .int .i64 g.cols, .slice (some ⟨gt, 0, none⟩) g.es.length (g.es.length + 1)] 24))
    have HT3 := hid (heap_alloc_new w3 (.cells #[.int .i64 g.rows, .int .i64 g.cols, .slice (some ⟨gt, 0, none⟩) g.es.length (g.es.length + 1)] 24))
    have HET3 : Hid (EdsAt (w3.alloc (.cells #[.int .i64 g.rows, .int .i64 g.cols, .slice (some ⟨gt, 0, none⟩) g.es.length (g.es.length + 1)] 24)) gt (g.es ++ [markEd])) := hid (alloc_keep het _)
    have hb3' := HB.out.trans (hb3.mono HB.out.size)
    have HB3 := hid (hb3'.alloc hb3'.size (.cells #[.int .i64 g.rows, .int .i64 g.cols, .slice (some ⟨gt, 0, none⟩) g.es.length (g.es.length + 1)] 24))
    clear hgt het hb3 hb3' HG HB
    unfold grV
    go_upto_region 4 with (refine wpList_store_row rfl 24 _ _ rfl _ rfl _ rfl _ _ (heap_alloc_new _ _) rfl (gr_one _ _ _ _ _) info_gr _ (setRow_alloc _ _ _ _) ?_)
    generalize w3.alloc (.cells #[.int .i64 g.rows, .int .i64 g.cols, .slice (some ⟨gt, 0, none⟩) g.es.length (g.es.length + 1)] 24) = w4 at *
    generalize w3.heap.size = bt at *
    have RT : ∀ w2 : World, EdsAt w2 gt (g.es ++ [markEd]) → RowsAt 3 edV w2 (some ⟨gt, 0, none⟩) g.es := fun w2 h => h.rows ⟨_, rfl⟩
    have okT := twin_ok HOK.out hlen
    have CKT := hid (fun w2 h => check_any g _ _ okT w2 (RT w2 h))
    have CPT := hid (fun w2 h => parts_any g _ _ okT w2 (RT w2 h))
    clear RT okT
    unfold grV at *
    go_wp2_with (refine wpList_load_w rfl 24 _ rfl _ rfl _ _ _ _ (HT3.out) Try.underlying24 rfl (info_gr) ?_)
    refine (CPT.out _ HET3.out).mono ?_
    rintro e w6 ⟨v6, vs6, rfl, ho6, hb6⟩
    have HG6 := hid (below_keep hb6 HG3.out)
    have HT6 := hid (below_keep hb6 HT3.out)
    have HET6 : Hid (EdsAt w6 gt (g.es ++ [markEd])) := hid (below_keep hb6 HET3.out)
    have HB6 := hid (HB3.out.trans (hb6.mono HB3.out.size))
    clear hb6 HG3 HT3 HET3 HB3 CPT
    by_cases k1 : chk g = true
    · have HV1 : Hid (chkV g = 0) := hid (by unfold chkV; rw [if_pos k1])
      rw [HV1.out]
      rw [if_pos k1] at ho6
      have hsz := chk_size k1
      have K1 := hid k1
      clear k1
      obtain ⟨L, hL⟩ : ∃ L, L = (parts g).map nats := ⟨_, rfl⟩
      obtain ⟨A, d, rfl, hl, hC⟩ := C_lists' ho6 hL
      have HL := hid hL
      have HC6 := hid hC
      clear hL ho6 hC CKT HT6 HET6
      obtain ⟨R, hR⟩ := Int.eq_ofNat_of_zero_le hsz.1
      obtain ⟨C, hC⟩ := Int.eq_ofNat_of_zero_le hsz.2.2.1
      have hRt : g.rows.toNat = R := by omega
      have hCt : g.cols.toNat = C := by omega
      have HRI := hid (show R ≤ 64 ∧ C ≤ 64 by omega)
      have HRR := hid hR
      have HCC := hid hC
      have HRT := hid hRt
      have HCT := hid hCt
      have hmr : ∀ w1 : World, (Instr.makeSlice 34 (.int .i64 (R : Int)) (.int .i64 (R : Int))).run Try.prog w1 = .ok (.slice (some ⟨w1.heap.size, 0, none⟩) R R) (w1.alloc (.cells (ints (List.replicate R 0)) 3)) := fun w1 => make_ints w1 R (by omega)
      have hmc : ∀ w1 : World, (Instr.makeSlice 34 (.int .i64 (C : Int)) (.int .i64 (C : Int))).run Try.prog w1 = .ok (.slice (some ⟨w1.heap.size, 0, none⟩) C C) (w1.alloc (.cells (ints (List.replicate C 0)) 3)) := fun w1 => make_ints w1 C (by omega)
      clear hRt hCt hsz
      rw [hR, hC] at HG6
      rw [hR, hC]
      have HA7 : Hid (HgA w6 (w6.alloc (.cells (ints (List.replicate R 0)) 3)) w6.heap.size (tabP g (doneB g 0 []))) := hid ⟨by rw [tabP_zero, HRT.out]; exact heap_alloc_new _ _, (Below.refl _ _).alloc (Nat.le_refl _) _, Nat.le_refl _⟩
      have cg0 := row_cell HG6.out 0 _ rfl
      clear hR hC
      go_wp2
      clear cg0 hmr
      go_loopw [7, 8, 9] (fun n i _ wr => ∃ k : Nat, k ≤ L.length ∧ i = .int .i64 k ∧ n = .int .i64 (cntP g (doneB g k [])) ∧ Hid (HgA w6 wr w6.heap.size (tabP g (doneB g k [])))) (fun _ i _ _ => L.length - (intOf i).toNat)
      case atStart => exact ⟨0, by omega, rfl, by rw [cntP_zero]; rfl, HA7⟩
      case round =>
        clear HA7
        obtain ⟨k, hk, rfl, rfl, HA⟩ := hrel
        by_cases hlt : k < L.length
        · obtain ⟨pl, hpl⟩ : ∃ l, (parts g)[k]? = some l := ⟨(parts g)[k]'(by have := hlt; rw [HL.out, List.length_map] at this; exact this), List.getElem?_eq_getElem _⟩
          have HPL := hid hpl
          have hLk : L[k]? = some (nats pl) := by rw [HL.out, List.getElem?_map, hpl]; rfl
          have HLK := hid hLk
          obtain ⟨hd, hroot, hhd⟩ := part_head hpl
          obtain ⟨gp, op, rfl, hat⟩ := lists_at (Kd.C_below HC6.out HA.out.below) hLk
          obtain ⟨A0, c0, cL, hlc, hCl⟩ := hat k _ hLk
          have HCL := hid hCl
          obtain ⟨q, hq⟩ : ∃ q, (nats pl).length = q + 1 := ⟨(nats pl).length - 1, by have := (List.getElem?_eq_some_iff.1 hhd).1; rw [nats_len]; omega⟩
          have hhn : (nats pl)[0]? = some (hd : Int) := by unfold nats; rw [List.getElem?_map, hhd]; rfl
          obtain ⟨gq, oq, rfl, hatq⟩ := ints_at hCl hhn
          have ch := hatq 0 _ hhn
          rw [Nat.add_zero] at ch
          have HRS := hid (part_rising hpl (by rw [HRT.out]; exact HRI.out.1) (by rw [HRR.out]; omega))
          rw [HRR.out] at HRS
          have HLC := hid hlc
          have HQ := hid hq
          rw [hq] at cL
          have cg0 := row_cell (below_keep HA.out.below HG6.out) 0 _ rfl
          have hq0 : ((q : Int) + 1 == 0) = false := by simp; omega
          have hki : (k : Int) < (L.length : Int) := by omega
          have CR := hid (fun n => rising_quiet (nats pl) _ c0 (R : Int) HRS.out (q + 1) HQ.out wr HCL.out HLC.out n)
          by_cases hk0 : k = 0
          · have hkg : decide ((k : Int) > 0) = false := decide_eq_false (by omega)
            have hkg2 : decide (0 < k) = false := decide_eq_false (by omega)
            clear hk0 hhn hhd hroot hpl hLk hat hCl hlc hatq hq
            go_wp2
            go_quiet ((go_at_call 15; exact CR.out _))
            -- L3
            go_wp2
            clear ch cL cg0 hki CR hq0 HCL HRS HLC hkg hkg2
            go_loopw [7, 9] (fun n j wr => ∃ jj : Nat, jj ≤ q + 1 ∧ j = .int .i64 jj ∧ n = .int .i64 (cntP g (doneB g k (pl.take jj))) ∧ Hid (HgA w6 wr w6.heap.size (tabP g (doneB g k (pl.take jj))))) (fun _ j _ => q + 1 - (intOf j).toNat)
            case atStart => exact ⟨0, by omega, rfl, by rw [List.take_zero], hid (by rw [List.take_zero]; exact HA.out.next (below_dn _ _))⟩
            case round =>
              clear HA
              obtain ⟨j, hj, rfl, rfl, HA⟩ := hrel
              obtain ⟨gp9, op9, hA9, hat⟩ := lists_at (Kd.C_below HC6.out HA.out.below) HLK.out
              cases hA9
              obtain ⟨A0, c0, cL, hlc, hCl⟩ := hat k _ HLK.out
              rw [HQ.out] at cL
              have hki : (k : Int) < (L.length : Int) := by omega
              by_cases hlt2 : j < q + 1
              · obtain ⟨e, he⟩ : ∃ e, pl[j]? = some e := ⟨pl[j]'(by have := HQ.out; rw [nats_len] at this; omega), List.getElem?_eq_getElem _⟩
                have hen : (nats pl)[j]? = some (e : Int) := by unfold nats; rw [List.getElem?_map, he]; rfl
                obtain ⟨gq, oq, rfl, hatq⟩ := ints_at hCl hen
                have ce := hatq j _ hen
                have hmem := (mem_part HPL.out e).1 (List.mem_of_getElem? he)
                have hfr := done_fresh HPL.out he
                have ct : wr.cell? ⟨w6.heap.size, e, none⟩ = some (.int .i64 0) := by
                  have h := HA.out.tab.cell (tabP_get g (doneB g k (pl.take j)) hmem.1)
                  rw [hfr] at h; exact h
                have HT2 : Hid ((tabP g (doneB g k (pl.take j))).set e ((k : Int) + 1) = tabP g (doneB g k (pl.take (j + 1)))) := hid (by
                  have h := tabP_set g (doneB g k (pl.take j)) hmem.1
                  rw [hmem.2] at h
                  rw [h]
                  exact tabP_congr (fun r _ => (done_step HPL.out he r).symm))
                have HN2 : Hid (cntP g (doneB g k (pl.take (j + 1))) = cntP g (doneB g k (pl.take j)) + 1) := hid (by
                  rw [← cntP_set g (doneB g k (pl.take j)) hmem.1 hfr]
                  exact cntP_congr (fun r _ => done_step HPL.out he r))
                have hne9 : (cntP g (doneB g k (pl.take j)) : Int) + 1 ≤ 9223372036854775807 := by have := cntP_le g (doneB g k (pl.take j)); have := HRT.out; have := HRI.out; omega
                have heR : (e : Int) < (R : Int) := by have := hmem.1; have := HRT.out; omega
                have hk9 : (k : Int) + 1 ≤ 65 := by have := hlt; have h2 := HL.out; have h3 := parts_le g; have := congrArg List.length h2; rw [List.length_map] at this; have := HRT.out; have := HRI.out; omega
                have hj9 : (j : Int) < (q : Int) + 1 := by omega
                have hjq : (j : Int) + 1 ≤ 9223372036854775807 := by have h3 := part_le HPL.out; have := HQ.out; rw [nats_len] at this; have := HRT.out; have := HRI.out; omega
                clear hen he hatq hfr hmem hCl hat hlc hlt2
                go_upto_region 17 with fail
                obtain ⟨wq, hwq⟩ : ∃ wq, wq = wr.drew := ⟨_, rfl⟩
                have HQD := hid hwq
                have HA9 : Hid (HgA w6 wq w6.heap.size (tabP g (doneB g k (pl.take j)))) := hid (by rw [hwq]; exact HA.out.next (Below.refl _ _).drew)
                have cL9 : wq.cell? ⟨gp, op + k, none⟩ = some (.slice (some ⟨gq, oq, none⟩) (q + 1) c0) := by rw [hwq]; exact cL
                have ce9 : wq.cell? ⟨gq, oq + j, none⟩ = some (.int .i64 (e : Int)) := by rw [hwq]; exact ce
                have ct9 : wq.cell? ⟨w6.heap.size, e, none⟩ = some (.int .i64 0) := by rw [hwq]; exact ct
                clear hwq cL ce ct
                have ft := free_row HA9.out.tab e
                have HS := hid (HT2.out ▸ HA9.out.set e ((k : Int) + 1))
                refine wp_region_tail 23 (by kernel_rfl) (by kernel_rfl) wq HQD.out ?_
                simp only [List.take_succ_cons, List.take_zero, List.drop_succ_cons, List.drop_zero]
                iterate 23 still_step
                refine wpStill_nil ?_
                go_wp2
                go_roundw
                case rel => exact ⟨j + 1, by omega, by go_num, by rw [HN2.out]; go_num, HS⟩
                case measure => simp [intOf]; omega
              · obtain rfl : j = q + 1 := by omega
                have hj9 : ¬ ((q : Int) + 1 < (q : Int) + 1) := by omega
                have HT2 : Hid (tabP g (doneB g k (pl.take (q + 1))) = tabP g (doneB g (k + 1) [])) := hid (tabP_congr (fun r hr => by rw [List.take_of_length_le (by have := HQ.out; rw [nats_len] at this; omega)]; exact done_next HPL.out hr))
                have HN2 : Hid (cntP g (doneB g k (pl.take (q + 1))) = cntP g (doneB g (k + 1) [])) := hid (cntP_congr (fun r hr => by rw [List.take_of_length_le (by have := HQ.out; rw [nats_len] at this; omega)]; exact done_next HPL.out hr))
                have hk9 : (k : Int) + 1 ≤ 65 := by have := hlt; have h2 := HL.out; have h3 := parts_le g; have := congrArg List.length h2; rw [List.length_map] at this; have := HRT.out; have := HRI.out; omega
                clear hlt2 hat hlc hCl
                go_wp2
                go_roundw
                case rel => exact ⟨k + 1, by omega, by go_num, by rw [HN2.out], hid (HT2.out ▸ HA.out)⟩
                case measure => simp [intOf]; omega
            -- /L3
          · -- L2
            obtain ⟨m, hm⟩ : ∃ m, k = m + 1 := ⟨k - 1, by omega⟩
            have hkg : decide ((k : Int) > 0) = true := by simp; omega
            have hkg2 : decide (0 < k) = true := by simp; omega
            have hk1 : (k : Int) - 1 = (m : Int) := by omega
            have hkw : wrap64 ((k : Int) - 1) = (m : Int) := by rw [hm]; exact wrap_down m (by have h2 := congrArg List.length HL.out; rw [List.length_map] at h2; have h3 := parts_le g; have := HRT.out; have := HRI.out; omega)
            obtain ⟨pm, hpm⟩ : ∃ l, (parts g)[m]? = some l := ⟨(parts g)[m]'(by have := (List.getElem?_eq_some_iff.1 hpl).1; omega), List.getElem?_eq_getElem _⟩
            have hLm : L[m]? = some (nats pm) := by rw [HL.out, List.getElem?_map, hpm]; rfl
            obtain ⟨hd', hroot', hhd'⟩ := part_head hpm
            obtain ⟨A1, c1, cM, _, hCm⟩ := hat m _ hLm
            have hhn' : (nats pm)[0]? = some (hd' : Int) := by unfold nats; rw [List.getElem?_map, hhd']; rfl
            obtain ⟨gm, om, rfl, hatm⟩ := ints_at hCm hhn'
            have chm := hatm 0 _ hhn'
            rw [Nat.add_zero] at chm
            have hrs : hd' < hd := by
              rw [hm] at hroot
              exact heads_rise hroot' hroot
            have hrise : decide ((hd' : Int) ≥ (hd : Int)) = false := by simp; omega
            have hrise2 : decide (hd ≤ hd') = false := by simp; omega
            obtain ⟨q', hq'⟩ : ∃ q, (nats pm).length = q + 1 := ⟨(nats pm).length - 1, by have := (List.getElem?_eq_some_iff.1 hhd').1; rw [nats_len]; omega⟩
            rw [hq'] at cM
            have hmi : (m : Int) < (L.length : Int) := by omega
            have hm64 : (m : Int) ≤ 64 := by have h2 := congrArg List.length HL.out; rw [List.length_map] at h2; have h3 := parts_le g; have := HRT.out; have := HRI.out; omega
            clear hhn hhd hroot hpl hLk hat hCl hlc hatq hq hpm hLm hroot' hhd' hCm hhn' hatm hq' hk0 hm
            go_wp2
            go_quiet ((go_at_call 15; exact CR.out _))
            go_wp2
            clear ch cL cg0 hki CR hq0 HCL HRS HLC hkg hkg2 hk1 hkw hrise hrise2 chm cM hmi hm64 hrs
            go_loopw [7, 9] (fun n j wr => ∃ jj : Nat, jj ≤ q + 1 ∧ j = .int .i64 jj ∧ n = .int .i64 (cntP g (doneB g k (pl.take jj))) ∧ Hid (HgA w6 wr w6.heap.size (tabP g (doneB g k (pl.take jj))))) (fun _ j _ => q + 1 - (intOf j).toNat)
            case atStart => exact ⟨0, by omega, rfl, by rw [List.take_zero], hid (by rw [List.take_zero]; exact HA.out.next (below_dn _ _))⟩
            case round =>
              clear HA
              obtain ⟨j, hj, rfl, rfl, HA⟩ := hrel
              obtain ⟨gp9, op9, hA9, hat⟩ := lists_at (Kd.C_below HC6.out HA.out.below) HLK.out
              cases hA9
              obtain ⟨A0, c0, cL, hlc, hCl⟩ := hat k _ HLK.out
              rw [HQ.out] at cL
              have hki : (k : Int) < (L.length : Int) := by omega
              by_cases hlt2 : j < q + 1
              · obtain ⟨e, he⟩ : ∃ e, pl[j]? = some e := ⟨pl[j]'(by have := HQ.out; rw [nats_len] at this; omega), List.getElem?_eq_getElem _⟩
                have hen : (nats pl)[j]? = some (e : Int) := by unfold nats; rw [List.getElem?_map, he]; rfl
                obtain ⟨gq, oq, rfl, hatq⟩ := ints_at hCl hen
                have ce := hatq j _ hen
                have hmem := (mem_part HPL.out e).1 (List.mem_of_getElem? he)
                have hfr := done_fresh HPL.out he
                have ct : wr.cell? ⟨w6.heap.size, e, none⟩ = some (.int .i64 0) := by
                  have h := HA.out.tab.cell (tabP_get g (doneB g k (pl.take j)) hmem.1)
                  rw [hfr] at h; exact h
                have HT2 : Hid ((tabP g (doneB g k (pl.take j))).set e ((k : Int) + 1) = tabP g (doneB g k (pl.take (j + 1)))) := hid (by
                  have h := tabP_set g (doneB g k (pl.take j)) hmem.1
                  rw [hmem.2] at h
                  rw [h]
                  exact tabP_congr (fun r _ => (done_step HPL.out he r).symm))
                have HN2 : Hid (cntP g (doneB g k (pl.take (j + 1))) = cntP g (doneB g k (pl.take j)) + 1) := hid (by
                  rw [← cntP_set g (doneB g k (pl.take j)) hmem.1 hfr]
                  exact cntP_congr (fun r _ => done_step HPL.out he r))
                have hne9 : (cntP g (doneB g k (pl.take j)) : Int) + 1 ≤ 9223372036854775807 := by have := cntP_le g (doneB g k (pl.take j)); have := HRT.out; have := HRI.out; omega
                have heR : (e : Int) < (R : Int) := by have := hmem.1; have := HRT.out; omega
                have hk9 : (k : Int) + 1 ≤ 65 := by have := hlt; have h2 := HL.out; have h3 := parts_le g; have := congrArg List.length h2; rw [List.length_map] at this; have := HRT.out; have := HRI.out; omega
                have hj9 : (j : Int) < (q : Int) + 1 := by omega
                have hjq : (j : Int) + 1 ≤ 9223372036854775807 := by have h3 := part_le HPL.out; have := HQ.out; rw [nats_len] at this; have := HRT.out; have := HRI.out; omega
                clear hen he hatq hfr hmem hCl hat hlc hlt2
                go_upto_region 17 with fail
                obtain ⟨wq, hwq⟩ : ∃ wq, wq = wr.drew := ⟨_, rfl⟩
                have HQD := hid hwq
                have HA9 : Hid (HgA w6 wq w6.heap.size (tabP g (doneB g k (pl.take j)))) := hid (by rw [hwq]; exact HA.out.next (Below.refl _ _).drew)
                have cL9 : wq.cell? ⟨gp, op + k, none⟩ = some (.slice (some ⟨gq, oq, none⟩) (q + 1) c0) := by rw [hwq]; exact cL
                have ce9 : wq.cell? ⟨gq, oq + j, none⟩ = some (.int .i64 (e : Int)) := by rw [hwq]; exact ce
                have ct9 : wq.cell? ⟨w6.heap.size, e, none⟩ = some (.int .i64 0) := by rw [hwq]; exact ct
                clear hwq cL ce ct
                have ft := free_row HA9.out.tab e
                have HS := hid (HT2.out ▸ HA9.out.set e ((k : Int) + 1))
                refine wp_region_tail 23 (by kernel_rfl) (by kernel_rfl) wq HQD.out ?_
                simp only [List.take_succ_cons, List.take_zero, List.drop_succ_cons, List.drop_zero]
                iterate 23 still_step
                refine wpStill_nil ?_
                go_wp2
                go_roundw
                case rel => exact ⟨j + 1, by omega, by go_num, by rw [HN2.out]; go_num, HS⟩
                case measure => simp [intOf]; omega
              · obtain rfl : j = q + 1 := by omega
                have hj9 : ¬ ((q : Int) + 1 < (q : Int) + 1) := by omega
                have HT2 : Hid (tabP g (doneB g k (pl.take (q + 1))) = tabP g (doneB g (k + 1) [])) := hid (tabP_congr (fun r hr => by rw [List.take_of_length_le (by have := HQ.out; rw [nats_len] at this; omega)]; exact done_next HPL.out hr))
                have HN2 : Hid (cntP g (doneB g k (pl.take (q + 1))) = cntP g (doneB g (k + 1) [])) := hid (cntP_congr (fun r hr => by rw [List.take_of_length_le (by have := HQ.out; rw [nats_len] at this; omega)]; exact done_next HPL.out hr))
                have hk9 : (k : Int) + 1 ≤ 65 := by have := hlt; have h2 := HL.out; have h3 := parts_le g; have := congrArg List.length h2; rw [List.length_map] at this; have := HRT.out; have := HRI.out; omega
                clear hlt2 hat hlc hCl
                go_wp2
                go_roundw
                case rel => exact ⟨k + 1, by omega, by go_num, by rw [HN2.out], hid (HT2.out ▸ HA.out)⟩
                case measure => simp [intOf]; omega
            -- /L2
        · -- L4
          obtain rfl : k = L.length := by omega
          have hlL : L.length = (parts g).length := by rw [HL.out, List.length_map]
          have hcn : cntP g (doneB g L.length []) = R := by rw [← HRT.out]; exact cntP_all (fun r hr => by rw [hlL]; exact done_end hr)
          have HT : Hid (∀ r, r < R → (tabP g (doneB g L.length []))[r]? = some ((idx g r : Int) + 1)) := hid (fun r hr => by rw [tabP_get g _ (by rw [HRT.out]; exact hr), hlL, done_end (by rw [HRT.out]; exact hr), if_pos rfl])
          rw [hcn]
          obtain ⟨T, hT⟩ : ∃ T, T = tabP g (doneB g L.length []) := ⟨_, rfl⟩
          rw [← hT] at HA HT
          have hki : ¬ ((L.length : Int) < (L.length : Int)) := by omega
          have hnr : ((R : Int) != (R : Int)) = false := by simp
          have cg0 := row_cell (below_keep HA.out.below HG6.out) 0 _ rfl
          have cg1 := row_cell (below_keep HA.out.below HG6.out) 1 _ rfl
          have hba : Below wr.heap.size wr (wr.alloc (.cells (ints (List.replicate C 0)) 3)) := (Below.refl _ _).alloc (Nat.le_refl _) _
          have HP8 := hid (HA.out.next hba)
          have HO8 : Hid (HgA w6 (wr.alloc (.cells (ints (List.replicate C 0)) 3)) wr.heap.size (tabO g (g.es.take 0))) := hid ⟨by rw [List.take_zero, tabO_zero, HCT.out]; exact heap_alloc_new _ _, HP8.out.below, HA.out.below.size⟩
          have HNE := hid (heap_lt HA.out.tab)
          clear hlt hcn hT hba hlL
          go_wp2
          clear hmc cg0 cg1 hnr hki HA
          generalize wr.alloc (.cells (ints (List.replicate C 0)) 3) = w8 at *
          generalize wr.heap.size = ob at *
          go_loopw [11, 12] (fun i _ wr => ∃ j : Nat, j ≤ g.es.length ∧ i = .int .i64 j ∧ Hid (HgA w6 wr w6.heap.size T) ∧ Hid (HgA w6 wr ob (tabO g (g.es.take j)))) (fun i _ _ => g.es.length - (intOf i).toNat)
          case atStart => exact ⟨0, by omega, rfl, HP8, HO8⟩
          case round =>
            clear HP8 HO8
            obtain ⟨j, hj, rfl, HP, HO⟩ := hrel
            have cg2 := row_cell (below_keep HP.out.below HG6.out) 2 _ rfl
            by_cases hlt : j < g.es.length
            · -- L5
              obtain ⟨x, hx⟩ : ∃ x, g.es[j]? = some x := ⟨g.es[j], by simp [hlt]⟩
              have HXM := hid (List.mem_of_getElem? hx)
              obtain ⟨r, c, hxr, hxc, hr1, hc1, _⟩ := edge_ok K1.out HXM.out
              have hrR : r < R := by have := HRR.out; omega
              have hcC : c < C := by have := HCC.out; omega
              have HTR := hid (HT.out r hrR)
              obtain ⟨v, hv, hvv⟩ : ∃ v, (tabO g (g.es.take j))[c]? = some v ∧ (v = 0 ∨ v = (idx g r : Int) + 1) := ⟨_, tabO_get g _ (by rw [HCT.out]; exact hcC), of_ok K1.out HXM.out hxr hxc⟩
              have HVC := hid hv
              have HOS : Hid ((tabO g (g.es.take j)).set c ((idx g r : Int) + 1) = tabO g (g.es.take (j + 1))) := hid (by
                rw [← tabO_snoc g (g.es.take j) x hxr hxc]
                obtain ⟨h1, h2⟩ := List.getElem?_eq_some_iff.1 hx
                rw [List.take_succ_eq_append_getElem h1, h2])
              have hil : idx g r < L.length := by
                have := idx_lt (g := g) (r := r) (by rw [HRT.out]; exact hrR)
                rw [HL.out, List.length_map]; exact this
              obtain ⟨gg, o, rfl, hgg, hcc⟩ := (HR.out.kept (HB6.out.trans (HP.out.below.mono HB6.out.size))).get hx
              have HCE : Hid (CellsAt wr gg (o + j * 3) #[.int .i64 r, .int .i64 c, .int .i64 x.w]) := hid (by rw [Nat.mul_comm, ← hxr, ← hxc]; exact hcc)
              have hri : (r : Int) < (R : Int) := by omega
              have hci : (c : Int) < (C : Int) := by omega
              have hji : (j : Int) < (g.es.length : Int) := by omega
              obtain ⟨Z, hZ⟩ : ∃ Z, Z = (idx g r : Int) + 1 := ⟨_, rfl⟩
              have hz1 : decide (Z < 1) = false := decide_eq_false (by omega)
              have hz2 : decide (Z > (L.length : Int)) = false := decide_eq_false (by omega)
              have hz3 : (Z != 0) = true := by simp; omega
              have hz4 : (Z != Z) = false := by simp
              have hz5 : decide ((L.length : Int) < Z) = false := decide_eq_false (by omega)
              rw [← hZ] at HTR hvv HOS
              clear hZ hil
              clear hx hxr hxc hr1 hc1 hcc hgg hv hlt hrR hcC
              go_upto_region 26 with (refine wpList_load_cells rfl 40 _ rfl _ _ rfl _ _ HCE.out Try.underlying40 rfl info_ed ?_)
              have hba : Below wr.heap.size wr (wr.alloc (.cells #[.int .i64 r, .int .i64 c, .int .i64 x.w] 40)) := (Below.refl _ _).alloc (Nat.le_refl _) _
              have HP9 := hid (HP.out.next hba)
              have HO9 := hid (HO.out.next hba)
              have HX3 : Hid ((wr.alloc (.cells #[.int .i64 r, .int .i64 c, .int .i64 x.w] 40)).heap[wr.heap.size]? = some (.cells #[.int .i64 r, .int .i64 c, .int .i64 x.w] 40 (0, 0))) := hid (heap_alloc_new _ _)
              clear hba
              generalize wr.alloc (.cells #[.int .i64 r, .int .i64 c, .int .i64 x.w] 40) = w9 at *
              generalize wr.heap.size = gx at *
              clear HP HO HCE cg2
              have cx0 := row_cell HX3.out 0 _ rfl
              have cx1 := row_cell HX3.out 1 _ rfl
              have cpr := HP9.out.tab.cell HTR.out
              have coc := HO9.out.tab.cell HVC.out
              rcases hvv with hv0 | hv0
              · subst hv0
                go_quiet (fail)
                go_upto_region 28 with fail
                refine at_world (fun w2 => HgA w6 w2 w6.heap.size T ∧ HgA w6 w2 ob (tabO g (g.es.take j)) ∧ w2.heap[gx]? = some (.cells #[.int .i64 r, .int .i64 c, .int .i64 x.w] 40 (0, 0))) _ rfl ⟨HP9.out.next (below_dn _ _), HO9.out.next (below_dn _ _), below_keep (below_dn _ _) HX3.out⟩ ?_
                rintro w10 ⟨hp10, ho10, hx10⟩
                obtain ⟨wq, hwq⟩ : ∃ wq, wq = w10.drew := ⟨_, rfl⟩
                have HQD := hid hwq
                have HPQ : Hid (HgA w6 wq w6.heap.size T) := hid (by rw [hwq]; exact hp10.next (Below.refl _ _).drew)
                have HOQ : Hid (HgA w6 wq ob (tabO g (g.es.take j))) := hid (by rw [hwq]; exact ho10.next (Below.refl _ _).drew)
                have HXQ : Hid (wq.heap[gx]? = some (.cells #[.int .i64 r, .int .i64 c, .int .i64 x.w] 40 (0, 0))) := hid (by rw [hwq]; exact below_keep (Below.refl _ _).drew hx10)
                clear cx0 cx1 cpr coc hp10 ho10 hx10 hwq HP9 HO9 HX3
                have cx0 := row_cell HXQ.out 0 _ rfl
                have cx1 := row_cell HXQ.out 1 _ rfl
                have cpr := HPQ.out.tab.cell HTR.out
                have coc := HOQ.out.tab.cell HVC.out
                have fo := free_row HOQ.out.tab c
                have HS := hid (HOS.out ▸ HOQ.out.set c Z)
                have HS2 : Hid (HgA w6 (wq.setCell ⟨ob, c, none⟩ (.int .i64 Z)) w6.heap.size T) := hid ⟨HPQ.out.tab.other (by have := HNE.out; omega) _ _, HS.out.below, Nat.le_refl _⟩
                refine wp_region_tail 9 (by kernel_rfl) (by kernel_rfl) wq HQD.out ?_
                simp only [List.take_succ_cons, List.take_zero, List.drop_succ_cons, List.drop_zero]
                iterate 9 still_step
                refine wpStill_nil ?_
                go_wp2
                go_roundw
                case rel => exact ⟨j + 1, by omega, by go_num, HS2, HS⟩
                case measure => simp [intOf]; omega
              · rw [hv0] at coc HVC
                clear hv0
                go_quiet (fail)
                go_upto_region 28 with fail
                refine at_world (fun w2 => HgA w6 w2 w6.heap.size T ∧ HgA w6 w2 ob (tabO g (g.es.take j)) ∧ w2.heap[gx]? = some (.cells #[.int .i64 r, .int .i64 c, .int .i64 x.w] 40 (0, 0))) _ rfl ⟨HP9.out.next (below_dn _ _), HO9.out.next (below_dn _ _), below_keep (below_dn _ _) HX3.out⟩ ?_
                rintro w10 ⟨hp10, ho10, hx10⟩
                obtain ⟨wq, hwq⟩ : ∃ wq, wq = w10.drew := ⟨_, rfl⟩
                have HQD := hid hwq
                have HPQ : Hid (HgA w6 wq w6.heap.size T) := hid (by rw [hwq]; exact hp10.next (Below.refl _ _).drew)
                have HOQ : Hid (HgA w6 wq ob (tabO g (g.es.take j))) := hid (by rw [hwq]; exact ho10.next (Below.refl _ _).drew)
                have HXQ : Hid (wq.heap[gx]? = some (.cells #[.int .i64 r, .int .i64 c, .int .i64 x.w] 40 (0, 0))) := hid (by rw [hwq]; exact below_keep (Below.refl _ _).drew hx10)
                clear cx0 cx1 cpr coc hp10 ho10 hx10 hwq HP9 HO9 HX3
                have cx0 := row_cell HXQ.out 0 _ rfl
                have cx1 := row_cell HXQ.out 1 _ rfl
                have cpr := HPQ.out.tab.cell HTR.out
                have coc := HOQ.out.tab.cell HVC.out
                have fo := free_row HOQ.out.tab c
                have HS := hid (HOS.out ▸ HOQ.out.set c Z)
                have HS2 : Hid (HgA w6 (wq.setCell ⟨ob, c, none⟩ (.int .i64 Z)) w6.heap.size T) := hid ⟨HPQ.out.tab.other (by have := HNE.out; omega) _ _, HS.out.below, Nat.le_refl _⟩
                refine wp_region_tail 9 (by kernel_rfl) (by kernel_rfl) wq HQD.out ?_
                simp only [List.take_succ_cons, List.take_zero, List.drop_succ_cons, List.drop_zero]
                iterate 9 still_step
                refine wpStill_nil ?_
                go_wp2
                go_roundw
                case rel => exact ⟨j + 1, by omega, by go_num, HS2, HS⟩
                case measure => simp [intOf]; omega
              -- /L5
            · -- L6
              obtain rfl : j = g.es.length := by omega
              have hji : ¬ ((g.es.length : Int) < (g.es.length : Int)) := by omega
              have HBL := hid HP.out.below
              clear hlt hj
              go_wp2
              clear cg2 hji HP HO
              go_loopw [13] (fun i wr => ∃ k : Nat, k ≤ L.length ∧ i = .int .i64 k ∧ Hid (Below w6.heap.size w6 wr)) (fun i _ => L.length - (intOf i).toNat)
              case atStart => exact ⟨0, by omega, rfl, HBL⟩
              case round =>
                clear HBL
                obtain ⟨k, hk, rfl, HBL⟩ := hrel
                by_cases hlt : k < L.length
                · obtain ⟨pl, hpl⟩ : ∃ l, (parts g)[k]? = some l := ⟨(parts g)[k]'(by have := hlt; rw [HL.out, List.length_map] at this; exact this), List.getElem?_eq_getElem _⟩
                  have hLk : L[k]? = some (nats pl) := by rw [HL.out, List.getElem?_map, hpl]; rfl
                  obtain ⟨hd, hroot, hhd⟩ := part_head hpl
                  obtain ⟨p2, hp2, hpl2⟩ := part_get hpl
                  obtain rfl : p2 = hd := by rw [hroot] at hp2; exact (Option.some.inj hp2).symm
                  have hrt := (roots_get hroot).1
                  have hlt3 := (roots_get hroot).2.1
                  obtain ⟨gp, op, rfl, hat⟩ := lists_at (Kd.C_below HC6.out HBL.out) hLk
                  obtain ⟨A0, c0, cL, hlc, hCl⟩ := hat k _ hLk
                  have hhn : (nats pl)[0]? = some (p2 : Int) := by unfold nats; rw [List.getElem?_map, hhd]; rfl
                  obtain ⟨gq, oq, rfl, hatq⟩ := ints_at hCl hhn
                  have ch := hatq 0 _ hhn
                  rw [Nat.add_zero] at ch
                  obtain ⟨n, hn⟩ : ∃ n, n = (nats pl).length := ⟨_, rfl⟩
                  have hln : (partOf g p2).length = n := by rw [hn, nats_len, hpl2]
                  have hn1 : 0 < n := by have := (List.getElem?_eq_some_iff.1 hhn).1; omega
                  rw [← hn] at cL
                  have CR := hid (fun X : Bw wr => reached_any g a cap HOK.out K1.out p2 hrt hlt3 X.1 ((HR.out.kept (HB6.out.trans (HBL.out.mono HB6.out.size))).kept X.2))
                  rw [hln] at CR
                  unfold grV at CR
                  rw [HRR.out, HCC.out] at CR
                  have HGX := hid (below_keep HBL.out HG6.out)
                  have hki : (k : Int) < (L.length : Int) := by omega
                  have hni : (0 : Int) < (n : Int) := by omega
                  have hnn : ((n : Int) != (n : Int)) = false := by simp
                  have lgp := cell_lt cL
                  have lgq := cell_lt ch
                  clear hhn hhd hroot hp2 hpl2 hrt hlt3 hpl hLk hat hCl hlc hatq hn hln hlt
                  go_wp2
                  refine wp_region_bw (by kernel_rfl) (by kernel_rfl) ?_
                  (go_big_quiet_want; refine quiet_load_row 24 _ rfl _ rfl _ _ _ _ (HGX.out) Try.underlying24 rfl (info_gr) ?_; simp only [Act.put, List.setIfInBounds_toArray, List.set_cons_zero, List.set_cons_succ]; go_big_quiet_on)
                  iterate 3 (go_big_quiet_step (fail))
                  (go_big_quiet_want; refine quiet_load_cell 34 _ rfl _ _ rfl _ cL (fun w h => by go_simp) ?_; simp only [Act.put, List.setIfInBounds_toArray, List.set_cons_zero, List.set_cons_succ]; go_big_quiet_on)
                  iterate 1 (go_big_quiet_step (fail))
                  (go_big_quiet_want; refine quiet_load_cell 3 _ rfl _ _ rfl _ ch (fun w h => by go_simp) ?_; simp only [Act.put, List.setIfInBounds_toArray, List.set_cons_zero, List.set_cons_succ]; go_big_quiet_on)
                  (go_big_quiet_want; go_big_quiet_op; go_big_quiet_call ((go_at_call 22; exact Calls.bw (CR.out _))))
                  iterate 3 (go_big_quiet_step (fail))
                  (go_big_quiet_want; refine quiet_load_cell 34 _ rfl _ _ rfl _ cL (fun w h => by go_simp) ?_; simp only [Act.put, List.setIfInBounds_toArray, List.set_cons_zero, List.set_cons_succ]; go_big_quiet_on)
                  iterate 2 (go_big_quiet_step (fail))
                  refine wpQuiet_nil ?_; rintro w' ⟨X, rfl⟩
                  have HB9 := hid (HBL.out.trans (X.2.mono HBL.out.size))
                  have hk9 : (k : Int) + 1 ≤ 65 := by have h2 := HL.out; have h3 := parts_le g; have := congrArg List.length h2; rw [List.length_map] at this; have := HRT.out; have := HRI.out; omega
                  go_wp2
                  go_roundw
                  case rel => exact ⟨k + 1, by omega, by go_num, HB9⟩
                  case measure => simp [intOf]; omega
                · obtain rfl : k = L.length := by omega
                  have hki : ¬ ((L.length : Int) < (L.length : Int)) := by omega
                  clear hlt
                  go_wp2
                  go_ret
                  exact ⟨rfl, HB6.out.trans (HBL.out.mono HB6.out.size)⟩
              -- /L6
          -- /L4
    · have HV1 : Hid (chkV g = 170) := hid (by unfold chkV; rw [if_neg k1])
      rw [HV1.out]
      rw [if_neg k1] at ho6
      obtain ⟨A, d, rfl, hl, hC⟩ := C_lists ho6
      clear ho6 hC hl k1
      have e0 : (([] : List (List Int)).length) = 0 := rfl
      rw [e0]
      clear e0
      go_wp2_with (refine wpList_load_w rfl 24 _ rfl _ rfl _ _ _ _ (HT6.out) Try.underlying24 rfl (info_gr) ?_)
      refine (CKT.out _ HET6.out).mono ?_
      rintro e w9 ⟨rfl, hb9⟩
      rw [HV1.out]
      have HB9 := hid (HB6.out.trans (hb9.mono HB6.out.size))
      clear hb9
      go_wp2
      go_ret
      exact ⟨rfl, HB9.out⟩
end Go.Proofs.Ytjhomkdnhdhffaa.PCoverHangs
