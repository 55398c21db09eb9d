/- CoverKoenig: what it asks of the answers, in plain Lean; its walk. -/
import Derived.Test.YtjhomkdnhdhffaaKlKoenig
import Derived.Deep.QuietTactic
namespace Go.Proofs.Ytjhomkdnhdhffaa.PCoverKoenig
open Go.RowKit Go.Proofs.Ytjhomkdnhdhffaa Go.Proofs.YtjhomkdnhdhffaaW.PrintWords Go.Proofs.YtjhomkdnhdhffaaW.PrintLast Go.Proofs.YtjhomkdnhdhffaaW.PrintMore

theorem rising_tells (l : List Int) (b : Int) (hl : l.length ≤ 4611686018427387903) (h1 : ∀ x ∈ l, 0 ≤ x ∧ x < b) (h2 : l.Pairwise (· < ·)) : cabstandlaw19_rising.f (l.length + 1) l b = some true := by
  have key : ∀ (d k j : Nat), j + d = l.length → d < k → cabstandlaw19_rising.l0 k l b j = some true := by
    intro d
    induction d with
    | zero =>
      intro k j hj hk
      obtain ⟨k, rfl⟩ : ∃ m, k = m + 1 := ⟨k - 1, by omega⟩
      simp only [cabstandlaw19_rising.l0]
      rw [if_neg (by omega)]
    | succ d ih =>
      intro k j hj hk
      obtain ⟨k, rfl⟩ : ∃ m, k = m + 1 := ⟨k - 1, by omega⟩
      simp only [cabstandlaw19_rising.l0]
      have := h1 (l[j]'(by omega)) (List.getElem_mem _)
      rw [if_pos (by omega), if_pos (by omega), rd_at l j (by omega), if_neg (by omega), if_neg (by omega)]
      cases j with
      | zero =>
        rw [if_neg (by omega)]
        have h3 := ih k 1 (by omega) (by omega)
        rw [wrap_up 0 (by omega)]
        exact h3
      | succ m =>
        have h4 := List.pairwise_iff_getElem.1 h2 m (m + 1) (by omega) (by omega) (by omega)
        rw [if_pos (by omega), wrap_down m (by omega), if_pos (by omega), if_pos (by omega), rd_at l m (by omega), if_neg (by omega), wrap_up (m + 1) (by omega)]
        exact ih k (m + 1 + 1) (by omega) (by omega)
  have := key l.length (l.length + 1) 0 (by omega) (by omega)
  unfold cabstandlaw19_rising.f
  exact this
theorem nats_rise (p : Nat → Bool) (n : Nat) : (nats ((List.range n).filter p)).Pairwise (· < ·) := by
  unfold nats
  rw [List.pairwise_map]
  refine List.Pairwise.imp ?_ (List.Pairwise.filter p List.pairwise_lt_range)
  intro a b h
  exact Int.ofNat_lt.2 h
theorem nats_in (p : Nat → Bool) (n : Nat) : ∀ x ∈ nats ((List.range n).filter p), 0 ≤ x ∧ x < (n : Int) := by
  intro x hx
  unfold nats at hx
  obtain ⟨y, hy, rfl⟩ := List.mem_map.1 hx
  have : y < n := by simpa using (List.mem_filter.1 hy).1
  exact ⟨Int.natCast_nonneg y, Int.ofNat_lt.2 this⟩
theorem mem_nats (p : Nat → Bool) (n : Nat) (x : Nat) : ((x : Int) ∈ nats ((List.range n).filter p)) ↔ x < n ∧ p x = true := by
  unfold nats
  rw [List.mem_map]
  constructor
  · rintro ⟨y, hy, e⟩
    have e' : y = x := Int.ofNat.inj e
    subst e'
    simpa using hy
  · rintro ⟨h1, h2⟩
    exact ⟨x, by simp [h1, h2], rfl⟩
structure Koe (g : Gr) : Prop where
  mat : MatL g ((mostAt g g.rows.toNat).l.map toP)
  rrise : cabstandlaw19_rising.f ((nats (coverRows g)).length + 1) (nats (coverRows g)) g.rows = some true
  crise : cabstandlaw19_rising.f ((nats (coverCols g)).length + 1) (nats (coverCols g)) g.cols = some true
  num : (nats (coverRows g)).length + (nats (coverCols g)).length = ((mostAt g g.rows.toNat).l.map toP).length
  edges : ∀ x ∈ g.es, x.r ∈ nats (coverRows g) ∨ x.c ∈ nats (coverCols g)
  pairs : ∀ p ∈ (mostAt g g.rows.toNat).l.map toP, decide (p.f0 ∈ nats (coverRows g)) = !decide (p.f1 ∈ nats (coverCols g))
  lr : (nats (coverRows g)).length ≤ 64
  lc : (nats (coverCols g)).length ≤ 64
  lm : ((mostAt g g.rows.toNat).l.map toP).length ≤ 64
theorem koe_all {g : Gr} (hc : chk g = true) : Koe g := by
  obtain ⟨K, f, P, Q, h⟩ := law19 hc
  have hsz := chk_size hc
  have hsmall : Small (Eg (toOf g.es)) := fun x c he => Eg.lt (toOf_ok hc) he
  obtain ⟨R, hR⟩ := Int.eq_ofNat_of_zero_le hsz.1
  obtain ⟨C, hC⟩ := Int.eq_ofNat_of_zero_le hsz.2.2.1
  have hRt : g.rows.toNat = R := by omega
  have hCt : g.cols.toNat = C := by omega
  have lr : (nats (coverRows g)).length ≤ 64 := by rw [nats_len, h.rows]; exact Nat.le_trans (List.length_filter_le _ _) (by rw [List.length_range]; omega)
  have lc : (nats (coverCols g)).length ≤ 64 := by rw [nats_len, h.cols]; exact Nat.le_trans (List.length_filter_le _ _) (by rw [List.length_range]; omega)
  have lm : ((mostAt g g.rows.toNat).l.map toP).length ≤ 64 := by rw [List.length_map]; have := mostAt_len g g.rows.toNat; omega
  have hflt : ∀ x, 0 ≤ f x → x < g.rows.toNat := fun x hx => by
    obtain ⟨c, _, he, _⟩ := h.mat.edge x hx
    exact (eg_lt hc he).1
  have sp := fun x d (e : f x = ((d : Nat) : Int)) => slack_pair hsmall h.mat h.cov (by rw [h.cnum, h.num]; exact Nat.le_refl _) e
  refine ⟨most_mat hc h, ?_, ?_, ?_, fun x hx => ?_, fun p hp => ?_, lr, lc, lm⟩
  · exact rising_tells _ _ (by omega) (fun x hx => by rw [h.rows] at hx; have := nats_in P _ x hx; omega) (by rw [h.rows]; exact nats_rise _ _)
  · exact rising_tells _ _ (by omega) (fun x hx => by rw [h.cols] at hx; have := nats_in Q _ x hx; omega) (by rw [h.cols]; exact nats_rise _ _)
  · rw [nats_len, nats_len, h.rows, h.cols, List.length_map, h.pairs, pairs_len f (by omega) hflt, h.num, ← h.cnum, cnt_range P (show g.rows.toNat ≤ 64 by omega) h.rlt, cnt_range Q (show g.cols.toNat ≤ 64 by omega) h.clt]
  · obtain ⟨r, c, h1, h2, h3, h4, _⟩ := edge_ok hc hx
    have he : Eg (toOf g.es) r c := (eg_iff hc r c).2 ⟨x, hx, h1, h2⟩
    rw [h.rows, h.cols, h1, h2]
    rcases h.cov.edge r c rfl rfl he with h5 | h5
    · exact .inl ((mem_nats _ _ _).2 ⟨by omega, h5⟩)
    · exact .inr ((mem_nats _ _ _).2 ⟨by omega, h5⟩)
  · obtain ⟨y, hy, rfl⟩ := List.mem_map.1 hp
    rw [h.pairs] at hy
    obtain ⟨h1, h2⟩ := pairs_mem.1 hy
    have h3 := sp y.1 y.2 h2
    obtain ⟨d, h4, h5, _⟩ := h.mat.edge y.1 (by omega)
    have hd : d = y.2 := by omega
    subst hd
    have h6 := eg_lt hc h5
    have e1 : decide ((toP y).f0 ∈ nats (coverRows g)) = P y.1 := by
      rw [h.rows]
      have := mem_nats P g.rows.toNat y.1
      show decide ((y.1 : Int) ∈ _) = _
      cases hp : P y.1 <;> simp [this, hp, h1]
    have e2 : decide ((toP y).f1 ∈ nats (coverCols g)) = Q y.2 := by
      rw [h.cols]
      have := mem_nats Q g.cols.toNat y.2
      show decide ((y.2 : Int) ∈ _) = _
      cases hp : Q y.2 <;> simp [this, hp, h6.2]
    rw [e1, e2, h3]

theorem twin_ok {g : Gr} {cap : Nat} (h : GrOk g cap) (hl : g.es.length ≤ 1048576) : GrOk g (g.es.length + 1) := ⟨h.rows, h.cols, h.es, by omega, by omega⟩
/-- The walk's state: the two graphs in memory, the lists of the answers. -/
structure KAt (w wr : World) (g : Gr) (a : Option Addr) (cap bt gt : Nat) (L1 : List SP) (L2 L3 : List Int) (A1 A2 A3 : Option Addr) : Prop where
  box : wr.heap[w.heap.size]? = some (.cells #[.int .i64 g.rows, .int .i64 g.cols, .slice a g.es.length cap] 24 (0, 0))
  bt : wr.heap[bt]? = some (.cells #[.int .i64 g.rows, .int .i64 g.cols, .slice (some ⟨gt, 0, none⟩) g.es.length (g.es.length + 1)] 24 (0, 0))
  et : EdsAt wr gt (g.es ++ [markEd])
  c1 : Kd.C kP wr A1 L1.length L1
  c2 : Kd.C (Kd.int .i64) wr A2 L2.length L2
  c3 : Kd.C (Kd.int .i64) wr A3 L3.length L3
  below : Below w.heap.size w wr
theorem KAt.next {w wr w2 : World} {g : Gr} {a : Option Addr} {cap bt gt : Nat} {L1 : List SP} {L2 L3 : List Int} {A1 A2 A3 : Option Addr} (h : KAt w wr g a cap bt gt L1 L2 L3 A1 A2 A3) (hb : Below wr.heap.size wr w2) : KAt w w2 g a cap bt gt L1 L2 L3 A1 A2 A3 :=
  ⟨below_keep hb h.box, below_keep hb h.bt, below_keep hb h.et, Kd.C_below h.c1 hb, Kd.C_below h.c2 hb, Kd.C_below h.c3 hb, h.below.trans (hb.mono h.below.size)⟩
theorem below_dn (w : World) (m : Nat) : Below w.heap.size w (w.drewN m) := ⟨rfl, rfl, rfl, Nat.le_refl _, fun _ _ => rfl⟩

set_option maxRecDepth 100000 in
set_option maxHeartbeats 20000000 in
theorem koenig_any (g : Gr) (a : Option Addr) (cap : Nat) (hok : GrOk g cap) (w : World) (hr : RowsAt 3 edV w a g.es) :
    Calls Try.prog 3 #[grV g a cap] w fun e w' => e = .returned (.bool true) ∧ Below w.heap.size w w' := by
  have HOK := hid hok
  have HR := hid hr
  have HLN : Hid (g.es.length ≤ 9223372036854775807) := hid (by have := hok.len; have := hok.cap; omega)
  clear hok hr
  unfold grV at *
  go_enter Try.func3, Try.ntmps3
  go_wp2_with fail
  refine (alive_any _).mono ?_
  rintro e w1 ⟨rfl, hb1⟩
  have HG := hid (below_keep hb1 (heap_alloc_new _ _))
  have HB : Hid (Below w.heap.size w w1) := hid (((Below.refl _ _).alloc (Nat.le_refl _) _).trans (hb1.mono (by simp)))
  clear hb1
  have cg := row_cell HG.out 2 _ rfl
  go_wp2_with fail
  clear cg
  have HN := C_new_ints w1 [(g.es.length : Int)] (by simp)
  have hbn : Below w1.heap.size w1 (w1.alloc (.cells (intV [(g.es.length : Int)]).toArray 3)) := (Below.refl _ _).alloc (Nat.le_refl _) _
  refine (cabstandlaw01_Beyond.calls 2 (some ⟨w1.heap.size, 0, none⟩) 1 [(g.es.length : Int)] _ _ HN (Nat.le_refl _) (beyond_one _ (by omega) (by have := HLN.out; omega))).mono ?_
  rintro e w2 ⟨rfl, hd2⟩
  have hb2 := hbn.trans (hd2.below.mono hbn.size)
  have HG := hid (below_keep hb2 HG.out)
  have HB := hid (HB.out.trans (hb2.mono HB.out.size))
  clear HN hbn hd2 hb2
  by_cases hbey : (g.es.length : Int) > 1048576
  · rw [decide_eq_true hbey]
    have HX := hid hbey
    clear hbey
    go_wp2_with fail
    refine (alive_any _).mono ?_
    rintro e w3 ⟨rfl, hb3⟩
    have HB := hid (HB.out.trans (hb3.mono HB.out.size))
    clear hb3
    go_wp2
    go_ret
    exact ⟨rfl, HB.out⟩
  · rw [decide_eq_false hbey]
    have hlen : g.es.length ≤ 1048576 := by omega
    clear hbey
    go_wp2_with (refine wpList_load_w rfl 24 _ rfl _ rfl _ _ _ _ (HG.out) Try.underlying24 rfl (info_gr) ?_)
    refine (twinGraph_any g a cap hlen _ (HR.out.kept HB.out)).mono ?_
    rintro e w3 ⟨gt, rfl, hgt, het, hb3⟩
    have HG3 := hid (alloc_keep (below_keep hb3 HG.out) (.cells #[.int .i64 g.rows, .int .i64 g.cols, .slice (some ⟨gt, 0, none⟩) g.es.length (g.es.length + 1)] 24))
    have HT3 := hid (heap_alloc_new w3 (.cells #[.int .i64 g.rows, .int .i64 g.cols, .slice (some ⟨gt, 0, none⟩) g.es.length (g.es.length + 1)] 24))
    have HET3 : Hid (EdsAt (w3.alloc (.cells #[.int .i64 g.rows, .int .i64 g.cols, .slice (some ⟨gt, 0, none⟩) g.es.length (g.es.length + 1)] 24)) gt (g.es ++ [markEd])) := hid (alloc_keep het _)
    have hb3' := HB.out.trans (hb3.mono HB.out.size)
    have HB3 := hid (hb3'.alloc hb3'.size (.cells #[.int .i64 g.rows, .int .i64 g.cols, .slice (some ⟨gt, 0, none⟩) g.es.length (g.es.length + 1)] 24))
    clear hgt het hb3 hb3' HG HB
    unfold grV
    go_upto_region 4 with (refine wpList_store_row rfl 24 _ _ rfl _ rfl _ rfl _ _ (heap_alloc_new _ _) rfl (gr_one _ _ _ _ _) info_gr _ (setRow_alloc _ _ _ _) ?_)
    generalize w3.alloc (.cells #[.int .i64 g.rows, .int .i64 g.cols, .slice (some ⟨gt, 0, none⟩) g.es.length (g.es.length + 1)] 24) = w4 at *
    generalize w3.heap.size = bt at *
    have RT : ∀ w2 : World, EdsAt w2 gt (g.es ++ [markEd]) → RowsAt 3 edV w2 (some ⟨gt, 0, none⟩) g.es := fun w2 h => h.rows ⟨_, rfl⟩
    have okT := twin_ok HOK.out hlen
    have CKT := hid (fun w2 h => check_any g _ _ okT w2 (RT w2 h))
    have CMT := hid (fun w2 h => most_any g _ _ okT w2 (RT w2 h))
    have CCT := hid (fun w2 h => cover_any g _ _ okT w2 (RT w2 h))
    have CRT := hid (fun hc w2 h => refused_any g _ _ okT hc w2 (RT w2 h))
    have CMA := hid (fun L A c h1 w2 hb h2 h3 => matching_any g a cap HOK.out L A c h1 hlen w2 (HR.out.kept hb) h2 h3)
    clear RT okT
    unfold grV at *
    go_wp2_with (refine wpList_load_w rfl 24 _ rfl _ rfl _ _ _ _ (HT3.out) Try.underlying24 rfl (info_gr) ?_)
    refine (CKT.out _ HET3.out).mono ?_
    rintro e w6 ⟨rfl, hb6⟩
    have HG6 := hid (below_keep hb6 HG3.out)
    have HT6 := hid (below_keep hb6 HT3.out)
    have HET6 : Hid (EdsAt w6 gt (g.es ++ [markEd])) := hid (below_keep hb6 HET3.out)
    have HB6 := hid (HB3.out.trans (hb6.mono HB3.out.size))
    clear hb6 HG3 HT3 HET3 HB3
    by_cases k1 : chk g = true
    · have HV1 : Hid (chkV g = 0) := hid (by unfold chkV; rw [if_pos k1])
      have KOE := hid (koe_all k1)
      rw [HV1.out]
      have K1 := hid k1
      clear k1
      obtain ⟨L1, hL1⟩ : ∃ L, L = (mostAt g g.rows.toNat).l.map toP := ⟨_, rfl⟩
      obtain ⟨L2, hL2⟩ : ∃ L, L = nats (coverRows g) := ⟨_, rfl⟩
      obtain ⟨L3, hL3⟩ : ∃ L, L = nats (coverCols g) := ⟨_, rfl⟩
      have hK := KOE.out
      have HMB : Hid (matchB g L1 = true) := hid (by rw [hL1]; exact (matchB_iff _ _).2 hK.mat)
      have HRR : Hid (cabstandlaw19_rising.f (L2.length + 1) L2 g.rows = some true) := hid (by rw [hL2]; exact hK.rrise)
      have HCR : Hid (cabstandlaw19_rising.f (L3.length + 1) L3 g.cols = some true) := hid (by rw [hL3]; exact hK.crise)
      have hn1 : L1.length ≤ 64 := by rw [hL1]; exact hK.lm
      have hn2 : L2.length ≤ 64 := by rw [hL2]; exact hK.lr
      have hn3 : L3.length ≤ 64 := by rw [hL3]; exact hK.lc
      have hne : ((L2.length : Int) + (L3.length : Int) != (L1.length : Int)) = false := by
        have := hK.num
        rw [← hL1, ← hL2, ← hL3] at this
        simp; omega
      have HED : Hid (∀ x ∈ g.es, x.r ∈ L2 ∨ x.c ∈ L3) := hid (by rw [hL2, hL3]; exact hK.edges)
      have HPA : Hid (∀ p ∈ L1, decide (p.f0 ∈ L2) = !decide (p.f1 ∈ L3)) := hid (by rw [hL1, hL2, hL3]; exact hK.pairs)
      have HL1 := hid hL1
      have HL2 := hid hL2
      have HL3 := hid hL3
      clear hL1 hL2 hL3 hK KOE CRT
      have HNE := hid hne
      clear hne
      go_wp2_with (refine wpList_load_w rfl 24 _ rfl _ rfl _ _ _ _ (HT6.out) Try.underlying24 rfl (info_gr) ?_)
      refine (CMT.out _ HET6.out).mono ?_
      rintro e w8 ⟨hb8, h8⟩
      obtain ⟨_, v8, rfl, ho8⟩ := h8.resolve_left (fun h => by rw [K1.out] at h; cases h.1)
      obtain ⟨A1, d1, rfl, hl1, hC1⟩ := C_pairs' ho8 HL1.out
      have HC1 := hid hC1
      have HG8 := hid (below_keep hb8 HG6.out)
      have HT8 := hid (below_keep hb8 HT6.out)
      have HET8 : Hid (EdsAt w8 gt (g.es ++ [markEd])) := hid (below_keep hb8 HET6.out)
      have HB8 := hid (HB6.out.trans (hb8.mono HB6.out.size))
      clear h8 ho8 hb8 hC1 HG6 HT6 HET6 HB6
      go_wp2_with (refine wpList_load_w rfl 24 _ rfl _ rfl _ _ _ _ (HT8.out) Try.underlying24 rfl (info_gr) ?_)
      refine (CCT.out _ HET8.out).mono ?_
      rintro e w10 ⟨hb10, h10⟩
      obtain ⟨_, v10, v11, rfl, ho10, ho11, _⟩ := h10.resolve_left (fun h => by rw [K1.out] at h; cases h.1)
      obtain ⟨A2, d2, rfl, hl2, hC2⟩ := C_nats' ho10 HL2.out
      obtain ⟨A3, d3, rfl, hl3, hC3⟩ := C_nats' ho11 HL3.out
      have HW : Hid (KAt w w10 g a cap bt gt L1 L2 L3 A1 A2 A3) := hid ⟨below_keep hb10 HG8.out, below_keep hb10 HT8.out, below_keep hb10 HET8.out, Kd.C_below HC1.out hb10, hC2, hC3, HB8.out.trans (hb10.mono HB8.out.size)⟩
      clear h10 ho10 ho11 hb10 hC2 hC3 HG8 HT8 HET8 HB8 HC1 CKT CMT CCT HL1 HL2 HL3
      go_wp2_with (refine wpList_load_w rfl 24 _ rfl _ rfl _ _ _ _ (HW.out.box) Try.underlying24 rfl (info_gr) ?_)
      refine (CMA.out L1 A1 d1 (by omega) _ HW.out.below HW.out.c1 hl1).mono ?_
      rintro e w11 ⟨rfl, hb11⟩
      rw [HMB.out]
      have HW := hid (HW.out.next hb11)
      clear hb11
      have cg0 := row_cell HW.out.box 0 _ rfl
      go_wp2_with fail
      refine (cabstandlaw19_rising.calls _ A2 d2 L2 g.rows true _ HW.out.c2 hl2 HRR.out).mono ?_
      rintro e w12 ⟨rfl, hd12⟩
      have HW := hid (HW.out.next hd12.below)
      clear hd12 cg0
      have cg0 := row_cell HW.out.box 1 _ rfl
      go_wp2_with fail
      refine (cabstandlaw19_rising.calls _ A3 d3 L3 g.cols true _ HW.out.c3 hl3 HCR.out).mono ?_
      rintro e w13 ⟨rfl, hd13⟩
      have HW := hid (HW.out.next hd13.below)
      clear hd13 cg0
      have hne := HNE.out
      go_wp2
      clear hne
      go_loopw [9] (fun i wr => ∃ k : Nat, k ≤ g.es.length ∧ i = .int .i64 k ∧ Hid (KAt w wr g a cap bt gt L1 L2 L3 A1 A2 A3)) (fun i _ => g.es.length - (intOf i).toNat)
      case atStart => exact ⟨0, by omega, rfl, HW⟩
      case round =>
        clear HW
        obtain ⟨k, hk, rfl, HW⟩ := hrel
        have cg2 := row_cell HW.out.box 2 _ rfl
        by_cases hlt : k < g.es.length
        · obtain ⟨x, hx⟩ : ∃ x, g.es[k]? = some x := ⟨g.es[k], by simp [hlt]⟩
          obtain ⟨gg, o, rfl, hgg, hcc⟩ := (HR.out.kept HW.out.below).get hx
          have cx0 : wr.cell? ⟨gg, o + k * 3, none⟩ = some (.int .i64 x.r) := by have := hcc 0 _ rfl; rwa [Nat.mul_comm, Nat.add_zero] at this
          have cx1 : wr.cell? ⟨gg, o + k * 3 + 1, none⟩ = some (.int .i64 x.c) := by have := hcc 1 _ rfl; rwa [Nat.mul_comm] at this
          have hin := HED.out x (List.mem_of_getElem? hx)
          have hki : (k : Int) < (g.es.length : Int) := by omega
          clear hx hcc hgg
          by_cases h5 : x.r ∈ L2
          · have H5 : Hid (decide (x.r ∈ L2) = true) := hid (decide_eq_true h5)
            clear h5 hin
            go_wp2_with fail
            refine (in_any L2 A2 d2 x.r _ HW.out.c2 hl2 hn2).mono ?_
            rintro e w14 ⟨rfl, m, rfl⟩
            rw [H5.out]
            have HW := hid (HW.out.next (below_dn wr m))
            go_wp2
            go_roundw
            case rel => exact ⟨k + 1, by omega, by go_num, HW⟩
            case measure => simp [intOf]; omega
          · have H5 : Hid (decide (x.r ∈ L2) = false) := hid (decide_eq_false h5)
            have H6 : Hid (decide (x.c ∈ L3) = true) := hid (decide_eq_true (hin.resolve_left h5))
            clear h5 hin
            go_wp2_with fail
            refine (in_any L2 A2 d2 x.r _ HW.out.c2 hl2 hn2).mono ?_
            rintro e w14 ⟨rfl, m, rfl⟩
            rw [H5.out]
            have HW := hid (HW.out.next (below_dn wr m))
            go_wp2_with fail
            refine (in_any L3 A3 d3 x.c _ HW.out.c3 hl3 hn3).mono ?_
            rintro e w15 ⟨rfl, m2, rfl⟩
            rw [H6.out]
            have HW := hid (HW.out.next (below_dn _ m2))
            rw [World.drewN_drewN] at HW
            go_wp2
            go_roundw
            case rel => exact ⟨k + 1, by omega, by go_num, HW⟩
            case measure => simp [intOf]; omega
        · have hlt9 : ¬ ((k : Int) < (g.es.length : Int)) := by omega
          clear hlt hk
          go_wp2
          clear cg2 hlt9
          go_loopw [10] (fun i wr => ∃ j : Nat, j ≤ L1.length ∧ i = .int .i64 j ∧ Hid (KAt w wr g a cap bt gt L1 L2 L3 A1 A2 A3)) (fun i _ => L1.length - (intOf i).toNat)
          case atStart => exact ⟨0, by omega, rfl, HW⟩
          case round =>
            clear HW
            obtain ⟨j, hj, rfl, HW⟩ := hrel
            by_cases hlt : j < L1.length
            · obtain ⟨p, hp⟩ : ∃ p, L1[j]? = some p := ⟨L1[j], by simp [hlt]⟩
              obtain ⟨gp, op, rfl, cp0, cp1⟩ := pairs_at HW.out.c1 hp
              have hpa := HPA.out p (List.mem_of_getElem? hp)
              have hji : (j : Int) < (L1.length : Int) := by omega
              clear hp
              cases hd : decide (p.f1 ∈ L3) with
              | true =>
                rw [hd] at hpa
                have HA : Hid (decide (p.f0 ∈ L2) = false) := hid hpa
                have HD := hid hd
                clear hpa hd
                go_wp2
                go_quiet ((first | (go_at_call_of 16 (Value.slice A2 (L2.length) d2); exact in_quiet' L2 A2 d2 _ false HA.out _ HW.out.c2 hl2 hn2 _) | (go_at_call_of 16 (Value.slice A3 (L3.length) d3); exact in_quiet' L3 A3 d3 _ true HD.out _ HW.out.c3 hl3 hn3 _)))
                go_wp2
                go_roundw
                case rel => exact ⟨j + 1, by omega, by go_num, hid (HW.out.next (below_dn _ _))⟩
                case measure => simp [intOf]; omega
              | false =>
                rw [hd] at hpa
                have HA : Hid (decide (p.f0 ∈ L2) = true) := hid hpa
                have HD := hid hd
                clear hpa hd
                go_wp2
                go_quiet ((first | (go_at_call_of 16 (Value.slice A2 (L2.length) d2); exact in_quiet' L2 A2 d2 _ true HA.out _ HW.out.c2 hl2 hn2 _) | (go_at_call_of 16 (Value.slice A3 (L3.length) d3); exact in_quiet' L3 A3 d3 _ false HD.out _ HW.out.c3 hl3 hn3 _)))
                go_wp2
                go_roundw
                case rel => exact ⟨j + 1, by omega, by go_num, hid (HW.out.next (below_dn _ _))⟩
                case measure => simp [intOf]; omega
            · have hlt2 : ¬ ((j : Int) < (L1.length : Int)) := by omega
              clear hlt hj
              go_wp2
              go_ret
              exact ⟨rfl, HW.out.below⟩
    · have HV1 : Hid (chkV g = 170) := hid (by unfold chkV; rw [if_neg k1])
      rw [HV1.out]
      have K1 : Hid (chk g = false) := hid (by simpa using k1)
      clear k1
      go_wp2_with (refine wpList_load_w rfl 24 _ rfl _ rfl _ _ _ _ (HT6.out) Try.underlying24 rfl (info_gr) ?_)
      refine (CRT.out K1.out _ HET6.out).mono ?_
      rintro e w9 ⟨rfl, hb9⟩
      have HB9 := hid (HB6.out.trans (hb9.mono HB6.out.size))
      clear hb9
      go_wp2
      go_ret
      exact ⟨rfl, HB9.out⟩
end Go.Proofs.Ytjhomkdnhdhffaa.PCoverKoenig
