/- The walk of CoverCovers. -/
import Derived.Test.YtjhomkdnhdhffaaGreatMostL
namespace Go.Proofs.YtjhomkdnhdhffaaGreat
open Go.RowKit

theorem intV_flat (l : List Int) : intV l = flatV numV l := by
  induction l with
  | nil => rfl
  | cons a l ih =>
    unfold intV flatV at *
    rw [List.map_cons, List.flatMap_cons, ih]; rfl
theorem rows_ints {w : World} {base n c : Nat} {e : TypeId} {A : Option Addr} {l : List Int} (h : w.ownsRow base e 1 (.slice A n c) l.length (intV l)) : RowsAt 1 numV w A l := by
  rw [intV_flat] at h
  obtain ⟨A', c', e1, _, r⟩ := own_rows (f := numV) (s := 1) (fun _ => rfl) h
  cases e1; exact r
/-- The rows and columns that Cover answers. -/
def cR (g : Gr) : List Int := if chk g = true then nats (coverRows g) else []
def cC (g : Gr) : List Int := if chk g = true then nats (coverCols g) else []
theorem cR_len (g : Gr) : (cR g).length ≤ 64 := by
  unfold cR
  split
  · rename_i h
    have := rowsTo_len (visOf g g.rows.toNat) g.rows.toNat
    have := chk_size h
    rw [nats_len]; unfold coverRows; omega
  · simp
theorem cC_len (g : Gr) : (cC g).length ≤ 64 := by
  unfold cC
  split
  · rename_i h
    have := colsTo_len (visOf g g.rows.toNat) g.cols.toNat
    have := chk_size h
    rw [nats_len]; unfold coverCols; omega
  · simp
theorem c_yes {g : Gr} (h : chk g = true) : cR g = nats (coverRows g) ∧ cC g = nats (coverCols g) ∧ chkV g = 0 := ⟨by unfold cR; rw [if_pos h], by unfold cC; rw [if_pos h], by unfold chkV; rw [if_pos h]⟩
theorem c_no {g : Gr} (h : chk g = false) : cR g = [] ∧ cC g = [] ∧ chkV g = 170 := ⟨by unfold cR; rw [if_neg (by rw [h]; simp)], by unfold cC; rw [if_neg (by rw [h]; simp)], by unfold chkV; rw [if_neg (by rw [h]; simp)]⟩
theorem apart2_nil : Apart2 (.slice none 0 0) (.slice none 0 0) := fun b h => nomatch (show (none : Option Nat) = some b from h)
theorem CoverPost.form {w w' : World} {g : Gr} {e : Ending} (h : CoverPost w g e w') : ∃ v1 v2, e = .returned (.tuple #[v1, v2, .int .i64 (chkV g)]) ∧ w'.ownsRow w.heap.size 3 1 v1 (cR g).length (intV (cR g)) ∧ w'.ownsRow w.heap.size 3 1 v2 (cC g).length (intV (cC g)) ∧ Apart2 v1 v2 ∧ Below w.heap.size w w' := by
  obtain ⟨hb, ⟨hc, rfl⟩ | ⟨hc, v1, v2, rfl, ho1, ho2, ha⟩⟩ := h
  · obtain ⟨h1, h2, h3⟩ := c_no hc
    rw [h1, h2, h3]
    exact ⟨_, _, rfl, ownsRow_nil _ _ _ _, ownsRow_nil _ _ _ _, apart2_nil, hb⟩
  · obtain ⟨h1, h2, h3⟩ := c_yes hc
    rw [h1, h2, h3, nats_len, nats_len]
    exact ⟨_, _, rfl, ho1, ho2, ha, hb⟩
theorem RCoverPost.form {w w' : World} {g : Gr} {e : Ending} (h : RCoverPost w g e w') : ∃ v1 v2, e = .returned (.tuple #[v1, v2, .int .i64 (chkV g)]) ∧ w'.ownsRow w.heap.size 3 1 v1 (cR g).length (intV (cR g)) ∧ w'.ownsRow w.heap.size 3 1 v2 (cC g).length (intV (cC g)) ∧ Below w.heap.size w w' := by
  obtain ⟨hb, ⟨hc, rfl⟩ | ⟨hc, v1, v2, rfl, ho1, ho2⟩⟩ := h
  · obtain ⟨h1, h2, h3⟩ := c_no hc
    rw [h1, h2, h3]
    exact ⟨_, _, rfl, ownsRow_nil _ _ _ _, ownsRow_nil _ _ _ _, hb⟩
  · obtain ⟨h1, h2, h3⟩ := c_yes hc
    rw [h1, h2, h3, nats_len, nats_len]
    exact ⟨_, _, rfl, ho1, ho2, hb⟩
theorem sameInts_same (M : List Int) (A B : Option Addr) (ca cb : Nat) (la : M.length ≤ 64) (w : World) (ha : RowsAt 1 numV w A M) (hb : RowsAt 1 numV w B M) :
    Calls Tryz.prog 17 #[.slice A M.length ca, .slice B M.length cb] w fun e w' => e = .returned (.bool true) ∧ Below w.heap.size w w' :=
  (sameInts_any M M A B ca cb (by omega) (by omega) w ha hb).mono fun e w' ⟨h1, m, h2⟩ => ⟨by rw [h1]; simp, by rw [h2]; exact kp_dn _ _⟩
/-- Two lists that were answered. -/
structure L2 (W : World) (base : Nat) (R C : List Int) (A : Option Addr) (c : Nat) (B : Option Addr) (d : Nat) : Prop where
  r : W.ownsRow base 3 1 (.slice A R.length c) R.length (intV R)
  c : W.ownsRow base 3 1 (.slice B C.length d) C.length (intV C)
theorem L2.kept {W W' : World} {base c d : Nat} {R C : List Int} {A B : Option Addr} (h : L2 W base R C A c B d) (k : Below W.heap.size W W') : L2 W' base R C A c B d :=
  ⟨ownsRow_other h.r fun b hb => k.block b (ownsRow_lt h.r hb), ownsRow_other h.c fun b hb => k.block b (ownsRow_lt h.c hb)⟩

set_option maxRecDepth 100000 in
set_option maxHeartbeats 20000000 in
theorem coverCovers_any (g : Gr) (a : Option Addr) (cap : Nat) (hok : GrOk g cap) (w : World) (hr : RowsAt 3 edV w a g.es) :
    Calls Tryz.prog 4 #[grV g a cap] w fun e w' => e = .returned (.bool true) ∧ Below w.heap.size w w' := by
  have HOK := hid hok
  have HR := hid hr
  have HLC : Hid ((g.es.length : Int) ≤ 9223372036854775807) := hid (by have := hok.len; have := hok.cap; omega)
  have hlc : g.es.length ≤ 9223372036854775807 := by have := HLC.out; omega
  clear hok hr
  have gE : ∀ (A : Option Addr) (c : Nat), grV g A c = .agg #[.int .i64 g.rows, .int .i64 g.cols, .slice A g.es.length c] := fun _ _ => rfl
  rw [gE]
  go_enter Tryz.func4, Tryz.ntmps4
  go_upto_region 1 with fail
  have HG := hid (heap_alloc_new w (.cells #[.int .i64 g.rows, .int .i64 g.cols, .slice a g.es.length cap] 24))
  have HB : Hid (Below w.heap.size w (w.alloc (.cells #[.int .i64 g.rows, .int .i64 g.cols, .slice a g.es.length cap] 24))) := hid ((Below.refl _ _).alloc (Nat.le_refl _) _)
  generalize w.alloc (.cells #[.int .i64 g.rows, .int .i64 g.cols, .slice a g.es.length cap] 24) = w1 at *
  obtain ⟨gb, hgb⟩ : ∃ gb, gb = w.heap.size := ⟨_, rfl⟩
  rw [← hgb] at HG ⊢
  have HGB := hid hgb
  clear hgb
  have c2 := row_cell HG.out 2 _ rfl
  go_wp2_with fail
  have CB := beyond_any [(g.es.length : Int)] (some ⟨w1.heap.size, 0, none⟩) 1 (by simp) (by simp) (by have := HLC.out; simp; omega) (w1.alloc (.cells #[.int .i64 g.es.length] 3)) (lit_rows (f := numV) (s := 1) (l := [(g.es.length : Int)]) (fun _ => rfl) (heap_alloc_new w1 (.cells #[.int .i64 g.es.length] 3)) rfl)
  rw [show [(g.es.length : Int)].sum = (g.es.length : Int) from by simp] at CB
  refine CB.mono ?_
  clear CB
  rintro e w2 ⟨rfl, m, hm2⟩
  have hb2 : Below w1.heap.size w1 w2 := ((Below.refl w1.heap.size w1).alloc (Nat.le_refl _) (.cells #[.int .i64 g.es.length] 3)).trans (by rw [hm2]; exact ⟨rfl, rfl, rfl, Nat.le_refl _, fun _ _ => rfl⟩)
  have HG2 := hid (below_keep hb2 HG.out)
  have HB2 := hid (HB.out.trans (hb2.mono HB.out.size))
  clear hb2 hm2 HG HB c2
  by_cases hbig : 1048576 < (g.es.length : Int)
  · rw [show decide (1048576 < (g.es.length : Int)) = true from decide_eq_true hbig]
    clear hbig
    go_wp2
    go_ret
    exact ⟨rfl, HB2.out⟩
  rw [show decide (1048576 < (g.es.length : Int)) = false from decide_eq_false hbig]
  have hlen : g.es.length ≤ 1048576 := by omega
  have HLN := hid hlen
  have okT : GrOk g (g.es.length + 1) := ⟨HOK.out.rows, HOK.out.cols, HOK.out.es, by omega, by omega⟩
  have okT2 : GrOk (tG g) (g.es.length + 1) := tG_ok okT hlen
  have hlT : (tG g).es.length = g.es.length := tTo_len _ _
  have CRM := hid (fun (W : World) (h : RowsAt 3 edV W a g.es) => rcover_any g a cap HOK.out hlen W h)
  have CTW := hid (fun (W : World) (h : RowsAt 3 edV W a g.es) => twinGraph_any g a cap hlen W h)
  have CMT := hid (fun (gt : Nat) (W : World) (h : EdsAt W gt (g.es ++ [markEd])) => cover_any g (some ⟨gt, 0, none⟩) (g.es.length + 1) okT W (eds_rows h))
  have CLG : Hid (∀ (gt : Nat) (W : World), EdsAt W gt (g.es ++ [markEd]) → RowsAt 3 edV W a g.es → Calls Tryz.prog 11 #[.agg #[.int .i64 g.rows, .int .i64 g.cols, .slice (some ⟨gt, 0, none⟩) g.es.length (g.es.length + 1)], .agg #[.int .i64 g.rows, .int .i64 g.cols, .slice a g.es.length cap]] W fun e w' => e = .returned (.bool true) ∧ Below W.heap.size W w') := hid (fun gt W h h2 => leftGraph_any g gt a cap hlen W h h2)
  have CTU := hid (fun (gt : Nat) (W : World) (h : EdsAt W gt (g.es ++ [markEd])) => turned_any g gt (g.es.length + 1) okT hlen [markEd] W h)
  have gE2 : ∀ (A : Option Addr) (c : Nat), grV (tG g) A c = .agg #[.int .i64 g.rows, .int .i64 g.cols, .slice A g.es.length c] := fun A c => by show Value.agg #[.int .i64 g.rows, .int .i64 g.cols, .slice A (tG g).es.length c] = _; rw [hlT]
  have CTW2 := hid (fun (gt : Nat) (W : World) (h : EdsAt W gt ((tG g).es ++ [markEd])) => gE2 (some ⟨gt, 0, none⟩) (g.es.length + 1) ▸ twinGraph_any (tG g) (some ⟨gt, 0, none⟩) (g.es.length + 1) (by rw [hlT]; exact hlen) W (eds_rows h))
  have okT3 : GrOk (tG g) ((tG g).es.length + 1) := by rw [hlT]; exact okT2
  have CRM2 := hid (fun (g2 : Nat) (W : World) (h : EdsAt W g2 ((tG g).es ++ [markEd])) => rcover_any (tG g) (some ⟨g2, 0, none⟩) ((tG g).es.length + 1) okT3 (by rw [hlT]; exact hlen) W (eds_rows h))
  have CMT2 := hid (fun (gt : Nat) (W : World) (h : EdsAt W gt ((tG g).es ++ [markEd])) => gE2 (some ⟨gt, 0, none⟩) (g.es.length + 1) ▸ cover_any (tG g) (some ⟨gt, 0, none⟩) (g.es.length + 1) okT2 W (eds_rows h))
  rw [gE] at CRM CTW
  have gE3 : ∀ (gt : Nat), grV g (some ⟨gt, 0, none⟩) (g.es.length + 1) = .agg #[.int .i64 g.rows, .int .i64 g.cols, .slice (some ⟨gt, 0, none⟩) g.es.length (g.es.length + 1)] := fun _ => rfl
  have HLT := hid hlT
  clear hbig okT okT2 okT3 hlT gE2
  -- the copy
  go_wp2_with (refine wpList_load_w rfl 24 _ rfl _ rfl _ _ _ _ (HG2.out) Tryz.underlying24 rfl (info_gr) ?_)
  refine (CTW.out _ (HR.out.kept HB2.out)).mono ?_
  rintro e w3 ⟨gt, rfl, hgt, het, hb3⟩
  have hbA := (Below.refl w3.heap.size w3).alloc (Nat.le_refl _) (.cells #[.int .i64 g.rows, .int .i64 g.cols, .slice (some ⟨gt, 0, none⟩) g.es.length (g.es.length + 1)] 24)
  have HT4 : Hid (TS w (w3.alloc (.cells #[.int .i64 g.rows, .int .i64 g.cols, .slice (some ⟨gt, 0, none⟩) g.es.length (g.es.length + 1)] 24)) g a cap gb w3.heap.size gt g.rows g.cols g.es.length g.es) := hid
    ⟨below_keep hbA (below_keep hb3 HG2.out), heap_alloc_new _ _, below_keep hbA het, (HB2.out.trans (hb3.mono HB2.out.size)).trans (hbA.mono (by have := HB2.out.size; have := hb3.size; omega))⟩
  have HGT : Hid (w.heap.size ≤ gt ∧ gb < gt ∧ gt < w3.heap.size) := hid ⟨by have := HB2.out.size; omega, by have := heap_lt HG2.out; omega, heap_lt het⟩
  clear hbA het hgt hb3 HG2 HB2
  try rw [gE3]
  go_upto_region 4 with fail
  generalize w3.alloc (.cells #[.int .i64 g.rows, .int .i64 g.cols, .slice (some ⟨gt, 0, none⟩) g.es.length (g.es.length + 1)] 24) = w4 at *
  have HTB : Hid (gt < w3.heap.size) := hid HGT.out.2.2
  generalize w3.heap.size = tb at *
  obtain ⟨R, hM⟩ : ∃ M, M = cR g := ⟨_, rfl⟩
  obtain ⟨C, hM2⟩ : ∃ M, M = cC g := ⟨_, rfl⟩
  have HLR : Hid (R.length ≤ 64) := hid (by rw [hM]; exact cR_len g)
  have HLCC : Hid (C.length ≤ 64) := hid (by rw [hM2]; exact cC_len g)
  obtain ⟨cv, hcv⟩ : ∃ z, z = chkV g := ⟨_, rfl⟩
  have hmr : (R.length : Int) ≤ 64 := by have := HLR.out; omega
  have hmc : (C.length : Int) ≤ 64 := by have := HLCC.out; omega
  have HMR := hid hM
  have HMC := hid hM2
  have HCQ := hid hcv
  clear hM hM2 hcv
  go_wp2_with (refine wpList_load_w rfl 24 _ rfl _ rfl _ _ _ _ (HT4.out.gblk) Tryz.underlying24 rfl (info_gr) ?_)
  refine (CRM.out _ (HR.out.kept HT4.out.below)).mono ?_
  intro e w5 hp5
  obtain ⟨v1, v2, rfl, ho1, ho2, hb5⟩ := hp5.form
  rw [← HMR.out] at ho1
  rw [← HMC.out] at ho2
  rw [← HCQ.out]
  obtain ⟨Ap, cp, rfl⟩ := ownsRow_shape ho1
  obtain ⟨Aq, cq, rfl⟩ := ownsRow_shape ho2
  have HT5 := hid (HT4.out.kept hb5)
  have HP := hid (L2.mk ho1 ho2)
  clear hp5 ho1 ho2 hb5 HT4 CRM
  go_wp2_with (refine wpList_load_w rfl 24 _ rfl _ rfl _ _ _ _ (HT5.out.tblk) Tryz.underlying24 rfl (info_gr) ?_)
  refine (CMT.out gt w5 HT5.out.et).mono ?_
  intro e w6 hp6
  obtain ⟨v1, v2, rfl, ho1, ho2, hap, hb6⟩ := hp6.form
  rw [← HMR.out] at ho1
  rw [← HMC.out] at ho2
  rw [← HCQ.out]
  obtain ⟨Aa, ca, rfl⟩ := ownsRow_shape ho1
  obtain ⟨Ab, cb, rfl⟩ := ownsRow_shape ho2
  have HT := hid (HT5.out.kept hb6)
  have HB := hid hb6
  have HPn := hid (HP.out.kept hb6)
  have HA := hid (L2.mk ho1 ho2)
  have HPAB := hid hap
  clear hp6 ho1 ho2 hap hb6 HP
  have HP := HPn
  clear HPn
  go_wp2_with (refine wpList_load_w rfl 24 _ rfl _ rfl _ _ _ _ (HT.out.tblk) Tryz.underlying24 rfl (info_gr) ?_)
  refine (CMT.out gt w6 HT.out.et).mono ?_
  intro e w7 hp7
  obtain ⟨v1, v2, rfl, ho1, ho2, hap, hb⟩ := hp7.form
  rw [← HMR.out] at ho1
  rw [← HMC.out] at ho2
  rw [← HCQ.out]
  obtain ⟨Ac, cc, rfl⟩ := ownsRow_shape ho1
  obtain ⟨Ad, cd, rfl⟩ := ownsRow_shape ho2
  have HC := hid (L2.mk ho1 ho2)
  have HPCD := hid hap
  have HLT : Hid ((∀ b, (Value.slice Aa R.length ca).ownBlock = some b → b < w6.heap.size) ∧ ∀ b, (Value.slice Ab C.length cb).ownBlock = some b → b < w6.heap.size) := hid ⟨fun b hb => ownsRow_lt HA.out.r hb, fun b hb => ownsRow_lt HA.out.c hb⟩
  have HSZ6 : Hid (w5.heap.size ≤ w6.heap.size) := hid HB.out.size
  have HTn := hid (HT.out.kept hb)
  have HBn := hid (HB.out.trans (hb.mono HB.out.size))
  have HPn := hid (HP.out.kept hb)
  have HAn := hid (HA.out.kept hb)
  clear hp7 ho1 ho2 hap hb HT HB HP HA
  have HT := HTn
  have HB := HBn
  have HP := HPn
  have HA := HAn
  clear HTn HBn HPn HAn
  have hcc : (cv != cv) = false := by simp
  have Ua := hid trivial
  have Ub := hid trivial
  have Uc := hid trivial
  have Ud := hid trivial
  go_upto_region 9 with (first
    | (clear Ua; go_at_call 17; refine (sameInts_same R Aa Ap ca cp HLR.out _ (rows_ints HA.out.r) (rows_ints HP.out.r)).mono ?_; rintro e wN ⟨rfl, hb⟩; have HTn := hid (HT.out.kept hb); have HBn := hid (HB.out.trans (hb.mono HB.out.size)); have HPn := hid (HP.out.kept hb); have HAn := hid (HA.out.kept hb); have HCn := hid (HC.out.kept hb); clear HT HB HP HA HC; have HT := HTn; have HB := HBn; have HP := HPn; have HA := HAn; have HC := HCn; clear HTn HBn HPn HAn HCn; clear hb)
    | (clear Ub; go_at_call 17; refine (sameInts_same C Ab Aq cb cq HLCC.out _ (rows_ints HA.out.c) (rows_ints HP.out.c)).mono ?_; rintro e wN ⟨rfl, hb⟩; have HTn := hid (HT.out.kept hb); have HBn := hid (HB.out.trans (hb.mono HB.out.size)); have HPn := hid (HP.out.kept hb); have HAn := hid (HA.out.kept hb); have HCn := hid (HC.out.kept hb); clear HT HB HP HA HC; have HT := HTn; have HB := HBn; have HP := HPn; have HA := HAn; have HC := HCn; clear HTn HBn HPn HAn HCn; clear hb)
    | (clear Uc; go_at_call 17; refine (sameInts_same R Ac Ap cc cp HLR.out _ (rows_ints HC.out.r) (rows_ints HP.out.r)).mono ?_; rintro e wN ⟨rfl, hb⟩; have HTn := hid (HT.out.kept hb); have HBn := hid (HB.out.trans (hb.mono HB.out.size)); have HPn := hid (HP.out.kept hb); have HAn := hid (HA.out.kept hb); have HCn := hid (HC.out.kept hb); clear HT HB HP HA HC; have HT := HTn; have HB := HBn; have HP := HPn; have HA := HAn; have HC := HCn; clear HTn HBn HPn HAn HCn; clear hb)
    | (clear Ud; go_at_call 17; refine (sameInts_same C Ad Aq cd cq HLCC.out _ (rows_ints HC.out.c) (rows_ints HP.out.c)).mono ?_; rintro e wN ⟨rfl, hb⟩; have HTn := hid (HT.out.kept hb); have HBn := hid (HB.out.trans (hb.mono HB.out.size)); have HPn := hid (HP.out.kept hb); have HAn := hid (HA.out.kept hb); have HCn := hid (HC.out.kept hb); clear HT HB HP HA HC; have HT := HTn; have HB := HBn; have HP := HPn; have HA := HAn; have HC := HCn; clear HTn HBn HPn HAn HCn; clear hb)
    | (go_at_call 11; refine (CLG.out gt _ HT.out.et (HR.out.kept HT.out.below)).mono ?_; rintro e w10 ⟨rfl, hb⟩; have HTn := hid (HT.out.kept hb); have HBn := hid (HB.out.trans (hb.mono HB.out.size)); have HPn := hid (HP.out.kept hb); have HAn := hid (HA.out.kept hb); have HCn := hid (HC.out.kept hb); clear HT HB HP HA HC; have HT := HTn; have HB := HBn; have HP := HPn; have HA := HAn; have HC := HCn; clear HTn HBn HPn HAn HCn; clear hb)
    | (refine wpList_load_w rfl 24 _ rfl _ rfl _ _ _ _ (HT.out.tblk) Tryz.underlying24 rfl (info_gr) ?_)
    | (refine wpList_load_w rfl 24 _ rfl _ rfl _ _ _ _ (HT.out.gblk) Tryz.underlying24 rfl (info_gr) ?_))
  have HKA : Hid (Below w10.heap.size w10 (w10.alloc (.cells #[.int .i64 0, .slice none 0 0, .slice none 0 0, .slice none 0 0, .slice none 0 0, .slice none 0 0, .slice none 0 0, .slice none 0 0, .slice none 0 0, .slice none 0 0, .slice none 0 0, .slice none 0 0, .slice none 0 0, .slice none 0 0, .slice none 0 0, .slice none 0 0, .slice none 0 0, .slice none 0 0, .slice none 0 0, .slice none 0 0, .slice none 0 0, .slice none 0 0, .slice none 0 0, .slice none 0 0, .slice none 0 0, .slice none 0 0] 60))) := hid ((Below.refl _ _).alloc (Nat.le_refl _) _)
  have HB11 := hid (HB.out.trans (HKA.out.mono HB.out.size))
  have HBK11 := hid (book_new w10)
  have HA11 := hid (HA.out.kept HKA.out)
  have HC11 := hid (HC.out.kept HKA.out)
  have HGK : Hid (w5.heap.size ≤ w10.heap.size ∧ w10.heap.size < (w10.alloc (.cells #[.int .i64 0, .slice none 0 0, .slice none 0 0, .slice none 0 0, .slice none 0 0, .slice none 0 0, .slice none 0 0, .slice none 0 0, .slice none 0 0, .slice none 0 0, .slice none 0 0, .slice none 0 0, .slice none 0 0, .slice none 0 0, .slice none 0 0, .slice none 0 0, .slice none 0 0, .slice none 0 0, .slice none 0 0, .slice none 0 0, .slice none 0 0, .slice none 0 0, .slice none 0 0, .slice none 0 0, .slice none 0 0, .slice none 0 0] 60)).heap.size) := hid ⟨HB.out.size, by rw [alloc_size]; omega⟩
  have HXa : Hid (∀ b, (Value.slice Aa R.length ca).ownBlock = some b → w5.heap.size ≤ b ∧ b < w10.heap.size) := hid (fun b hb => ⟨ownsRow_block HA.out.r b hb, ownsRow_lt HA.out.r hb⟩)
  have HXb : Hid (∀ b, (Value.slice Ab C.length cb).ownBlock = some b → w5.heap.size ≤ b ∧ b < w10.heap.size) := hid (fun b hb => ⟨ownsRow_block HA.out.c b hb, ownsRow_lt HA.out.c hb⟩)
  have HXc : Hid (∀ b, (Value.slice Ac R.length cc).ownBlock = some b → w6.heap.size ≤ b ∧ b < w10.heap.size) := hid (fun b hb => ⟨ownsRow_block HC.out.r b hb, ownsRow_lt HC.out.r hb⟩)
  have HXd : Hid (∀ b, (Value.slice Ad C.length cd).ownBlock = some b → w6.heap.size ≤ b ∧ b < w10.heap.size) := hid (fun b hb => ⟨ownsRow_block HC.out.c b hb, ownsRow_lt HC.out.c hb⟩)
  clear HKA HB HA HC HP HT
  go_upto_region 10 with fail
  generalize w10.alloc (.cells #[.int .i64 0, .slice none 0 0, .slice none 0 0, .slice none 0 0, .slice none 0 0, .slice none 0 0, .slice none 0 0, .slice none 0 0, .slice none 0 0, .slice none 0 0, .slice none 0 0, .slice none 0 0, .slice none 0 0, .slice none 0 0, .slice none 0 0, .slice none 0 0, .slice none 0 0, .slice none 0 0, .slice none 0 0, .slice none 0 0, .slice none 0 0, .slice none 0 0, .slice none 0 0, .slice none 0 0, .slice none 0 0, .slice none 0 0] 60) = w11 at *
  generalize w10.heap.size = gk at *
  have HLR32 : Hid (R.length ≤ 4294967296) := hid (by have := HLR.out; omega)
  have HLC32 : Hid (C.length ≤ 4294967296) := hid (by have := HLCC.out; omega)
  have CK := hid (wrapInt_any (keepInt_any HBK11.out (by decide) (by decide) (LotA.empty w11 (by decide) mkInt_len) (by simp) (by omega) HLR32.out (ownsRow_mono HA11.out.r (Nat.zero_le _)) (fun j y b hj => by simp at hj)) (fun _ _ _ h => h))
  go_upto_region 11 with (go_at_call 18; refine CK.out.mono ?_; rintro e w12 ⟨⟨_, rfl⟩, fv12, hnw, hbk, hla, hkp⟩; have HNW := hid hnw; have HBK12 := hid hbk; have HLA12 := hid hla; have HKP := hid hkp; clear hnw hbk hla hkp)
  have HF12 : Hid (∀ b, fv12.ownBlock = some b → w11.heap.size ≤ b) := hid (fun b hb => by
    rcases HNW.out b hb with h | h
    · exact absurd h (by intro h; cases h)
    · exact h)
  have HSW12 : Hid (w11.heap.size ≤ w12.heap.size) := hid (by have := HKP.out.size; omega)
  have HB12 := hid (HB11.out.trans (HKP.out.toBelow HB11.out.size fun b _ hb => by
    rcases hb with rfl | hb
    · exact HGK.out.1
    · cases hb))
  have HA12 : Hid (L2 w12 _ R C _ _ _ _) := hid ⟨ownsRow_other HA11.out.r fun b hb => HKP.out.block b (ownsRow_lt HA11.out.r hb) (by
    have h9 := HXa.out b hb
    rintro (h | h)
    · have h' : b = gk := h; omega
    · cases h), ownsRow_other HA11.out.c fun b hb => HKP.out.block b (ownsRow_lt HA11.out.c hb) (by
    have h9 := HXb.out b hb
    rintro (h | h)
    · have h' : b = gk := h; omega
    · cases h)⟩
  have HC12 : Hid (L2 w12 _ R C _ _ _ _) := hid ⟨ownsRow_other HC11.out.r fun b hb => HKP.out.block b (ownsRow_lt HC11.out.r hb) (by
    have h9 := HXc.out b hb
    rintro (h | h)
    · have h' : b = gk := h; omega
    · cases h), ownsRow_other HC11.out.c fun b hb => HKP.out.block b (ownsRow_lt HC11.out.c hb) (by
    have h9 := HXd.out b hb
    rintro (h | h)
    · have h' : b = gk := h; omega
    · cases h)⟩
  clear HKP HNW CK HB11 HA11 HC11 HBK11
  have CK := hid (wrapInt_any (keepInt_any HBK12.out (by decide) (by decide) HLA12.out (by simp) (by omega) HLC32.out (ownsRow_mono HA12.out.c (Nat.zero_le _)) (fun j y b hj hb h7 => by
    have h1 : y = ⟨.slice Aa R.length ca, .slice none 0 0, 0 + 1, R.length⟩ := by
      have := List.mem_of_getElem? hj
      simpa using this
    rcases h1 with rfl
    · rcases hb with hb | hb
      · exact HPAB.out b hb h7
      · cases hb)) (fun _ _ _ h => h))
  go_upto_region 12 with (go_at_call 18; refine CK.out.mono ?_; rintro e w13 ⟨⟨_, rfl⟩, fv13, hnw, hbk, hla, hkp⟩; have HNW := hid hnw; have HBK13 := hid hbk; have HLA13 := hid hla; have HKP := hid hkp; clear hnw hbk hla hkp)
  have HF13 : Hid (∀ b, fv13.ownBlock = some b → w11.heap.size ≤ b) := hid (fun b hb => by
    rcases HNW.out b hb with h | h
    · exact HF12.out b h
    · have := HSW12.out; omega)
  have HSW13 : Hid (w11.heap.size ≤ w13.heap.size) := hid (by have := HKP.out.size; have := HSW12.out; omega)
  have HB13 := hid (HB12.out.trans (HKP.out.toBelow HB12.out.size fun b _ hb => by
    rcases hb with rfl | hb
    · exact HGK.out.1
    · have := HF12.out b hb; have := HGK.out; omega))
  have HA13 : Hid (L2 w13 _ R C _ _ _ _) := hid ⟨ownsRow_other HA12.out.r fun b hb => HKP.out.block b (ownsRow_lt HA12.out.r hb) (by
    have h9 := HXa.out b hb
    rintro (h | h)
    · have h' : b = gk := h; omega
    · have := HF12.out b h; have := HGK.out; omega), ownsRow_other HA12.out.c fun b hb => HKP.out.block b (ownsRow_lt HA12.out.c hb) (by
    have h9 := HXb.out b hb
    rintro (h | h)
    · have h' : b = gk := h; omega
    · have := HF12.out b h; have := HGK.out; omega)⟩
  have HC13 : Hid (L2 w13 _ R C _ _ _ _) := hid ⟨ownsRow_other HC12.out.r fun b hb => HKP.out.block b (ownsRow_lt HC12.out.r hb) (by
    have h9 := HXc.out b hb
    rintro (h | h)
    · have h' : b = gk := h; omega
    · have := HF12.out b h; have := HGK.out; omega), ownsRow_other HC12.out.c fun b hb => HKP.out.block b (ownsRow_lt HC12.out.c hb) (by
    have h9 := HXd.out b hb
    rintro (h | h)
    · have h' : b = gk := h; omega
    · have := HF12.out b h; have := HGK.out; omega)⟩
  clear HKP HNW CK HB12 HA12 HC12 HBK12 HLA12 HF12 HSW12
  have CK := hid (wrapInt_any (keepInt_any HBK13.out (by decide) (by decide) HLA13.out (by simp) (by omega) HLR32.out (ownsRow_mono HC13.out.r (Nat.zero_le _)) (fun j y b hj hb h7 => by
    have h1 : y = ⟨.slice Aa R.length ca, .slice none 0 0, 0 + 1, R.length⟩ ∨ y = ⟨.slice Ab C.length cb, .slice none 0 0, 0 + 1 + 1, C.length⟩ := by
      have := List.mem_of_getElem? hj
      simpa using this
    rcases h1 with rfl | rfl
    · rcases hb with hb | hb
      · have := HLT.out.1 b hb
        have := (HXc.out b h7).1
        omega
      · cases hb
    · rcases hb with hb | hb
      · have := HLT.out.2 b hb
        have := (HXc.out b h7).1
        omega
      · cases hb)) (fun _ _ _ h => h))
  go_upto_region 13 with (go_at_call 18; refine CK.out.mono ?_; rintro e w14 ⟨⟨_, rfl⟩, fv14, hnw, hbk, hla, hkp⟩; have HNW := hid hnw; have HBK14 := hid hbk; have HLA14 := hid hla; have HKP := hid hkp; clear hnw hbk hla hkp)
  have HF14 : Hid (∀ b, fv14.ownBlock = some b → w11.heap.size ≤ b) := hid (fun b hb => by
    rcases HNW.out b hb with h | h
    · exact HF13.out b h
    · have := HSW13.out; omega)
  have HSW14 : Hid (w11.heap.size ≤ w14.heap.size) := hid (by have := HKP.out.size; have := HSW13.out; omega)
  have HB14 := hid (HB13.out.trans (HKP.out.toBelow HB13.out.size fun b _ hb => by
    rcases hb with rfl | hb
    · exact HGK.out.1
    · have := HF13.out b hb; have := HGK.out; omega))
  have HA14 : Hid (L2 w14 _ R C _ _ _ _) := hid ⟨ownsRow_other HA13.out.r fun b hb => HKP.out.block b (ownsRow_lt HA13.out.r hb) (by
    have h9 := HXa.out b hb
    rintro (h | h)
    · have h' : b = gk := h; omega
    · have := HF13.out b h; have := HGK.out; omega), ownsRow_other HA13.out.c fun b hb => HKP.out.block b (ownsRow_lt HA13.out.c hb) (by
    have h9 := HXb.out b hb
    rintro (h | h)
    · have h' : b = gk := h; omega
    · have := HF13.out b h; have := HGK.out; omega)⟩
  have HC14 : Hid (L2 w14 _ R C _ _ _ _) := hid ⟨ownsRow_other HC13.out.r fun b hb => HKP.out.block b (ownsRow_lt HC13.out.r hb) (by
    have h9 := HXc.out b hb
    rintro (h | h)
    · have h' : b = gk := h; omega
    · have := HF13.out b h; have := HGK.out; omega), ownsRow_other HC13.out.c fun b hb => HKP.out.block b (ownsRow_lt HC13.out.c hb) (by
    have h9 := HXd.out b hb
    rintro (h | h)
    · have h' : b = gk := h; omega
    · have := HF13.out b h; have := HGK.out; omega)⟩
  clear HKP HNW CK HB13 HA13 HC13 HBK13 HLA13 HF13 HSW13
  have CK := hid (wrapInt_any (keepInt_any HBK14.out (by decide) (by decide) HLA14.out (by simp) (by omega) HLC32.out (ownsRow_mono HC14.out.c (Nat.zero_le _)) (fun j y b hj hb h7 => by
    have h1 : y = ⟨.slice Aa R.length ca, .slice none 0 0, 0 + 1, R.length⟩ ∨ y = ⟨.slice Ab C.length cb, .slice none 0 0, 0 + 1 + 1, C.length⟩ ∨ y = ⟨.slice Ac R.length cc, .slice none 0 0, 0 + 1 + 1 + 1, R.length⟩ := by
      have := List.mem_of_getElem? hj
      simpa using this
    rcases h1 with rfl | rfl | rfl
    · rcases hb with hb | hb
      · have := HLT.out.1 b hb
        have := (HXd.out b h7).1
        omega
      · cases hb
    · rcases hb with hb | hb
      · have := HLT.out.2 b hb
        have := (HXd.out b h7).1
        omega
      · cases hb
    · rcases hb with hb | hb
      · exact HPCD.out b hb h7
      · cases hb)) (fun _ _ _ h => h))
  go_upto_region 14 with (go_at_call 18; refine CK.out.mono ?_; rintro e w15 ⟨⟨_, rfl⟩, fv15, hnw, hbk, hla, hkp⟩; have HNW := hid hnw; have HBK15 := hid hbk; have HLA15 := hid hla; have HKP := hid hkp; clear hnw hbk hla hkp)
  have HF15 : Hid (∀ b, fv15.ownBlock = some b → w11.heap.size ≤ b) := hid (fun b hb => by
    rcases HNW.out b hb with h | h
    · exact HF14.out b h
    · have := HSW14.out; omega)
  have HSW15 : Hid (w11.heap.size ≤ w15.heap.size) := hid (by have := HKP.out.size; have := HSW14.out; omega)
  have HB15 := hid (HB14.out.trans (HKP.out.toBelow HB14.out.size fun b _ hb => by
    rcases hb with rfl | hb
    · exact HGK.out.1
    · have := HF14.out b hb; have := HGK.out; omega))
  have HA15 : Hid (L2 w15 _ R C _ _ _ _) := hid ⟨ownsRow_other HA14.out.r fun b hb => HKP.out.block b (ownsRow_lt HA14.out.r hb) (by
    have h9 := HXa.out b hb
    rintro (h | h)
    · have h' : b = gk := h; omega
    · have := HF14.out b h; have := HGK.out; omega), ownsRow_other HA14.out.c fun b hb => HKP.out.block b (ownsRow_lt HA14.out.c hb) (by
    have h9 := HXb.out b hb
    rintro (h | h)
    · have h' : b = gk := h; omega
    · have := HF14.out b h; have := HGK.out; omega)⟩
  have HC15 : Hid (L2 w15 _ R C _ _ _ _) := hid ⟨ownsRow_other HC14.out.r fun b hb => HKP.out.block b (ownsRow_lt HC14.out.r hb) (by
    have h9 := HXc.out b hb
    rintro (h | h)
    · have h' : b = gk := h; omega
    · have := HF14.out b h; have := HGK.out; omega), ownsRow_other HC14.out.c fun b hb => HKP.out.block b (ownsRow_lt HC14.out.c hb) (by
    have h9 := HXd.out b hb
    rintro (h | h)
    · have h' : b = gk := h; omega
    · have := HF14.out b h; have := HGK.out; omega)⟩
  clear HKP HNW CK HB14 HA14 HC14 HBK14 HLA14 HF14 HSW14
  have CAP := hid (apart_any (lPair := []) HBK15.out bkTypes_book HLA15.out (LotA.empty w15 (by decide) mkPair_len) (fun i hi h0 h1 => by simp [h0]))
  go_upto_region 16 with (go_at_call 13; refine CAP.out.mono ?_; rintro e w16 ⟨rfl, hkp4⟩; have HKP4 := hid hkp4; clear hkp4)
  have HB16 := hid (HB15.out.trans (HKP4.out.toBelow HB15.out.size fun b _ hb => by
    rcases hb with hb | hb
    · rcases hb with hb | ⟨j, y, hj, hy⟩
      · have := HF15.out b hb; have := HGK.out; omega
      · have hm := List.mem_of_getElem? hj
        have h3 : y = ⟨.slice Aa R.length ca, .slice none 0 0, 0 + 1, R.length⟩ ∨ y = ⟨.slice Ab C.length cb, .slice none 0 0, 0 + 1 + 1, C.length⟩ ∨ y = ⟨.slice Ac R.length cc, .slice none 0 0, 0 + 1 + 1 + 1, R.length⟩ ∨ y = ⟨.slice Ad C.length cd, .slice none 0 0, 0 + 1 + 1 + 1 + 1, C.length⟩ := by simpa using hm
        have h6 := HSZ6.out
        rcases h3 with rfl | rfl | rfl | rfl
        · rcases hy with hy | hy
          · exact (HXa.out b hy).1
          · cases hy
        · rcases hy with hy | hy
          · exact (HXb.out b hy).1
          · cases hy
        · rcases hy with hy | hy
          · have := (HXc.out b hy).1; omega
          · cases hy
        · rcases hy with hy | hy
          · have := (HXd.out b hy).1; omega
          · cases hy
    · rcases hb with hb | ⟨j, y, hj, _⟩
      · cases hb
      · simp at hj))
  have HT14 := hid (HT5.out.kept HB16.out)
  clear HB15 HB16 HKP4 HF15 HSW15 HLA15 HBK15 HA15 HC15 CAP HGK HXa HXb HXc HXd HLT HT5
  go_upto_region 17 with (first | (refine wpList_load_w rfl 24 _ rfl _ rfl _ _ _ _ (HT14.out.tblk) Tryz.underlying24 rfl (info_gr) ?_) | (go_at_call 14; refine (CTU.out gt w16 HT14.out.et).mono ?_; rintro e w17 ⟨⟨_, rfl⟩, het, hkp⟩; have HE15 := hid het; have HKP15 := hid hkp; clear het hkp))
  have HT15 : Hid (TS w w17 g a cap gb tb gt g.rows g.cols g.es.length (tG g).es) := hid ⟨HKP15.out.keep HT14.out.gblk (by have := HGT.out; omega), HKP15.out.keep HT14.out.tblk (by have := HTB.out; omega), HE15.out, HT14.out.below.trans (HKP15.out.toBelow HT14.out.below.size fun b _ hb => by have hb' : b = gt := hb; have := HGT.out; omega)⟩
  clear HT14 HKP15 HE15 CTU HMR HMC HCQ
  obtain ⟨R2, hM⟩ : ∃ M, M = cR (tG g) := ⟨_, rfl⟩
  obtain ⟨C2, hM2⟩ : ∃ M, M = cC (tG g) := ⟨_, rfl⟩
  have HLR2 : Hid (R2.length ≤ 64) := hid (by rw [hM]; exact cR_len _)
  have HLC2 : Hid (C2.length ≤ 64) := hid (by rw [hM2]; exact cC_len _)
  obtain ⟨cv2, hcv2⟩ : ∃ z, z = chkV (tG g) := ⟨_, rfl⟩
  have hmr2 : (R2.length : Int) ≤ 64 := by have := HLR2.out; omega
  have hmc2 : (C2.length : Int) ≤ 64 := by have := HLC2.out; omega
  have HMR := hid hM
  have HMC := hid hM2
  have HCQ := hid hcv2
  clear hM hM2 hcv2
  go_wp2_with (refine wpList_load_w rfl 24 _ rfl _ rfl _ _ _ _ (HT15.out.tblk) Tryz.underlying24 rfl (info_gr) ?_)
  refine (CTW2.out gt w17 HT15.out.et).mono ?_
  rintro e w18 ⟨g2, rfl, hg2, het2, hb16⟩
  have HT16 := hid (HT15.out.kept hb16)
  have HE2 := hid het2
  clear hg2 het2 hb16 HT15
  go_wp2_with fail
  refine (CRM2.out g2 w18 HE2.out).mono ?_
  intro e w19 hp19
  obtain ⟨v1, v2, rfl, ho1, ho2, hb⟩ := hp19.form
  rw [← HMR.out] at ho1
  rw [← HMC.out] at ho2
  rw [← HCQ.out]
  obtain ⟨Ae, ce, rfl⟩ := ownsRow_shape ho1
  obtain ⟨Af, cf, rfl⟩ := ownsRow_shape ho2
  have HT := hid (HT16.out.kept hb)
  have HP := hid (L2.mk ho1 ho2)
  clear hp19 ho1 ho2 hb HT16 HE2 CRM2 CTW2
  go_wp2_with (refine wpList_load_w rfl 24 _ rfl _ rfl _ _ _ _ (HT.out.tblk) Tryz.underlying24 rfl (info_gr) ?_)
  refine (CMT2.out gt w19 HT.out.et).mono ?_
  intro e w20 hp20
  obtain ⟨v1, v2, rfl, ho1, ho2, hap, hb⟩ := hp20.form
  rw [← HMR.out] at ho1
  rw [← HMC.out] at ho2
  rw [← HCQ.out]
  obtain ⟨Ag, cg, rfl⟩ := ownsRow_shape ho1
  obtain ⟨Ah, ch, rfl⟩ := ownsRow_shape ho2
  have HTn := hid (HT.out.kept hb)
  have HPn := hid (HP.out.kept hb)
  have HQ := hid (L2.mk ho1 ho2)
  clear hp20 ho1 ho2 hap hb HT HP CMT2
  have HT := HTn
  have HP := HPn
  clear HTn HPn
  have hcc2 : (cv2 == cv2) = true := by simp
  have Ua := hid trivial
  have Ub := hid trivial
  go_wp2_with (first
    | (clear Ua; go_at_call 17; refine (sameInts_same R2 Ag Ae cg ce HLR2.out _ (rows_ints HQ.out.r) (rows_ints HP.out.r)).mono ?_; rintro e wN ⟨rfl, hb⟩; have HTn := hid (HT.out.kept hb); have HPn := hid (HP.out.kept hb); have HQn := hid (HQ.out.kept hb); clear HT HP HQ; have HT := HTn; have HP := HPn; have HQ := HQn; clear HTn HPn HQn; clear hb)
    | (clear Ub; go_at_call 17; refine (sameInts_same C2 Ah Af ch cf HLC2.out _ (rows_ints HQ.out.c) (rows_ints HP.out.c)).mono ?_; rintro e wN ⟨rfl, hb⟩; have HTn := hid (HT.out.kept hb); have HPn := hid (HP.out.kept hb); have HQn := hid (HQ.out.kept hb); clear HT HP HQ; have HT := HTn; have HP := HPn; have HQ := HQn; clear HTn HPn HQn; clear hb))
  go_ret
  exact ⟨rfl, HT.out.below⟩
end Go.Proofs.YtjhomkdnhdhffaaGreat
