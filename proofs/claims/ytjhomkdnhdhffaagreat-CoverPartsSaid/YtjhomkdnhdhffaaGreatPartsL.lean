/- The walk of CoverParts. -/
import Derived.Test.YtjhomkdnhdhffaaGreatBkLs
import Derived.Test.YtjhomkdnhdhffaaGreatBkApI
namespace Go.Proofs.YtjhomkdnhdhffaaGreat
open Go.RowKit

theorem parts_len (g : Gr) (h : chk g = true) : ((parts g).map nats).length ≤ 64 ∧ ∀ x ∈ (parts g).map nats, x.length ≤ 64 := by
  have hs := chk_size h
  have hf : ∀ (p : Nat → Bool), ((List.range g.rows.toNat).filter p).length ≤ 64 := fun p => Nat.le_trans (List.length_filter_le _ _) (by rw [List.length_range]; omega)
  refine ⟨?_, fun x hx => ?_⟩
  · rw [List.length_map]; unfold parts partsOf; rw [List.length_map]; exact hf _
  · obtain ⟨y, hy, rfl⟩ := List.mem_map.1 hx
    rw [nats_len]
    unfold parts partsOf at hy
    obtain ⟨r, _, rfl⟩ := List.mem_map.1 hy
    exact hf _
/-- The parts that are answered. -/
def pL (g : Gr) : List (List Int) := if chk g = true then (parts g).map nats else []
theorem pL_len (g : Gr) : (pL g).length ≤ 64 ∧ ∀ x ∈ pL g, x.length ≤ 64 := by
  unfold pL
  split
  · rename_i h; exact parts_len g h
  · simp
section
variable {w : World} {base : Nat} {v : Value} {vs : List Value} {L : List (List Int)}
theorem LLs.outB (h : LLs TLL TI w base v vs L) {b : Nat} (hb : v.ownBlock = some b) : base ≤ b ∧ b < w.heap.size := ⟨ownsRow_block h.out b hb, ownsRow_lt h.out hb⟩
theorem LLs.rowB (h : LLs TLL TI w base v vs L) {i b : Nat} {u : Value} (hu : vs[i]? = some u) (hb : u.ownBlock = some b) : base ≤ b ∧ b < w.heap.size := by
  have hi := (List.getElem?_eq_some_iff.1 hu).1
  rw [h.length] at hi
  obtain ⟨u', h1, h2⟩ := h.each i L[i] (by simp [hi])
  rw [hu] at h1; cases h1
  exact ⟨ownsRow_block h2 b hb, ownsRow_lt h2 hb⟩
theorem LLs.rowsHB (h : LLs TLL TI w base v vs L) {n k j b : Nat} {y : HL} (hy : (rowsH vs L n k)[j]? = some y) (hb : y.has b) : base ≤ b ∧ b < w.heap.size := by
  obtain ⟨_, rfl⟩ := rowsH_get hy
  rcases hb with hb | hb
  · have h1 : (vs.getD j (.slice none 0 0)).ownBlock = some b := hb
    rw [List.getD_eq_getElem?_getD] at h1
    cases e : vs[j]? with
    | none => rw [e] at h1; cases h1
    | some u => rw [e] at h1; exact h.rowB e h1
  · cases hb
end
theorem bkTypesI : I.BkTypes 60 := ⟨by decide, by decide, by decide, by decide⟩
theorem app_get {α : Type} {l m : List α} {j : Nat} {y : α} (h : (l ++ m)[j]? = some y) : (∃ i : Nat, l[i]? = some y) ∨ ∃ i : Nat, m[i]? = some y := by
  by_cases e : j < l.length
  · rw [List.getElem?_append_left e] at h; exact .inl ⟨_, h⟩
  · rw [List.getElem?_append_right (by omega)] at h; exact .inr ⟨_, h⟩
theorem one_get {α : Type} {x y : α} {j : Nat} (h : [x][j]? = some y) : y = x := by
  have := List.mem_of_getElem? h
  simpa using this

set_option maxRecDepth 100000 in
set_option maxHeartbeats 20000000 in
theorem coverParts_any (g : Gr) (a : Option Addr) (cap : Nat) (hok : GrOk g cap) (w : World) (hr : RowsAt 3 edV w a g.es) :
    Calls Tryz.prog 3 #[grV g a cap] w fun e w' => e = .returned (.bool true) ∧ Below w.heap.size w w' := by
  have HOK := hid hok
  have HR := hid hr
  have HLC : Hid ((g.es.length : Int) ≤ 9223372036854775807) := hid (by have := hok.len; have := hok.cap; omega)
  have hlc : g.es.length ≤ 9223372036854775807 := by have := HLC.out; omega
  clear hok hr
  have gE : ∀ (A : Option Addr) (c : Nat), grV g A c = .agg #[.int .i64 g.rows, .int .i64 g.cols, .slice A g.es.length c] := fun _ _ => rfl
  rw [gE]
  go_enter Tryz.func3, Tryz.ntmps3
  go_upto_region 1 with fail
  have HG := hid (heap_alloc_new w (.cells #[.int .i64 g.rows, .int .i64 g.cols, .slice a g.es.length cap] 24))
  have HB : Hid (Below w.heap.size w (w.alloc (.cells #[.int .i64 g.rows, .int .i64 g.cols, .slice a g.es.length cap] 24))) := hid ((Below.refl _ _).alloc (Nat.le_refl _) _)
  generalize w.alloc (.cells #[.int .i64 g.rows, .int .i64 g.cols, .slice a g.es.length cap] 24) = w1 at *
  obtain ⟨gb, hgb⟩ : ∃ gb, gb = w.heap.size := ⟨_, rfl⟩
  rw [← hgb] at HG ⊢
  have HGB := hid hgb
  clear hgb
  have c2 := row_cell HG.out 2 _ rfl
  go_wp2_with fail
  have CB := beyond_any [(g.es.length : Int)] (some ⟨w1.heap.size, 0, none⟩) 1 (by simp) (by simp) (by have := HLC.out; simp; omega) (w1.alloc (.cells #[.int .i64 g.es.length] 3)) (lit_rows (f := numV) (s := 1) (l := [(g.es.length : Int)]) (fun _ => rfl) (heap_alloc_new w1 (.cells #[.int .i64 g.es.length] 3)) rfl)
  rw [show [(g.es.length : Int)].sum = (g.es.length : Int) from by simp] at CB
  refine CB.mono ?_
  clear CB
  rintro e w2 ⟨rfl, m, hm2⟩
  have hb2 : Below w1.heap.size w1 w2 := ((Below.refl w1.heap.size w1).alloc (Nat.le_refl _) (.cells #[.int .i64 g.es.length] 3)).trans (by rw [hm2]; exact ⟨rfl, rfl, rfl, Nat.le_refl _, fun _ _ => rfl⟩)
  have HG2 := hid (below_keep hb2 HG.out)
  have HB2 := hid (HB.out.trans (hb2.mono HB.out.size))
  clear hb2 hm2 HG HB c2
  by_cases hbig : 1048576 < (g.es.length : Int)
  · rw [show decide (1048576 < (g.es.length : Int)) = true from decide_eq_true hbig]
    clear hbig
    go_wp2
    go_ret
    exact ⟨rfl, HB2.out⟩
  rw [show decide (1048576 < (g.es.length : Int)) = false from decide_eq_false hbig]
  have hlen : g.es.length ≤ 1048576 := by omega
  have HLN := hid hlen
  have okT : GrOk g (g.es.length + 1) := ⟨HOK.out.rows, HOK.out.cols, HOK.out.es, by omega, by omega⟩
  have okT2 : GrOk (tG g) (g.es.length + 1) := tG_ok okT hlen
  have hlT : (tG g).es.length = g.es.length := tTo_len _ _
  have CRM := hid (fun (W : World) (h : RowsAt 3 edV W a g.es) => rparts_any g a cap HOK.out hlen W h)
  have CTW := hid (fun (W : World) (h : RowsAt 3 edV W a g.es) => twinGraph_any g a cap hlen W h)
  have CMT := hid (fun (gt : Nat) (W : World) (h : EdsAt W gt (g.es ++ [markEd])) => parts_any g (some ⟨gt, 0, none⟩) (g.es.length + 1) okT W (eds_rows h))
  have CLG : Hid (∀ (gt : Nat) (W : World), EdsAt W gt (g.es ++ [markEd]) → RowsAt 3 edV W a g.es → Calls Tryz.prog 11 #[.agg #[.int .i64 g.rows, .int .i64 g.cols, .slice (some ⟨gt, 0, none⟩) g.es.length (g.es.length + 1)], .agg #[.int .i64 g.rows, .int .i64 g.cols, .slice a g.es.length cap]] W fun e w' => e = .returned (.bool true) ∧ Below W.heap.size W w') := hid (fun gt W h h2 => leftGraph_any g gt a cap hlen W h h2)
  have CTU := hid (fun (gt : Nat) (W : World) (h : EdsAt W gt (g.es ++ [markEd])) => turned_any g gt (g.es.length + 1) okT hlen [markEd] W h)
  have gE2 : ∀ (A : Option Addr) (c : Nat), grV (tG g) A c = .agg #[.int .i64 g.rows, .int .i64 g.cols, .slice A g.es.length c] := fun A c => by show Value.agg #[.int .i64 g.rows, .int .i64 g.cols, .slice A (tG g).es.length c] = _; rw [hlT]
  have CTW2 := hid (fun (gt : Nat) (W : World) (h : EdsAt W gt ((tG g).es ++ [markEd])) => gE2 (some ⟨gt, 0, none⟩) (g.es.length + 1) ▸ twinGraph_any (tG g) (some ⟨gt, 0, none⟩) (g.es.length + 1) (by rw [hlT]; exact hlen) W (eds_rows h))
  have okT3 : GrOk (tG g) ((tG g).es.length + 1) := by rw [hlT]; exact okT2
  have CRM2 := hid (fun (g2 : Nat) (W : World) (h : EdsAt W g2 ((tG g).es ++ [markEd])) => rparts_any (tG g) (some ⟨g2, 0, none⟩) ((tG g).es.length + 1) okT3 (by rw [hlT]; exact hlen) W (eds_rows h))
  have CMT2 := hid (fun (gt : Nat) (W : World) (h : EdsAt W gt ((tG g).es ++ [markEd])) => gE2 (some ⟨gt, 0, none⟩) (g.es.length + 1) ▸ parts_any (tG g) (some ⟨gt, 0, none⟩) (g.es.length + 1) okT2 W (eds_rows h))
  rw [gE] at CRM CTW
  have gE3 : ∀ (gt : Nat), grV g (some ⟨gt, 0, none⟩) (g.es.length + 1) = .agg #[.int .i64 g.rows, .int .i64 g.cols, .slice (some ⟨gt, 0, none⟩) g.es.length (g.es.length + 1)] := fun _ => rfl
  have HLT := hid hlT
  clear hbig okT okT2 okT3 hlT gE2
  -- the copy
  go_wp2_with (refine wpList_load_w rfl 24 _ rfl _ rfl _ _ _ _ (HG2.out) Tryz.underlying24 rfl (info_gr) ?_)
  refine (CTW.out _ (HR.out.kept HB2.out)).mono ?_
  rintro e w3 ⟨gt, rfl, hgt, het, hb3⟩
  have hbA := (Below.refl w3.heap.size w3).alloc (Nat.le_refl _) (.cells #[.int .i64 g.rows, .int .i64 g.cols, .slice (some ⟨gt, 0, none⟩) g.es.length (g.es.length + 1)] 24)
  have HT4 : Hid (TS w (w3.alloc (.cells #[.int .i64 g.rows, .int .i64 g.cols, .slice (some ⟨gt, 0, none⟩) g.es.length (g.es.length + 1)] 24)) g a cap gb w3.heap.size gt g.rows g.cols g.es.length g.es) := hid
    ⟨below_keep hbA (below_keep hb3 HG2.out), heap_alloc_new _ _, below_keep hbA het, (HB2.out.trans (hb3.mono HB2.out.size)).trans (hbA.mono (by have := HB2.out.size; have := hb3.size; omega))⟩
  have HGT : Hid (w.heap.size ≤ gt ∧ gb < gt ∧ gt < w3.heap.size) := hid ⟨by have := HB2.out.size; omega, by have := heap_lt HG2.out; omega, heap_lt het⟩
  clear hbA het hgt hb3 HG2 HB2
  try rw [gE3]
  go_upto_region 4 with fail
  generalize w3.alloc (.cells #[.int .i64 g.rows, .int .i64 g.cols, .slice (some ⟨gt, 0, none⟩) g.es.length (g.es.length + 1)] 24) = w4 at *
  have HTB : Hid (gt < w3.heap.size) := hid HGT.out.2.2
  generalize w3.heap.size = tb at *
  obtain ⟨L, hM⟩ : ∃ M, M = pL g := ⟨_, rfl⟩
  have HLL : Hid (L.length ≤ 64 ∧ ∀ x ∈ L, x.length ≤ 64) := hid (by rw [hM]; exact pL_len g)
  obtain ⟨cv, hcv⟩ : ∃ z, z = chkV g := ⟨_, rfl⟩
  have hml : (L.length : Int) ≤ 64 := by have := HLL.out.1; omega
  have HMQ := hid hM
  have HCQ := hid hcv
  clear hM hcv
  go_wp2_with (refine wpList_load_w rfl 24 _ rfl _ rfl _ _ _ _ (HT4.out.gblk) Tryz.underlying24 rfl (info_gr) ?_)
  refine (CRM.out _ (HR.out.kept HT4.out.below)).mono ?_
  intro e w5 hp5
  obtain ⟨vp, vsp, rfl, hlp, hb5⟩ := hp5
  have hlp' : LLs TLL TI w5 w4.heap.size vp vsp (pL g) := hlp
  rw [← HMQ.out] at hlp'
  rw [← HCQ.out]
  obtain ⟨Ap, cp, rfl⟩ := ownsRow_shape hlp'.out
  have HT5 := hid (HT4.out.kept hb5)
  have HP := hid hlp'
  clear hlp hlp' hb5 HT4 CRM
  go_wp2_with (refine wpList_load_w rfl 24 _ rfl _ rfl _ _ _ _ (HT5.out.tblk) Tryz.underlying24 rfl (info_gr) ?_)
  refine (CMT.out gt w5 HT5.out.et).mono ?_
  intro e w6 hp6
  obtain ⟨va, vsa, rfl, hla, hb6⟩ := hp6
  have hla' : LLs TLL TI w6 w5.heap.size va vsa (pL g) := hla
  rw [← HMQ.out] at hla'
  rw [← HCQ.out]
  obtain ⟨Aa, ca, rfl⟩ := ownsRow_shape hla'.out
  have HT := hid (HT5.out.kept hb6)
  have HB := hid hb6
  have HPn := hid (HP.out.below hb6)
  have HA := hid hla'
  clear hla hla' hb6 HP
  have HP := HPn
  clear HPn
  go_wp2_with (refine wpList_load_w rfl 24 _ rfl _ rfl _ _ _ _ (HT.out.tblk) Tryz.underlying24 rfl (info_gr) ?_)
  refine (CMT.out gt w6 HT.out.et).mono ?_
  intro e w7 hp7
  obtain ⟨vb, vsb, rfl, hlb, hb⟩ := hp7
  have hlb' : LLs TLL TI w7 w6.heap.size vb vsb (pL g) := hlb
  rw [← HMQ.out] at hlb'
  rw [← HCQ.out]
  obtain ⟨Ab, cb, rfl⟩ := ownsRow_shape hlb'.out
  have HC := hid hlb'
  -- where the first answer's blocks lie
  have HLTA : Hid (∀ b, (Value.slice Aa L.length ca).ownBlock = some b → b < w6.heap.size) := hid fun b hb => (HA.out.outB hb).2
  have HLTR : Hid (∀ (n k j b : Nat) (y : HL), (rowsH vsa L n k)[j]? = some y → y.has b → b < w6.heap.size) := hid fun n k j b y h1 h2 => (HA.out.rowsHB h1 h2).2
  have HSZ6 : Hid (w5.heap.size ≤ w6.heap.size) := hid HB.out.size
  have HTn := hid (HT.out.kept hb)
  have HBn := hid (HB.out.trans (hb.mono HB.out.size))
  have HPn := hid (HP.out.below hb)
  have HAn := hid (HA.out.below hb)
  clear hlb hlb' hb HT HB HP HA
  have HT := HTn
  have HB := HBn
  have HP := HPn
  have HA := HAn
  clear HTn HBn HPn HAn
  have hcc : (cv != cv) = false := by simp
  have Ua := hid trivial
  have Ub := hid trivial
  go_upto_region 9 with (first
    | (clear Ua; go_at_call 10; refine (sameLists_same L HLL.out.1 HLL.out.2 _ HA.out HP.out).mono ?_; rintro e wN ⟨rfl, hb⟩; have HTn := hid (HT.out.kept hb); have HBn := hid (HB.out.trans (hb.mono HB.out.size)); have HPn := hid (HP.out.below hb); have HAn := hid (HA.out.below hb); have HCn := hid (HC.out.below hb); clear HT HB HP HA HC; have HT := HTn; have HB := HBn; have HP := HPn; have HA := HAn; have HC := HCn; clear HTn HBn HPn HAn HCn; clear hb)
    | (clear Ub; go_at_call 10; refine (sameLists_same L HLL.out.1 HLL.out.2 _ HC.out HP.out).mono ?_; rintro e wN ⟨rfl, hb⟩; have HTn := hid (HT.out.kept hb); have HBn := hid (HB.out.trans (hb.mono HB.out.size)); have HPn := hid (HP.out.below hb); have HAn := hid (HA.out.below hb); have HCn := hid (HC.out.below hb); clear HT HB HP HA HC; have HT := HTn; have HB := HBn; have HP := HPn; have HA := HAn; have HC := HCn; clear HTn HBn HPn HAn HCn; clear hb)
    | (go_at_call 11; refine (CLG.out gt _ HT.out.et (HR.out.kept HT.out.below)).mono ?_; rintro e w10 ⟨rfl, hb⟩; have HTn := hid (HT.out.kept hb); have HBn := hid (HB.out.trans (hb.mono HB.out.size)); have HPn := hid (HP.out.below hb); have HAn := hid (HA.out.below hb); have HCn := hid (HC.out.below hb); clear HT HB HP HA HC; have HT := HTn; have HB := HBn; have HP := HPn; have HA := HAn; have HC := HCn; clear HTn HBn HPn HAn HCn; clear hb)
    | (refine wpList_load_w rfl 24 _ rfl _ rfl _ _ _ _ (HT.out.tblk) Tryz.underlying24 rfl (info_gr) ?_)
    | (refine wpList_load_w rfl 24 _ rfl _ rfl _ _ _ _ (HT.out.gblk) Tryz.underlying24 rfl (info_gr) ?_))
  have HKA : Hid (Below w10.heap.size w10 (w10.alloc (.cells #[.int .i64 0, .slice none 0 0, .slice none 0 0, .slice none 0 0, .slice none 0 0, .slice none 0 0, .slice none 0 0, .slice none 0 0, .slice none 0 0, .slice none 0 0, .slice none 0 0, .slice none 0 0, .slice none 0 0, .slice none 0 0, .slice none 0 0, .slice none 0 0, .slice none 0 0, .slice none 0 0, .slice none 0 0, .slice none 0 0, .slice none 0 0, .slice none 0 0, .slice none 0 0, .slice none 0 0, .slice none 0 0, .slice none 0 0] 60))) := hid ((Below.refl _ _).alloc (Nat.le_refl _) _)
  have HB11 := hid (HB.out.trans (HKA.out.mono HB.out.size))
  have HBK11 := hid (book_new w10)
  have HA11 := hid (HA.out.below HKA.out)
  have HC11 := hid (HC.out.below HKA.out)
  have HGK : Hid (w5.heap.size ≤ w10.heap.size ∧ w10.heap.size < (w10.alloc (.cells #[.int .i64 0, .slice none 0 0, .slice none 0 0, .slice none 0 0, .slice none 0 0, .slice none 0 0, .slice none 0 0, .slice none 0 0, .slice none 0 0, .slice none 0 0, .slice none 0 0, .slice none 0 0, .slice none 0 0, .slice none 0 0, .slice none 0 0, .slice none 0 0, .slice none 0 0, .slice none 0 0, .slice none 0 0, .slice none 0 0, .slice none 0 0, .slice none 0 0, .slice none 0 0, .slice none 0 0, .slice none 0 0, .slice none 0 0] 60)).heap.size ∧ (w10.alloc (.cells #[.int .i64 0, .slice none 0 0, .slice none 0 0, .slice none 0 0, .slice none 0 0, .slice none 0 0, .slice none 0 0, .slice none 0 0, .slice none 0 0, .slice none 0 0, .slice none 0 0, .slice none 0 0, .slice none 0 0, .slice none 0 0, .slice none 0 0, .slice none 0 0, .slice none 0 0, .slice none 0 0, .slice none 0 0, .slice none 0 0, .slice none 0 0, .slice none 0 0, .slice none 0 0, .slice none 0 0, .slice none 0 0, .slice none 0 0] 60)).heap[w10.heap.size]? = some (.cells #[.int .i64 0, .slice none 0 0, .slice none 0 0, .slice none 0 0, .slice none 0 0, .slice none 0 0, .slice none 0 0, .slice none 0 0, .slice none 0 0, .slice none 0 0, .slice none 0 0, .slice none 0 0, .slice none 0 0, .slice none 0 0, .slice none 0 0, .slice none 0 0, .slice none 0 0, .slice none 0 0, .slice none 0 0, .slice none 0 0, .slice none 0 0, .slice none 0 0, .slice none 0 0, .slice none 0 0, .slice none 0 0, .slice none 0 0] 60 (0, 0))) := hid ⟨HB.out.size, by rw [alloc_size]; omega, heap_alloc_new _ _⟩
  clear HKA HB HA HC HP HT
  go_upto_region 10 with fail
  generalize w10.alloc (.cells #[.int .i64 0, .slice none 0 0, .slice none 0 0, .slice none 0 0, .slice none 0 0, .slice none 0 0, .slice none 0 0, .slice none 0 0, .slice none 0 0, .slice none 0 0, .slice none 0 0, .slice none 0 0, .slice none 0 0, .slice none 0 0, .slice none 0 0, .slice none 0 0, .slice none 0 0, .slice none 0 0, .slice none 0 0, .slice none 0 0, .slice none 0 0, .slice none 0 0, .slice none 0 0, .slice none 0 0, .slice none 0 0, .slice none 0 0] 60) = w11 at *
  generalize w10.heap.size = gk at *
  have CK := hid (intLists_any HBK11.out (by decide) (by decide) (by decide) (by decide) (LotA.empty w11 (by decide) mkInt_len) (LotA.empty w11 (by decide) mkIntList_len) (by simp) (by simp) (by decide) HLL.out.1 HLL.out.2 HA11.out (fun j y b hj => by simp at hj) (fun j y b i u hj => by simp at hj))
  go_upto_region 11 with (go_at_call 12; refine CK.out.mono ?_; rintro e w12 ⟨⟨_, rfl⟩, F2, hI⟩; have HI := hid hI; clear hI)
  have HF2 : Hid (∀ b, ((F2 0).ownBlock = some b ∨ (F2 21).ownBlock = some b) → w11.heap.size ≤ b) := hid (fun b hb => by
    rcases hb with hb | hb
    · rcases HI.out.new0 b hb with h | h
      · exact absurd h (by intro h; cases h)
      · exact h
    · rcases HI.out.new21 b hb with h | h
      · exact absurd h (by intro h; cases h)
      · exact h)
  have HB12 := hid (HB11.out.trans (HI.out.kp.toBelow HB11.out.size fun b _ hb => by
    rcases hb with rfl | hb | hb
    · exact HGK.out.1
    · cases hb
    · cases hb))
  have HC12 := hid (lls_kp HC11.out HI.out.kp fun b cs T fr hb hc => by
    rcases hb with rfl | hb | hb
    · rw [HGK.out.2.2] at hc; cases hc; exact ⟨by decide, by decide⟩
    · cases hb
    · cases hb)
  have HSW : Hid (w11.heap.size ≤ w12.heap.size) := hid HI.out.kp.size
  have CK2 := hid (intLists_any HI.out.bk (by decide) (by decide) (by decide) (by decide) HI.out.li HI.out.ll (by rw [List.nil_append, rowsH_len]; have := HLL.out.1; omega) (by simp) (by have := HLL.out.1; omega) HLL.out.1 HLL.out.2 HC12.out
    (fun j y b hj hb h7 => by
      rw [List.nil_append] at hj
      cases one_get hj
      have h8 := (HC12.out.outB h7).1
      rcases hb with hb | hb
      · have := HLTA.out b hb; omega
      · cases hb)
    (fun j y b i u hj hb hu h7 => by
      rw [List.nil_append] at hj
      have h8 := (HC12.out.rowB hu h7).1
      have := HLTR.out _ _ _ _ _ hj hb
      omega))
  go_upto_region 12 with (go_at_call 12; refine CK2.out.mono ?_; rintro e w13 ⟨⟨_, rfl⟩, F3, hI⟩; have HI2 := hid hI; clear hI)
  have HF3 : Hid (∀ b, ((F3 0).ownBlock = some b ∨ (F3 21).ownBlock = some b) → w11.heap.size ≤ b) := hid (fun b hb => by
    have h9 := HSW.out
    rcases hb with hb | hb
    · rcases HI2.out.new0 b hb with h | h
      · exact HF2.out b (.inl h)
      · omega
    · rcases HI2.out.new21 b hb with h | h
      · exact HF2.out b (.inr h)
      · omega)
  have HB13 := hid (HB12.out.trans (HI2.out.kp.toBelow HB12.out.size fun b _ hb => by
    have h9 := HGK.out
    rcases hb with rfl | hb
    · exact h9.1
    · have := HF2.out b hb; omega))
  have HNIL : Hid (∀ i, i < 25 → i ≠ 0 → i ≠ 21 → F3 i = .slice none 0 0) := hid fun i _ h0 h1 => (HI2.out.oth i h0 h1).trans (HI.out.oth i h0 h1)
  have CAP := hid (I.apart_any HI2.out.bk bkTypesI HI2.out.li HI2.out.ll HNIL.out)
  go_upto_region 14 with (go_at_call 13; refine CAP.out.mono ?_; rintro e w16 ⟨rfl, hkp4⟩; have HKP4 := hid hkp4; clear hkp4)
  have HB16 := hid (HB13.out.trans (HKP4.out.toBelow HB13.out.size fun b _ hb => by
    have h9 := HGK.out
    have h6 := HSZ6.out
    rcases hb with (hb | ⟨j, y, hj, hy⟩) | (hb | ⟨j, y, hj, hy⟩)
    · have := HF3.out b (.inl hb); omega
    · rw [List.nil_append] at hj
      rcases app_get hj with ⟨i, hi⟩ | ⟨i, hi⟩
      · exact (HA11.out.rowsHB hi hy).1
      · have := (HC12.out.rowsHB hi hy).1; omega
    · have := HF3.out b (.inr hb); omega
    · rw [List.nil_append] at hj
      rcases app_get hj with ⟨i, hi⟩ | ⟨i, hi⟩
      · cases one_get hi
        rcases hy with hy | hy
        · exact (HA11.out.outB hy).1
        · cases hy
      · cases one_get hi
        rcases hy with hy | hy
        · have := (HC12.out.outB hy).1; omega
        · cases hy))
  have HT14 := hid (HT5.out.kept HB16.out)
  clear HB11 HB12 HB13 HB16 HKP4 HNIL HF2 HF3 HSW HI HI2 HC12 HC11 HA11 HBK11 CK CK2 CAP HGK HLTA HLTR HT5 HSZ6
  go_upto_region 15 with (first | (refine wpList_load_w rfl 24 _ rfl _ rfl _ _ _ _ (HT14.out.tblk) Tryz.underlying24 rfl (info_gr) ?_) | (go_at_call 14; refine (CTU.out gt w16 HT14.out.et).mono ?_; rintro e w17 ⟨⟨_, rfl⟩, het, hkp⟩; have HE15 := hid het; have HKP15 := hid hkp; clear het hkp))
  have HT15 : Hid (TS w w17 g a cap gb tb gt g.rows g.cols g.es.length (tG g).es) := hid ⟨HKP15.out.keep HT14.out.gblk (by have := HGT.out; omega), HKP15.out.keep HT14.out.tblk (by have := HTB.out; omega), HE15.out, HT14.out.below.trans (HKP15.out.toBelow HT14.out.below.size fun b _ hb => by have hb' : b = gt := hb; have := HGT.out; omega)⟩
  clear HT14 HKP15 HE15 CTU HMQ HCQ
  obtain ⟨L2, hM⟩ : ∃ M, M = pL (tG g) := ⟨_, rfl⟩
  have HLL2 : Hid (L2.length ≤ 64 ∧ ∀ x ∈ L2, x.length ≤ 64) := hid (by rw [hM]; exact pL_len _)
  obtain ⟨cv2, hcv2⟩ : ∃ z, z = chkV (tG g) := ⟨_, rfl⟩
  have hml2 : (L2.length : Int) ≤ 64 := by have := HLL2.out.1; omega
  have HMQ := hid hM
  have HCQ := hid hcv2
  clear hM hcv2
  go_wp2_with (refine wpList_load_w rfl 24 _ rfl _ rfl _ _ _ _ (HT15.out.tblk) Tryz.underlying24 rfl (info_gr) ?_)
  refine (CTW2.out gt w17 HT15.out.et).mono ?_
  rintro e w18 ⟨g2, rfl, hg2, het2, hb16⟩
  have HT16 := hid (HT15.out.kept hb16)
  have HE2 := hid het2
  clear hg2 het2 hb16 HT15
  go_wp2_with fail
  refine (CRM2.out g2 w18 HE2.out).mono ?_
  intro e w19 hp19
  obtain ⟨vq, vsq, rfl, hlq, hb⟩ := hp19
  have hlq' : LLs TLL TI w19 w18.heap.size vq vsq (pL (tG g)) := hlq
  rw [← HMQ.out] at hlq'
  rw [← HCQ.out]
  obtain ⟨Aq, cq, rfl⟩ := ownsRow_shape hlq'.out
  have HT := hid (HT16.out.kept hb)
  have HP := hid hlq'
  clear hlq hlq' hb HT16 HE2 CRM2 CTW2
  go_wp2_with (refine wpList_load_w rfl 24 _ rfl _ rfl _ _ _ _ (HT.out.tblk) Tryz.underlying24 rfl (info_gr) ?_)
  refine (CMT2.out gt w19 HT.out.et).mono ?_
  intro e w20 hp20
  obtain ⟨vr, vsr, rfl, hlr, hb⟩ := hp20
  have hlr' : LLs TLL TI w20 w19.heap.size vr vsr (pL (tG g)) := hlr
  rw [← HMQ.out] at hlr'
  rw [← HCQ.out]
  obtain ⟨Ar, cr, rfl⟩ := ownsRow_shape hlr'.out
  have HT20 := hid (HT.out.kept hb)
  have HP20 := hid (HP.out.below hb)
  have HQ := hid hlr'
  clear hlr hlr' hb HT HP CMT2
  have hcc2 : (cv2 == cv2) = true := by simp
  go_wp2_with (go_at_call 10; refine (sameLists_same L2 HLL2.out.1 HLL2.out.2 _ HQ.out HP20.out).mono ?_; rintro e w21 ⟨rfl, hb⟩; have HB21 := hid (HT20.out.below.trans (hb.mono HT20.out.below.size)); clear hb)
  go_ret
  exact ⟨rfl, HB21.out⟩
end Go.Proofs.YtjhomkdnhdhffaaGreat
