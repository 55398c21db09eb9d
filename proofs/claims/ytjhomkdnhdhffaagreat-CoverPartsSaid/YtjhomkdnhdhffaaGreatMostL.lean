/- The walk of CoverMost. -/
import Derived.Test.YtjhomkdnhdhffaaGreatBkApA
import Derived.Test.YtjhomkdnhdhffaaGreatTurn
namespace Go.Proofs.YtjhomkdnhdhffaaGreat
open Go.RowKit

theorem lit_rows {α : Type} {f : α → Array Value} {s : Nat} (hs : ∀ x, (f x).size = s) {w : World} {g : Nat} {T : TypeId} {fr : Nat × Nat} {cs : Array Value} (h : w.heap[g]? = some (.cells cs T fr)) {l : List α} (hc : cs.toList = flatV f l) : RowsAt s f w (some ⟨g, 0, none⟩) l := by
  refine .inr ⟨g, 0, rfl, heap_lt h, fun i x hx j v hj => row_cell h _ _ ?_⟩
  have h9 := flatV_get hs l i x hx j v hj
  rw [← hc] at h9
  rw [show 0 + s * i + j = s * i + j by omega]
  simpa using h9
def toPr (p : Nat × Nat) : Int × Int := ((p.1 : Int), (p.2 : Int))
theorem pairV_flat (l : List (Nat × Nat)) : pairV l = flatV prV (l.map toPr) := by
  induction l with
  | nil => rfl
  | cons a l ih =>
    unfold pairV flatV at *
    rw [List.flatMap_cons, List.map_cons, List.flatMap_cons, ih]; rfl
/-- The pairs that Most answers. -/
def mL (g : Gr) : List (Int × Int) := if chk g = true then (mostAt g g.rows.toNat).l.map toPr else []
theorem mL_len (g : Gr) : (mL g).length ≤ 64 := by
  unfold mL
  split
  · rename_i h
    have := mostAt_len g g.rows.toNat
    have := chk_size h
    rw [List.length_map]; omega
  · simp
theorem MostPost.form {w w' : World} {g : Gr} {e : Ending} (h : MostPost w g e w') : ∃ v, e = .returned (.tuple #[v, .int .i64 (chkV g)]) ∧ w'.ownsRow w.heap.size 100 2 v (mL g).length (flatV prV (mL g)) ∧ Below w.heap.size w w' := by
  obtain ⟨hb, ⟨hc, rfl⟩ | ⟨hc, v, rfl, ho⟩⟩ := h
  · have h1 : mL g = [] := by unfold mL; rw [if_neg (by rw [hc]; simp)]
    refine ⟨.slice none 0 0, by unfold chkV; rw [if_neg (by rw [hc]; simp)], ?_, hb⟩
    rw [h1]; exact ownsRow_nil _ _ _ _
  · refine ⟨v, by unfold chkV; rw [if_pos hc], ?_, hb⟩
    have h1 : mL g = (mostAt g g.rows.toNat).l.map toPr := by unfold mL; rw [if_pos hc]
    rw [h1, List.length_map, ← pairV_flat]; exact ho
theorem rows_own {w : World} {base n c : Nat} {e : TypeId} {A : Option Addr} {l : List (Int × Int)} (h : w.ownsRow base e 2 (.slice A n c) l.length (flatV prV l)) : RowsAt 2 prV w A l := by
  obtain ⟨A', c', e1, _, r⟩ := own_rows (f := prV) (s := 2) (fun _ => rfl) h
  cases e1; exact r

theorem samePairs_same (M : List (Int × Int)) (A B : Option Addr) (ca cb : Nat) (la : M.length ≤ 64) (w : World) (ha : RowsAt 2 prV w A M) (hb : RowsAt 2 prV w B M) :
    Calls Tryz.prog 21 #[.slice A M.length ca, .slice B M.length cb] w fun e w' => e = .returned (.bool true) ∧ Below w.heap.size w w' :=
  (samePairs_any M M A B ca cb (by omega) (by omega) w ha hb).mono fun e w' ⟨h1, m, h2⟩ => ⟨by rw [h1]; simp, by rw [h2]; exact kp_dn _ _⟩
/-- The law's state: the graph's block, the copy's. -/
structure TS (w wr : World) (g : Gr) (a : Option Addr) (cap gb tb gt : Nat) (R C : Int) (n : Nat) (es : List Ed) : Prop where
  gblk : wr.heap[gb]? = some (.cells #[.int .i64 g.rows, .int .i64 g.cols, .slice a g.es.length cap] 24 (0, 0))
  tblk : wr.heap[tb]? = some (.cells #[.int .i64 R, .int .i64 C, .slice (some ⟨gt, 0, none⟩) n (n + 1)] 24 (0, 0))
  et : EdsAt wr gt (es ++ [markEd])
  below : Below w.heap.size w wr
theorem TS.kept {w wr w' : World} {g : Gr} {a : Option Addr} {cap gb tb gt n : Nat} {R C : Int} {es : List Ed} (h : TS w wr g a cap gb tb gt R C n es) (k : Below wr.heap.size wr w') : TS w w' g a cap gb tb gt R C n es :=
  ⟨below_keep k h.gblk, below_keep k h.tblk, below_keep k h.et, h.below.trans (k.mono h.below.size)⟩
theorem eds_rows {w : World} {gt : Nat} {es : List Ed} (h : EdsAt w gt (es ++ [markEd])) : RowsAt 3 edV w (some ⟨gt, 0, none⟩) es := h.rows ⟨_, rfl⟩
/-- A new book. -/
theorem book_new (w : World) : BookAt (w.alloc (.cells #[.int .i64 0, .slice none 0 0, .slice none 0 0, .slice none 0 0, .slice none 0 0, .slice none 0 0, .slice none 0 0, .slice none 0 0, .slice none 0 0, .slice none 0 0, .slice none 0 0, .slice none 0 0, .slice none 0 0, .slice none 0 0, .slice none 0 0, .slice none 0 0, .slice none 0 0, .slice none 0 0, .slice none 0 0, .slice none 0 0, .slice none 0 0, .slice none 0 0, .slice none 0 0, .slice none 0 0, .slice none 0 0, .slice none 0 0] 60)) 60 w.heap.size 0 0 (fun _ => .slice none 0 0) := by
  refine ⟨_, heap_alloc_new _ _, rfl, fun i hi => ?_⟩
  have h1 : (#[.int .i64 0, .slice none 0 0, .slice none 0 0, .slice none 0 0, .slice none 0 0, .slice none 0 0, .slice none 0 0, .slice none 0 0, .slice none 0 0, .slice none 0 0, .slice none 0 0, .slice none 0 0, .slice none 0 0, .slice none 0 0, .slice none 0 0, .slice none 0 0, .slice none 0 0, .slice none 0 0, .slice none 0 0, .slice none 0 0, .slice none 0 0, .slice none 0 0, .slice none 0 0, .slice none 0 0, .slice none 0 0, .slice none 0 0] : Array Value) = (Value.int .i64 0 :: List.replicate 25 (Value.slice none 0 0)).toArray := rfl
  rw [h1, Nat.zero_add, List.getElem?_toArray, List.getElem?_cons_succ, List.getElem?_replicate, if_pos hi]
theorem bkTypes_book : BkTypes 60 := ⟨by decide, by decide, by decide, by decide⟩

set_option maxRecDepth 100000 in
set_option maxHeartbeats 8000000 in
theorem coverMost_any (g : Gr) (a : Option Addr) (cap : Nat) (hok : GrOk g cap) (w : World) (hr : RowsAt 3 edV w a g.es) :
    Calls Tryz.prog 5 #[grV g a cap] w fun e w' => e = .returned (.bool true) ∧ Below w.heap.size w w' := by
  have HOK := hid hok
  have HR := hid hr
  have HLC : Hid ((g.es.length : Int) ≤ 9223372036854775807) := hid (by have := hok.len; have := hok.cap; omega)
  have hlc : g.es.length ≤ 9223372036854775807 := by have := HLC.out; omega
  clear hok hr
  have gE : ∀ (A : Option Addr) (c : Nat), grV g A c = .agg #[.int .i64 g.rows, .int .i64 g.cols, .slice A g.es.length c] := fun _ _ => rfl
  rw [gE]
  go_enter Tryz.func5, Tryz.ntmps5
  go_upto_region 1 with fail
  have HG := hid (heap_alloc_new w (.cells #[.int .i64 g.rows, .int .i64 g.cols, .slice a g.es.length cap] 24))
  have HB : Hid (Below w.heap.size w (w.alloc (.cells #[.int .i64 g.rows, .int .i64 g.cols, .slice a g.es.length cap] 24))) := hid ((Below.refl _ _).alloc (Nat.le_refl _) _)
  generalize w.alloc (.cells #[.int .i64 g.rows, .int .i64 g.cols, .slice a g.es.length cap] 24) = w1 at *
  obtain ⟨gb, hgb⟩ : ∃ gb, gb = w.heap.size := ⟨_, rfl⟩
  rw [← hgb] at HG ⊢
  have HGB := hid hgb
  clear hgb
  have c2 := row_cell HG.out 2 _ rfl
  go_wp2_with fail
  have CB := beyond_any [(g.es.length : Int)] (some ⟨w1.heap.size, 0, none⟩) 1 (by simp) (by simp) (by have := HLC.out; simp; omega) (w1.alloc (.cells #[.int .i64 g.es.length] 3)) (lit_rows (f := numV) (s := 1) (l := [(g.es.length : Int)]) (fun _ => rfl) (heap_alloc_new w1 (.cells #[.int .i64 g.es.length] 3)) rfl)
  rw [show [(g.es.length : Int)].sum = (g.es.length : Int) from by simp] at CB
  refine CB.mono ?_
  clear CB
  rintro e w2 ⟨rfl, m, hm2⟩
  have hb2 : Below w1.heap.size w1 w2 := ((Below.refl w1.heap.size w1).alloc (Nat.le_refl _) (.cells #[.int .i64 g.es.length] 3)).trans (by rw [hm2]; exact ⟨rfl, rfl, rfl, Nat.le_refl _, fun _ _ => rfl⟩)
  have HG2 := hid (below_keep hb2 HG.out)
  have HB2 := hid (HB.out.trans (hb2.mono HB.out.size))
  clear hb2 hm2 HG HB c2
  by_cases hbig : 1048576 < (g.es.length : Int)
  · rw [show decide (1048576 < (g.es.length : Int)) = true from decide_eq_true hbig]
    clear hbig
    go_wp2
    go_ret
    exact ⟨rfl, HB2.out⟩
  rw [show decide (1048576 < (g.es.length : Int)) = false from decide_eq_false hbig]
  have hlen : g.es.length ≤ 1048576 := by omega
  have HLN := hid hlen
  have okT : GrOk g (g.es.length + 1) := ⟨HOK.out.rows, HOK.out.cols, HOK.out.es, by omega, by omega⟩
  have okT2 : GrOk (tG g) (g.es.length + 1) := tG_ok okT hlen
  have hlT : (tG g).es.length = g.es.length := tTo_len _ _
  have CRM := hid (fun (W : World) (h : RowsAt 3 edV W a g.es) => rmost_any g a cap HOK.out hlen W h)
  have CTW := hid (fun (W : World) (h : RowsAt 3 edV W a g.es) => twinGraph_any g a cap hlen W h)
  have CMT := hid (fun (gt : Nat) (W : World) (h : EdsAt W gt (g.es ++ [markEd])) => most_any g (some ⟨gt, 0, none⟩) (g.es.length + 1) okT W (eds_rows h))
  have CLG : Hid (∀ (gt : Nat) (W : World), EdsAt W gt (g.es ++ [markEd]) → RowsAt 3 edV W a g.es → Calls Tryz.prog 11 #[.agg #[.int .i64 g.rows, .int .i64 g.cols, .slice (some ⟨gt, 0, none⟩) g.es.length (g.es.length + 1)], .agg #[.int .i64 g.rows, .int .i64 g.cols, .slice a g.es.length cap]] W fun e w' => e = .returned (.bool true) ∧ Below W.heap.size W w') := hid (fun gt W h h2 => leftGraph_any g gt a cap hlen W h h2)
  have CTU := hid (fun (gt : Nat) (W : World) (h : EdsAt W gt (g.es ++ [markEd])) => turned_any g gt (g.es.length + 1) okT hlen [markEd] W h)
  have gE2 : ∀ (A : Option Addr) (c : Nat), grV (tG g) A c = .agg #[.int .i64 g.rows, .int .i64 g.cols, .slice A g.es.length c] := fun A c => by show Value.agg #[.int .i64 g.rows, .int .i64 g.cols, .slice A (tG g).es.length c] = _; rw [hlT]
  have CTW2 := hid (fun (gt : Nat) (W : World) (h : EdsAt W gt ((tG g).es ++ [markEd])) => gE2 (some ⟨gt, 0, none⟩) (g.es.length + 1) ▸ twinGraph_any (tG g) (some ⟨gt, 0, none⟩) (g.es.length + 1) (by rw [hlT]; exact hlen) W (eds_rows h))
  have okT3 : GrOk (tG g) ((tG g).es.length + 1) := by rw [hlT]; exact okT2
  have CRM2 := hid (fun (g2 : Nat) (W : World) (h : EdsAt W g2 ((tG g).es ++ [markEd])) => rmost_any (tG g) (some ⟨g2, 0, none⟩) ((tG g).es.length + 1) okT3 (by rw [hlT]; exact hlen) W (eds_rows h))
  have CMT2 := hid (fun (gt : Nat) (W : World) (h : EdsAt W gt ((tG g).es ++ [markEd])) => gE2 (some ⟨gt, 0, none⟩) (g.es.length + 1) ▸ most_any (tG g) (some ⟨gt, 0, none⟩) (g.es.length + 1) okT2 W (eds_rows h))
  rw [gE] at CRM CTW
  have gE3 : ∀ (gt : Nat), grV g (some ⟨gt, 0, none⟩) (g.es.length + 1) = .agg #[.int .i64 g.rows, .int .i64 g.cols, .slice (some ⟨gt, 0, none⟩) g.es.length (g.es.length + 1)] := fun _ => rfl
  have HLT := hid hlT
  clear hbig okT okT2 okT3 hlT gE2
  -- the copy
  go_wp2_with (refine wpList_load_w rfl 24 _ rfl _ rfl _ _ _ _ (HG2.out) Tryz.underlying24 rfl (info_gr) ?_)
  refine (CTW.out _ (HR.out.kept HB2.out)).mono ?_
  rintro e w3 ⟨gt, rfl, hgt, het, hb3⟩
  have hbA := (Below.refl w3.heap.size w3).alloc (Nat.le_refl _) (.cells #[.int .i64 g.rows, .int .i64 g.cols, .slice (some ⟨gt, 0, none⟩) g.es.length (g.es.length + 1)] 24)
  have HT4 : Hid (TS w (w3.alloc (.cells #[.int .i64 g.rows, .int .i64 g.cols, .slice (some ⟨gt, 0, none⟩) g.es.length (g.es.length + 1)] 24)) g a cap gb w3.heap.size gt g.rows g.cols g.es.length g.es) := hid
    ⟨below_keep hbA (below_keep hb3 HG2.out), heap_alloc_new _ _, below_keep hbA het, (HB2.out.trans (hb3.mono HB2.out.size)).trans (hbA.mono (by have := HB2.out.size; have := hb3.size; omega))⟩
  have HGT : Hid (w.heap.size ≤ gt ∧ gb < gt ∧ gt < w3.heap.size) := hid ⟨by have := HB2.out.size; omega, by have := heap_lt HG2.out; omega, heap_lt het⟩
  clear hbA het hgt hb3 HG2 HB2
  try rw [gE3]
  go_upto_region 4 with fail
  generalize w3.alloc (.cells #[.int .i64 g.rows, .int .i64 g.cols, .slice (some ⟨gt, 0, none⟩) g.es.length (g.es.length + 1)] 24) = w4 at *
  have HTB : Hid (gt < w3.heap.size) := hid HGT.out.2.2
  generalize w3.heap.size = tb at *
  -- the reference's answer
  obtain ⟨M, hM⟩ : ∃ M, M = mL g := ⟨_, rfl⟩
  have HML : Hid (M.length ≤ 64) := hid (by rw [hM]; exact mL_len g)
  obtain ⟨cv, hcv⟩ : ∃ z, z = chkV g := ⟨_, rfl⟩
  have hml : (M.length : Int) ≤ 64 := by have := HML.out; omega
  have HMQ := hid hM
  have HCQ := hid hcv
  clear hM hcv
  go_wp2_with (refine wpList_load_w rfl 24 _ rfl _ rfl _ _ _ _ (HT4.out.gblk) Tryz.underlying24 rfl (info_gr) ?_)
  refine (CRM.out _ (HR.out.kept HT4.out.below)).mono ?_
  intro e w5 hp5
  obtain ⟨v5, rfl, ho5, hb5⟩ := hp5.form
  rw [← HMQ.out] at ho5
  rw [← HCQ.out]
  have HT5 := hid (HT4.out.kept hb5)
  have HO5 := hid ho5
  clear hp5 ho5 hb5 HT4 CRM
  -- the program's two answers
  go_wp2_with (refine wpList_load_w rfl 24 _ rfl _ rfl _ _ _ _ (HT5.out.tblk) Tryz.underlying24 rfl (info_gr) ?_)
  refine (CMT.out gt w5 HT5.out.et).mono ?_
  intro e w6 hp6
  obtain ⟨v6, rfl, ho6, hb6⟩ := hp6.form
  rw [← HMQ.out] at ho6
  rw [← HCQ.out]
  have HT6 := hid (HT5.out.kept hb6)
  have HB6 := hid hb6
  have HO56 := hid (ownsRow_other HO5.out fun b hb => hb6.block b (ownsRow_lt HO5.out hb))
  have HO6 := hid ho6
  clear hp6 ho6 hb6
  go_wp2_with (refine wpList_load_w rfl 24 _ rfl _ rfl _ _ _ _ (HT6.out.tblk) Tryz.underlying24 rfl (info_gr) ?_)
  refine (CMT.out gt w6 HT6.out.et).mono ?_
  intro e w7 hp7
  obtain ⟨v7, rfl, ho7, hb7⟩ := hp7.form
  rw [← HMQ.out] at ho7
  rw [← HCQ.out]
  have HT7 := hid (HT6.out.kept hb7)
  have HB7 := hid (HB6.out.trans (hb7.mono HB6.out.size))
  have HO57 := hid (ownsRow_other HO56.out fun b hb => hb7.block b (ownsRow_lt HO56.out hb))
  have HO67 := hid (ownsRow_other HO6.out fun b hb => hb7.block b (ownsRow_lt HO6.out hb))
  have HO7 := hid ho7
  have HSZ6 : Hid (w5.heap.size ≤ w6.heap.size) := hid HB6.out.size
  have HLT67 : Hid (∀ b, v6.ownBlock = some b → b < w6.heap.size) := hid (fun b hb => ownsRow_lt HO6.out hb)
  clear hp7 ho7 hb7 HT6 HO5 HO56 HO6 HB6
  obtain ⟨A5, c5, rfl⟩ := ownsRow_shape HO57.out
  obtain ⟨A6, c6, rfl⟩ := ownsRow_shape HO67.out
  obtain ⟨A7, c7, rfl⟩ := ownsRow_shape HO7.out
  have hcc : (cv != cv) = false := by simp
  -- they are the same, and the copy is left as it was
  go_upto_region 9 with (first
    | (go_at_call 21; refine (samePairs_same M A6 A5 c6 c5 HML.out _ (rows_own HO67.out) (rows_own HO57.out)).mono ?_; rintro e w8 ⟨rfl, hb8⟩; have HT8 := hid (HT7.out.kept hb8); have HB8 := hid (HB7.out.trans (hb8.mono HB7.out.size)); have HO58 := hid (ownsRow_other HO57.out fun b hb => hb8.block b (ownsRow_lt HO57.out hb)); have HO68 := hid (ownsRow_other HO67.out fun b hb => hb8.block b (ownsRow_lt HO67.out hb)); have HO78 := hid (ownsRow_other HO7.out fun b hb => hb8.block b (ownsRow_lt HO7.out hb)); clear hb8 HT7 HB7 HO57 HO67 HO7)
    | (go_at_call 21; refine (samePairs_same M A7 A5 c7 c5 HML.out _ (rows_own HO78.out) (rows_own HO58.out)).mono ?_; rintro e w9 ⟨rfl, hb9⟩; have HT9 := hid (HT8.out.kept hb9); have HB9 := hid (HB8.out.trans (hb9.mono HB8.out.size)); have HO69 := hid (ownsRow_other HO68.out fun b hb => hb9.block b (ownsRow_lt HO68.out hb)); have HO79 := hid (ownsRow_other HO78.out fun b hb => hb9.block b (ownsRow_lt HO78.out hb)); clear hb9 HT8 HB8 HO58 HO68 HO78)
    | (go_at_call 11; refine (CLG.out gt _ HT9.out.et (HR.out.kept HT9.out.below)).mono ?_; rintro e w10 ⟨rfl, hb10⟩; have HT10 := hid (HT9.out.kept hb10); have HB10 := hid (HB9.out.trans (hb10.mono HB9.out.size)); have HO610 := hid (ownsRow_other HO69.out fun b hb => hb10.block b (ownsRow_lt HO69.out hb)); have HO710 := hid (ownsRow_other HO79.out fun b hb => hb10.block b (ownsRow_lt HO79.out hb)); clear hb10 HT9 HB9 HO69 HO79)
    | (refine wpList_load_w rfl 24 _ rfl _ rfl _ _ _ _ (HT9.out.tblk) Tryz.underlying24 rfl (info_gr) ?_)
    | (refine wpList_load_w rfl 24 _ rfl _ rfl _ _ _ _ (HT9.out.gblk) Tryz.underlying24 rfl (info_gr) ?_))
  have HKA : Hid (Below w10.heap.size w10 (w10.alloc (.cells #[.int .i64 0, .slice none 0 0, .slice none 0 0, .slice none 0 0, .slice none 0 0, .slice none 0 0, .slice none 0 0, .slice none 0 0, .slice none 0 0, .slice none 0 0, .slice none 0 0, .slice none 0 0, .slice none 0 0, .slice none 0 0, .slice none 0 0, .slice none 0 0, .slice none 0 0, .slice none 0 0, .slice none 0 0, .slice none 0 0, .slice none 0 0, .slice none 0 0, .slice none 0 0, .slice none 0 0, .slice none 0 0, .slice none 0 0] 60))) := hid ((Below.refl _ _).alloc (Nat.le_refl _) _)
  have HB11 := hid (HB10.out.trans (HKA.out.mono HB10.out.size))
  have HBK11 := hid (book_new w10)
  have HO611 := hid (ownsRow_other HO610.out fun b hb => HKA.out.block b (ownsRow_lt HO610.out hb))
  have HO711 := hid (ownsRow_other HO710.out fun b hb => HKA.out.block b (ownsRow_lt HO710.out hb))
  have HGK : Hid (w5.heap.size ≤ w10.heap.size ∧ w10.heap.size < (w10.alloc (.cells #[.int .i64 0, .slice none 0 0, .slice none 0 0, .slice none 0 0, .slice none 0 0, .slice none 0 0, .slice none 0 0, .slice none 0 0, .slice none 0 0, .slice none 0 0, .slice none 0 0, .slice none 0 0, .slice none 0 0, .slice none 0 0, .slice none 0 0, .slice none 0 0, .slice none 0 0, .slice none 0 0, .slice none 0 0, .slice none 0 0, .slice none 0 0, .slice none 0 0, .slice none 0 0, .slice none 0 0, .slice none 0 0, .slice none 0 0] 60)).heap.size) := hid ⟨HB10.out.size, by rw [alloc_size]; omega⟩
  have HV6 := hid (ownsRow_block HO610.out)
  have HV7 := hid (ownsRow_block HO710.out)
  have HN6 : Hid (∀ b, (Value.slice A6 M.length c6).ownBlock = some b → b ≠ w10.heap.size) := hid (fun b hb => by have := ownsRow_lt HO610.out hb; omega)
  have HN7 : Hid (∀ b, (Value.slice A7 M.length c7).ownBlock = some b → b ≠ w10.heap.size) := hid (fun b hb => by have := ownsRow_lt HO710.out hb; omega)
  clear HKA HB10 HO610 HO710 HT10
  go_upto_region 10 with fail
  generalize w10.alloc (.cells #[.int .i64 0, .slice none 0 0, .slice none 0 0, .slice none 0 0, .slice none 0 0, .slice none 0 0, .slice none 0 0, .slice none 0 0, .slice none 0 0, .slice none 0 0, .slice none 0 0, .slice none 0 0, .slice none 0 0, .slice none 0 0, .slice none 0 0, .slice none 0 0, .slice none 0 0, .slice none 0 0, .slice none 0 0, .slice none 0 0, .slice none 0 0, .slice none 0 0, .slice none 0 0, .slice none 0 0, .slice none 0 0, .slice none 0 0] 60) = w11 at *
  generalize w10.heap.size = gk at *
  have HML32 : Hid (M.length ≤ 4294967296) := hid (by have := HML.out; omega)
  -- both answers are kept
  have CK1 := hid (wrapPair_any (keepPair_any HBK11.out (by decide) (by decide) (LotA.empty w11 (by decide) mkPair_len) (by simp) (by omega) HML32.out (ownsRow_mono HO611.out (Nat.zero_le _)) (fun j y b hj => by simp at hj)) (fun _ _ _ h => h))
  go_upto_region 11 with (go_at_call 22; refine CK1.out.mono ?_; rintro e w12 ⟨⟨_, rfl⟩, fv2, hnw2, hbk2, hla2, hkp2⟩; have HNW2 := hid hnw2; have HBK12 := hid hbk2; have HLA2 := hid hla2; have HKP2 := hid hkp2; clear hnw2 hbk2 hla2 hkp2)
  have HB12 := hid (HB11.out.trans (HKP2.out.toBelow HB11.out.size fun b _ hb => by
    rcases hb with rfl | hb
    · exact HGK.out.1
    · cases hb))
  have HO712 := hid (ownsRow_other HO711.out fun b hb => HKP2.out.block b (ownsRow_lt HO711.out hb) (by
    rintro (h | h)
    · exact HN7.out b hb h
    · cases h))
  have CK2 := hid (wrapPair_any (keepPair_any HBK12.out (by decide) (by decide) HLA2.out (by simp) (by omega) HML32.out (ownsRow_mono HO712.out (Nat.zero_le _)) (fun j y b hj hb h7 => by
    have h1 : y = ⟨.slice A6 M.length c6, .slice none 0 0, 0 + 1, M.length⟩ := by
      have := List.mem_of_getElem? hj
      simpa using this
    subst h1
    rcases hb with hb | hb
    · have := HLT67.out b hb
      have := HV7.out b h7
      omega
    · cases hb)) (fun _ _ _ h => h))
  go_upto_region 12 with (go_at_call 22; refine CK2.out.mono ?_; rintro e w13 ⟨⟨_, rfl⟩, fv3, hnw3, hbk3, hla3, hkp3⟩; have HNW3 := hid hnw3; have HBK13 := hid hbk3; have HLA3 := hid hla3; have HKP3 := hid hkp3; clear hnw3 hbk3 hla3 hkp3)
  have HF2 : Hid (∀ b, fv2.ownBlock = some b → w5.heap.size ≤ b) := hid (fun b hb => by
    rcases HNW2.out b hb with h | h
    · cases h
    · have := HB11.out.size; omega)
  have HF3 : Hid (∀ b, fv3.ownBlock = some b → w5.heap.size ≤ b) := hid (fun b hb => by
    rcases HNW3.out b hb with h | h
    · exact HF2.out b h
    · have := HB12.out.size; omega)
  have HB13 := hid (HB12.out.trans (HKP3.out.toBelow HB12.out.size fun b _ hb => by
    rcases hb with rfl | hb
    · exact HGK.out.1
    · exact HF2.out b hb))
  have CAP := hid (apart_any (lInt := []) HBK13.out bkTypes_book (LotA.empty w13 (by decide) mkInt_len) HLA3.out (fun i hi h0 h1 => by simp [h1]))
  go_upto_region 14 with (go_at_call 13; refine CAP.out.mono ?_; rintro e w14 ⟨rfl, hkp4⟩; have HKP4 := hid hkp4; clear hkp4)
  have HB14 := hid (HB13.out.trans (HKP4.out.toBelow HB13.out.size fun b _ hb => by
    rcases hb with hb | hb
    · rcases hb with hb | ⟨j, y, hj, _⟩
      · cases hb
      · simp at hj
    · rcases hb with hb | ⟨j, y, hj, hy⟩
      · exact HF3.out b hb
      · have hm := List.mem_of_getElem? hj
        have h3 : y = ⟨.slice A6 M.length c6, .slice none 0 0, 0 + 1, M.length⟩ ∨ y = ⟨.slice A7 M.length c7, .slice none 0 0, 0 + 1 + 1, M.length⟩ := by simpa using hm
        rcases h3 with rfl | rfl
        · rcases hy with hy | hy
          · exact HV6.out b hy
          · cases hy
        · rcases hy with hy | hy
          · have := HV7.out b hy; have := HSZ6.out; omega
          · cases hy))
  have HT14 := hid (HT5.out.kept HB14.out)
  clear HB11 HB12 HB13 HB14 HKP2 HKP3 HKP4 HNW2 HNW3 HF2 HF3 HLA2 HLA3 HBK11 HBK12 HBK13 HO611 HO711 HO712 CK1 CK2 CAP HGK HN6 HN7 HV6 HV7 HLT67 HT5
  -- the copy is written over, and asked anew
  go_upto_region 15 with (first | (refine wpList_load_w rfl 24 _ rfl _ rfl _ _ _ _ (HT14.out.tblk) Tryz.underlying24 rfl (info_gr) ?_) | (go_at_call 14; refine (CTU.out gt w14 HT14.out.et).mono ?_; rintro e w15 ⟨⟨_, rfl⟩, het, hkp⟩; have HE15 := hid het; have HKP15 := hid hkp; clear het hkp))
  have HT15 : Hid (TS w w15 g a cap gb tb gt g.rows g.cols g.es.length (tG g).es) := hid ⟨HKP15.out.keep HT14.out.gblk (by have := HGT.out; omega), HKP15.out.keep HT14.out.tblk (by have := HTB.out; omega), HE15.out, HT14.out.below.trans (HKP15.out.toBelow HT14.out.below.size fun b _ hb => by have hb' : b = gt := hb; have := HGT.out; omega)⟩
  clear HT14 HKP15 HE15 CTU
  obtain ⟨M2, hM2⟩ : ∃ M, M = mL (tG g) := ⟨_, rfl⟩
  have HML2 : Hid (M2.length ≤ 64) := hid (by rw [hM2]; exact mL_len _)
  obtain ⟨cv2, hcv2⟩ : ∃ z, z = chkV (tG g) := ⟨_, rfl⟩
  have hml2 : (M2.length : Int) ≤ 64 := by have := HML2.out; omega
  have HMQ2 := hid hM2
  have HCQ2 := hid hcv2
  clear hM2 hcv2
  go_wp2_with (refine wpList_load_w rfl 24 _ rfl _ rfl _ _ _ _ (HT15.out.tblk) Tryz.underlying24 rfl (info_gr) ?_)
  refine (CTW2.out gt w15 HT15.out.et).mono ?_
  rintro e w16 ⟨g2, rfl, hg2, het2, hb16⟩
  have HT16 := hid (HT15.out.kept hb16)
  have HE2 := hid het2
  clear hg2 het2 hb16 HT15
  go_wp2_with fail
  refine (CRM2.out g2 w16 HE2.out).mono ?_
  intro e w17 hp17
  obtain ⟨v17, rfl, ho17, hb17⟩ := hp17.form
  rw [← HMQ2.out] at ho17
  rw [← HCQ2.out]
  have HT17 := hid (HT16.out.kept hb17)
  have HO17 := hid ho17
  clear hp17 ho17 hb17 HT16 HE2 CRM2 CTW2
  go_wp2_with (refine wpList_load_w rfl 24 _ rfl _ rfl _ _ _ _ (HT17.out.tblk) Tryz.underlying24 rfl (info_gr) ?_)
  refine (CMT2.out gt w17 HT17.out.et).mono ?_
  intro e w18 hp18
  obtain ⟨v18, rfl, ho18, hb18⟩ := hp18.form
  rw [← HMQ2.out] at ho18
  rw [← HCQ2.out]
  have HT18 := hid (HT17.out.kept hb18)
  have HO1718 := hid (ownsRow_other HO17.out fun b hb => hb18.block b (ownsRow_lt HO17.out hb))
  have HO18 := hid ho18
  clear hp18 ho18 hb18 HT17 HO17 CMT2
  obtain ⟨A17, c17, rfl⟩ := ownsRow_shape HO1718.out
  obtain ⟨A18, c18, rfl⟩ := ownsRow_shape HO18.out
  have hcc2 : (cv2 == cv2) = true := by simp
  go_wp2_with (go_at_call 21; refine (samePairs_same M2 A18 A17 c18 c17 HML2.out _ (rows_own HO18.out) (rows_own HO1718.out)).mono ?_; rintro e w19 ⟨rfl, hb19⟩; have HB19 := hid (HT18.out.below.trans (hb19.mono HT18.out.below.size)); clear hb19)
  go_ret
  exact ⟨rfl, HB19.out⟩
end Go.Proofs.YtjhomkdnhdhffaaGreat
