/- The walk of cover.Cover. -/
import Derived.Test.YtjhomkdnhdhffaaGreatMostW
import Derived.Test.YtjhomkdnhdhffaaGreatVisW
namespace Go.Proofs.YtjhomkdnhdhffaaGreat
open Go.RowKit

def visOf (g : Gr) (n : Nat) : Vis := visAll (toOf g.es) (pairAll (toOf g.es) g.rows.toNat).1 (pairAll (toOf g.es) g.rows.toNat).2 n
/-- The rows that were not come to, of the first n; the columns that were. -/
def rowsTo (s : Vis) (n : Nat) : List Nat := (List.range n).filter fun r => !getB s.1 r
def colsTo (s : Vis) (n : Nat) : List Nat := (List.range n).filter fun c => getB s.2 c
def coverRows (g : Gr) : List Nat := rowsTo (visOf g g.rows.toNat) g.rows.toNat
def coverCols (g : Gr) : List Nat := colsTo (visOf g g.rows.toNat) g.cols.toNat
def Apart2 (v1 v2 : Value) : Prop := ∀ b, v1.ownBlock = some b → v2.ownBlock ≠ some b
def CoverPost (w : World) (g : Gr) (e : Ending) (w' : World) : Prop :=
  Below w.heap.size w w' ∧
  ((chk g = false ∧ e = .returned (.tuple #[.slice none 0 0, .slice none 0 0, .int .i64 170])) ∨
   (chk g = true ∧ ∃ v1 v2, e = .returned (.tuple #[v1, v2, .int .i64 0]) ∧ w'.ownsRow w.heap.size 3 1 v1 (coverRows g).length (intV (nats (coverRows g))) ∧ w'.ownsRow w.heap.size 3 1 v2 (coverCols g).length (intV (nats (coverCols g))) ∧ Apart2 v1 v2))
theorem rowsTo_succ (s : Vis) (n : Nat) : rowsTo s (n + 1) = rowsTo s n ++ (if getB s.1 n = true then [] else [n]) := by
  unfold rowsTo
  rw [List.range_succ, List.filter_append]
  cases h : getB s.1 n <;> simp [h]
theorem colsTo_succ (s : Vis) (n : Nat) : colsTo s (n + 1) = colsTo s n ++ (if getB s.2 n = true then [n] else []) := by
  unfold colsTo
  rw [List.range_succ, List.filter_append]
  cases h : getB s.2 n <;> simp [h]
theorem rowsTo_len (s : Vis) (n : Nat) : (rowsTo s n).length ≤ n := Nat.le_trans (List.length_filter_le _ _) (by simp)
theorem colsTo_len (s : Vis) (n : Nat) : (colsTo s n).length ≤ n := Nat.le_trans (List.length_filter_le _ _) (by simp)
theorem nats_snoc (l : List Nat) (n : Nat) : intV (nats (l ++ [n])) = intV (nats l) ++ [.int .i64 n] := by simp [intV, nats]
/-- The state behind the search: the two lists of marks, the box of the graph, a list of the call's own. -/
structure CAt (w wr : World) (mr mc : Nat) (s : Vis) (nc : Nat) (v : Value) (l : List Nat) : Prop where
  rows : MarksAt wr mr s.1
  cols : MarksAt wr mc s.2
  box : ∃ x y, wr.heap[w.heap.size]? = some (.cells #[x, .int .i64 nc, y] 24 (0, 0))
  own : wr.ownsRow w.heap.size 3 1 v l.length (intV (nats l))
  below : Below w.heap.size w wr
theorem CAt.grow {w wr w2 : World} {mr mc : Nat} {s : Vis} {cols : Nat} {v v2 : Value} {l : List Nat} (h : CAt w wr mr mc s cols v l) {n : Nat} (o : Obj) (ho : w2.ownsRow w.heap.size 3 1 v2 (l.length + 1) (intV (nats l) ++ [.int .i64 n])) (hg : (wr.alloc o).grownBy w2 v.ownBlock) : CAt w w2 mr mc s cols v2 (l ++ [n]) := by
  have hb := (Below.refl wr.heap.size wr).alloc (Nat.le_refl _) o
  have hown : (wr.alloc o).ownsRow w.heap.size 3 1 v l.length (intV (nats l)) := ownsRow_other h.own fun g hg => hb.block g (ownsRow_lt h.own hg)
  have hbw := h.below.alloc h.below.size o
  obtain ⟨x, y, hx⟩ := h.box
  have hk : ∀ {b : Nat} {cs : Array Value} {T : TypeId} {fr : Nat × Nat}, T ≠ 3 → wr.heap[b]? = some (.cells cs T fr) → w2.heap[b]? = some (.cells cs T fr) := by
    intro b cs T fr hT hc
    have h1 := alloc_keep hc o
    rw [hg.block b (heap_lt h1) (row_apart h1 hown hT)]; exact h1
  exact ⟨hk (by decide) h.rows, hk (by decide) h.cols, ⟨x, y, hk (by decide) hx⟩, by rw [nats_snoc, List.length_append]; exact ho, hbw.grown hg hbw.size (ownsRow_block hown)⟩
/-- A second list beside the first one. -/
structure CAt2 (w wr : World) (mr mc : Nat) (s : Vis) (cols : Nat) (v1 : Value) (l1 : List Nat) (v : Value) (l : List Nat) : Prop where
  at_ : CAt w wr mr mc s cols v l
  own1 : wr.ownsRow w.heap.size 3 1 v1 l1.length (intV (nats l1))
  apart : Apart2 v1 v
theorem CAt2.grow {w wr w2 : World} {mr mc : Nat} {s : Vis} {cols : Nat} {v1 : Value} {l1 : List Nat} {v v2 : Value} {l : List Nat} (h : CAt2 w wr mr mc s cols v1 l1 v l) {n : Nat} (o : Obj) (ho : w2.ownsRow w.heap.size 3 1 v2 (l.length + 1) (intV (nats l) ++ [.int .i64 n])) (hg : (wr.alloc o).grownBy w2 v.ownBlock)
    (hat : v2.ownBlock = v.ownBlock ∨ v2.ownBlock = some (wr.alloc o).heap.size) : CAt2 w w2 mr mc s cols v1 l1 v2 (l ++ [n]) := by
  have hb := (Below.refl wr.heap.size wr).alloc (Nat.le_refl _) o
  refine ⟨h.at_.grow o ho hg, ownsRow_other h.own1 fun g hg1 => ?_, fun b hb1 => ?_⟩
  · have hlt := ownsRow_lt h.own1 hg1
    rw [hg.block g (by rw [alloc_size]; omega) (fun e => h.apart g hg1 e.symm)]
    exact hb.block g hlt
  · have hlt := ownsRow_lt h.own1 hb1
    rcases hat with e | e
    · rw [e]; exact h.apart b hb1
    · rw [e, alloc_size]; intro e2; cases e2; omega

theorem VHas.start {w1 : World} {p : Nat} {tos : List Value} {tl : List (List Nat)} {gone : List Bool} {row col : List Int} (h : NetHas w1 p tos tl gone row col) :
    VHas ((((w1.alloc (.cells #[.pointer (some ⟨p, 0, none⟩)] 90)).alloc (.cells (boolV noMarks).toArray 94)).alloc (.cells (boolV noMarks).toArray 94)).alloc (.cells #[.func (.func 107) #[] #[.pointer (some ⟨w1.heap.size + 1, 0, none⟩), .pointer (some ⟨w1.heap.size, 0, none⟩), .pointer (some ⟨w1.heap.size + 1 + 1, 0, none⟩), .pointer (some ⟨w1.heap.size + 1 + 1 + 1, 0, none⟩)]] 95))
      p (w1.heap.size + 1) w1.heap.size (w1.heap.size + 1 + 1) (w1.heap.size + 1 + 1 + 1) tos tl gone row col (noMarks, noMarks) := by
  have a1 := heap_alloc_new w1 (.cells #[.pointer (some ⟨p, 0, none⟩)] 90)
  have a2 := heap_2 w1 (.cells #[.pointer (some ⟨p, 0, none⟩)] 90) (.cells (boolV noMarks).toArray 94)
  have a3 := heap_2 (w1.alloc (.cells #[.pointer (some ⟨p, 0, none⟩)] 90)) (.cells (boolV noMarks).toArray 94) (.cells (boolV noMarks).toArray 94)
  have a4 := heap_2 ((w1.alloc (.cells #[.pointer (some ⟨p, 0, none⟩)] 90)).alloc (.cells (boolV noMarks).toArray 94)) (.cells (boolV noMarks).toArray 94) (.cells #[.func (.func 107) #[] #[.pointer (some ⟨w1.heap.size + 1, 0, none⟩), .pointer (some ⟨w1.heap.size, 0, none⟩), .pointer (some ⟨w1.heap.size + 1 + 1, 0, none⟩), .pointer (some ⟨w1.heap.size + 1 + 1 + 1, 0, none⟩)]] 95)
  simp only [alloc_size] at a3 a4
  exact ⟨h.kept ((((Below.refl _ _).alloc (Nat.le_refl _) _).alloc (by simp) _).alloc (by simp; omega) _ |>.alloc (by simp; omega) _), alloc_keep (alloc_keep a2 _) _, alloc_keep a3 _, alloc_keep (alloc_keep (alloc_keep a1 _) _) _, a4, by omega⟩
theorem visAll_succ (tl : List (List Nat)) (row col : List Int) (n : Nat) : visAll tl row col (n + 1) = if getI row n < 0 ∧ getB (visAll tl row col n).1 n = false then visF tl col 64 (visAll tl row col n) n else visAll tl row col n := rfl
theorem below_only {a w w' : World} {p m : Nat} (h : Below a.heap.size a w) (ho : Only w w' p m) (hp : a.heap.size ≤ p) (hm : a.heap.size ≤ m) : Below a.heap.size a w' :=
  h.trans ⟨ho.os, ho.tape, ho.output, ho.size, fun k hk => ho.block k (Nat.lt_of_lt_of_le hk h.size) (by omega) (by omega)⟩
theorem unmet_vis {s : Vis} (h : VisOk s) : unmet s.1 < 64 + 1 := by
  have := unmet_le s.1
  rw [h.rows] at this; omega

set_option maxRecDepth 100000 in
set_option maxHeartbeats 20000000 in
theorem cover_any (g : Gr) (a : Option Addr) (cap : Nat) (hok : GrOk g cap) (w : World) (hr : RowsAt 3 edV w a g.es) :
    Calls Tryz.prog 16 #[grV g a cap] w (CoverPost w g) := by
  have CB := hid (fun w hr => build_any g a cap hok w hr)
  have HR := hid hr
  clear hok hr
  have hst := fun (W : World) (a : Addr) f b c => run_store Tryz.prog W a (Value.func f b c) .plain rfl
  unfold grV at *
  go_enter Tryz.func16, Tryz.ntmps16
  go_wp2_with (refine wpList_load_w rfl 24 _ rfl _ rfl _ _ _ _ (heap_alloc_new _ _) Tryz.underlying24 rfl (info_gr) ?_)
  refine (CB.out _ (HR.out.alloc _)).mono ?_
  rintro e w1 (⟨hc, rfl, hb1⟩ | ⟨hc, p, tos, rfl, hp, hb1, hnh, hpo⟩)
  · have HW1 : Hid (Below w.heap.size w w1) := hid (((Below.refl _ _).alloc (Nat.le_refl _) _).trans (hb1.mono (by simp)))
    have HC := hid hc
    clear hb1 hc
    go_wp2
    go_ret3
    exact ⟨HW1.out.alloc HW1.out.size _, .inl ⟨HC.out, rfl⟩⟩
  · have HG1 := hid (below_keep hb1 (heap_alloc_new _ _))
    have HW1 : Hid (Below w.heap.size w w1) := hid (((Below.refl _ _).alloc (Nat.le_refl _) _).trans (hb1.mono (by simp)))
    have HC0' := hid hc
    have hsz := chk_size hc
    obtain ⟨R, hR⟩ := Int.eq_ofNat_of_zero_le hsz.1
    obtain ⟨C, hC⟩ := Int.eq_ofNat_of_zero_le hsz.2.2.1
    have hR64 : R ≤ 64 := by omega
    have hC64 : C ≤ 64 := by omega
    have HRR : Hid (g.rows.toNat = R) := hid (by rw [hR]; rfl)
    have HCC : Hid (g.cols.toNat = C) := hid (by rw [hC]; rfl)
    have HOKN := hid (toOf_ok hc)
    have HG2 : Hid (w1.heap[w.heap.size]? = some (.cells #[.int .i64 R, .int .i64 C, .slice a g.es.length cap] 24 (0, 0))) := hid (by rw [← hR, ← hC]; exact HG1.out)
    have HNH := hid hnh
    have HPO := hid hpo
    clear hR hC hsz hb1 hc hnh hpo hp HG1
    go_upto_region 7 with fail
    obtain ⟨row, hrow⟩ : ∃ row, row = (pairAll (toOf g.es) g.rows.toNat).1 := ⟨_, rfl⟩
    obtain ⟨col, hcol⟩ : ∃ col, col = (pairAll (toOf g.es) g.rows.toNat).2 := ⟨_, rfl⟩
    have HVO : Hid (visOf g R = visAll (toOf g.es) row col R) := hid (by unfold visOf; rw [hrow, hcol])
    rw [← hrow, ← hcol] at HNH HPO
    clear hrow hcol
    obtain ⟨tl, htl⟩ : ∃ tl, tl = toOf g.es := ⟨_, rfl⟩
    rw [← htl] at HNH HOKN HVO
    clear htl
    refine at_world (fun w2 => VHas w2 p (w1.heap.size + 1) w1.heap.size (w1.heap.size + 1 + 1) (w1.heap.size + 1 + 1 + 1) tos tl noGone row col (noMarks, noMarks) ∧ w2.heap[w.heap.size]? = some (.cells #[.int .i64 R, .int .i64 C, .slice a g.es.length cap] 24 (0, 0)) ∧ Below w.heap.size w w2) _ ?_ ⟨VHas.start HNH.out, alloc_keep (alloc_keep (alloc_keep (alloc_keep HG2.out _) _) _) _, (((HW1.out.alloc HW1.out.size _).alloc (by have := HW1.out.size; simp; omega) _).alloc (by have := HW1.out.size; simp; omega) _).alloc (by have := HW1.out.size; simp; omega) _⟩ ?_
    · rfl
    rintro w2 ⟨hv2, hg2, hw2⟩
    have HV0 := hid hv2
    have HG := hid hg2
    have HW2 := hid hw2
    have hs1 : w.heap.size ≤ w1.heap.size := HW1.out.size
    clear hv2 hg2 hw2 HNH HG2 HW1
    generalize hmr : w1.heap.size + 1 = mr at *
    generalize hmc : mr + 1 = mc at *
    generalize htb : mc + 1 = tb at *
    have HMR : Hid (w.heap.size ≤ mr ∧ w.heap.size ≤ mc) := hid (by omega)
    clear hmr hmc htb hs1
    generalize w1.heap.size = nb at *
    have cg := row_cell HG.out 0 _ rfl
    go_wp2
    clear cg
    have HV1 : Hid (VHas w2 p mr nb mc tb tos tl noGone row col (visAll tl row col 0)) := HV0
    clear HV0
    go_loopw [9, 23] (fun _ i wr => ∃ k : Nat, k ≤ R ∧ i = .int .i64 k ∧ Hid (VHas wr p mr nb mc tb tos tl noGone row col (visAll tl row col k)) ∧ Hid (wr.heap[w.heap.size]? = some (.cells #[.int .i64 R, .int .i64 C, .slice a g.es.length cap] 24 (0, 0))) ∧ Hid (Below w.heap.size w wr)) (fun _ i _ => R - (intOf i).toNat)
    case atStart => exact ⟨0, by omega, rfl, HV1, HG, HW2⟩
    case round =>
      clear HV1 HG HW2
      obtain ⟨k, hk, rfl, HV, HG, HW⟩ := hrel
      by_cases hlt : k < R
      · -- L1
        have hk64 : k < 64 := by omega
        have hki : (k : Int) < 64 := by omega
        have HRE := hid (visAll_reached HOKN.out HPO.out k (by omega))
        have cn := row_cell HV.out.nbox 0 _ rfl
        have ct := row_cell HV.out.tbox 0 _ rfl
        have cr := HV.out.net.net.cellRow HV.out.net.tos.len (k := k) (by rw [HPO.out.rowL]; exact hk64)
        have cm := HV.out.rows.cell (k := k) (by rw [HRE.out.ok.rows]; exact hk64)
        have HSU := hid (visAll_succ tl row col k)
        by_cases hneg : getI row k < 0
        · cases hm : getB (visAll tl row col k).1 k with
          | true =>
            rw [hm] at cm
            have HN : Hid (visAll tl row col (k + 1) = visAll tl row col k) := hid (by rw [HSU.out, if_neg (by rw [hm]; simp)])
            clear hm
            go_wp2
            go_roundw
            case rel => exact ⟨k + 1, by omega, by go_num, hid (by rw [HN.out]; exact HV.out), HG, HW⟩
            case measure => simp [intOf]; omega
          | false =>
            rw [hm] at cm
            have HN : Hid (visAll tl row col (k + 1) = visF tl col 64 (visAll tl row col k) k) := hid (by rw [HSU.out, if_pos ⟨hneg, hm⟩])
            have CV := hid (vis_any p mr nb mc tb tos tl noGone HOKN.out row col HPO.out 64 (visAll tl row col k) k wr hk64 HRE.out.ok (unmet_vis HRE.out.ok) hm HV.out)
            have HRO := HV.out.rows
            have HCO := HV.out.cols
            have HRO := hid HRO
            have HCO := hid HCO
            clear hm
            go_wp2_with (go_at_call 107; refine CV.out.mono ?_; rintro e w5 ⟨rfl, hh5, ho5⟩; have HX5 := hid hh5; have HG5 := hid (ho5.keep HG.out (block_ne HG.out HRO.out (by decide)) (block_ne HG.out HCO.out (by decide))); have HW5 := hid (below_only HW.out ho5 HMR.out.1 HMR.out.2); clear hh5 ho5)
            go_roundw
            case rel => exact ⟨k + 1, by omega, by go_num, hid (by rw [HN.out]; exact HX5.out), HG5, HW5⟩
            case measure => simp [intOf]; omega
        · have HN : Hid (visAll tl row col (k + 1) = visAll tl row col k) := hid (by rw [HSU.out, if_neg (fun h => hneg h.1)])
          have hpos : 0 ≤ getI row k := by omega
          clear cm
          go_wp2
          go_roundw
          case rel => exact ⟨k + 1, by omega, by go_num, hid (by rw [HN.out]; exact HV.out), HG, HW⟩
          case measure => simp [intOf]; omega
        -- /L1
      · obtain rfl : k = R := by omega
        have HRE := hid (visAll_reached HOKN.out HPO.out k (by omega))
        rw [← HVO.out] at HV HRE
        have HCA : Hid (CAt w wr mr mc (visOf g k) C (.slice none 0 0) (rowsTo (visOf g k) 0)) := hid ⟨HV.out.rows, HV.out.cols, ⟨_, _, HG.out⟩, by exact ownsRow_nil _ _ _ _, HW.out⟩
        have cg := row_cell HG.out 0 _ rfl
        obtain ⟨s, hs⟩ : ∃ s, s = visOf g k := ⟨_, rfl⟩
        rw [← hs] at HCA HRE
        have HS := hid hs
        clear hs HV HG HW HVO
        go_wp2
        clear cg
        go_loopw [2, 10, 45] (fun v _ i wr => ∃ j : Nat, j ≤ k ∧ i = .int .i64 j ∧ Hid (CAt w wr mr mc s C v (rowsTo s j))) (fun _ _ i _ => k - (intOf i).toNat)
        case atStart => exact ⟨0, by omega, rfl, HCA⟩
        case round =>
          clear HCA
          obtain ⟨j, hj, rfl, HC⟩ := hrel
          by_cases hlt2 : j < k
          · -- L2
            have hj64 : (j : Int) < 64 := by omega
            have cm := HC.out.rows.cell (k := j) (by rw [HRE.out.ok.rows]; omega)
            cases hm : getB s.1 j with
            | true =>
              rw [hm] at cm
              have HN : Hid (rowsTo s (j + 1) = rowsTo s j) := hid (by rw [rowsTo_succ, if_pos hm, List.append_nil])
              clear hm
              go_wp2
              go_roundw
              case rel => exact ⟨j + 1, by omega, by go_num, hid (by rw [HN.out]; exact HC.out)⟩
              case measure => simp [intOf]; omega
            | false =>
              rw [hm] at cm
              have HN : Hid (rowsTo s (j + 1) = rowsTo s j ++ [j]) := hid (by rw [rowsTo_succ, if_neg (by rw [hm]; simp)])
              clear hm
              obtain ⟨i1, hi1, hz10, hz11, hz12⟩ := info_parts info_int
              have HLEN : Hid ((rowsTo s j).length ≤ 64) := hid (by have := rowsTo_len s j; omega)
              have HSZ : Hid (w.heap.size ≤ wr.heap.size) := hid HC.out.below.size
              have HOWN : Hid ((wr.alloc (.cells #[.int .i64 j] 3)).ownsRow w.heap.size 3 1 u2 (rowsTo s j).length (intV (nats (rowsTo s j)))) := hid (ownsRow_other HC.out.own fun g hg => ((Below.refl _ _).alloc (Nat.le_refl _) _).block g (ownsRow_lt HC.out.own hg))
              go_wp2_with (at_builtin; refine wpList_append_own_at _ rfl _ _ 65 rfl w.heap.size 3 i1 (.int .i64 0) 1 8 Tryz.underlying65 hi1 hz10 hz11 hz12 rfl (by decide) _ _ _ rfl HOWN.out ⟨wr.heap.size, 0, none⟩ 1 1 [.int .i64 j] rfl rfl ?d1 ?d2 ?d3 ?d4 ?d5 ?_)
              try case d1 => exact cells_new _ _ _
              try case d2 => simp [Value.oneCell']
              case d3 => have := HLEN.out; unfold maxLen; omega
              case d4 => have := HLEN.out; omega
              case d5 => have := HSZ.out; first | omega | (simp only [alloc_size]; omega) | (simp; omega)
              intro v5 w5 hown5 hgrow5 _ _
              have HC5 := hid (HC.out.grow _ hown5 hgrow5)
              clear hown5 hgrow5
              go_wp2
              go_roundw
              case rel => exact ⟨j + 1, by omega, by go_num, hid (by rw [HN.out]; exact HC5.out)⟩
              case measure => simp [intOf]; omega
            -- /L2
          · obtain rfl : j = k := by omega
            obtain ⟨x0, y0, hbox⟩ := HC.out.box
            have cg := row_cell hbox 1 _ rfl
            have HC0 : Hid (CAt2 w wr mr mc s C u2 (rowsTo s j) (.slice none 0 0) (colsTo s 0)) := hid ⟨⟨HC.out.rows, HC.out.cols, HC.out.box, by exact ownsRow_nil _ _ _ _, HC.out.below⟩, HC.out.own, fun b _ h => by cases h⟩
            clear hbox HC
            go_wp2
            clear cg
            go_loopw [3, 11, 59] (fun v _ i wr => ∃ i' : Nat, i' ≤ C ∧ i = .int .i64 i' ∧ Hid (CAt2 w wr mr mc s C u2 (rowsTo s j) v (colsTo s i'))) (fun _ _ i _ => C - (intOf i).toNat)
            case atStart => exact ⟨0, by omega, rfl, HC0⟩
            case round =>
              clear HC0
              obtain ⟨q, hq, rfl, HC⟩ := hrel
              by_cases hlt3 : q < C
              · -- L3
                have hq64 : (q : Int) < 64 := by omega
                have cm := HC.out.at_.cols.cell (k := q) (by rw [HRE.out.ok.cols]; omega)
                cases hm : getB s.2 q with
                | false =>
                  rw [hm] at cm
                  have HN : Hid (colsTo s (q + 1) = colsTo s q) := hid (by rw [colsTo_succ, if_neg (by rw [hm]; simp), List.append_nil])
                  clear hm
                  go_wp2
                  go_roundw
                  case rel => exact ⟨q + 1, by omega, by go_num, hid (by rw [HN.out]; exact HC.out)⟩
                  case measure => simp [intOf]; omega
                | true =>
                  rw [hm] at cm
                  have HN : Hid (colsTo s (q + 1) = colsTo s q ++ [q]) := hid (by rw [colsTo_succ, if_pos hm])
                  clear hm
                  obtain ⟨i1, hi1, hz10, hz11, hz12⟩ := info_parts info_int
                  have HLEN : Hid ((colsTo s q).length ≤ 64) := hid (by have := colsTo_len s q; omega)
                  have HSZ : Hid (w.heap.size ≤ wr.heap.size) := hid HC.out.at_.below.size
                  have HOWN : Hid ((wr.alloc (.cells #[.int .i64 q] 3)).ownsRow w.heap.size 3 1 u3 (colsTo s q).length (intV (nats (colsTo s q)))) := hid (ownsRow_other HC.out.at_.own fun g hg => ((Below.refl _ _).alloc (Nat.le_refl _) _).block g (ownsRow_lt HC.out.at_.own hg))
                  go_wp2_with (at_builtin; refine wpList_append_own_at _ rfl _ _ 65 rfl w.heap.size 3 i1 (.int .i64 0) 1 8 Tryz.underlying65 hi1 hz10 hz11 hz12 rfl (by decide) _ _ _ rfl HOWN.out ⟨wr.heap.size, 0, none⟩ 1 1 [.int .i64 q] rfl rfl ?e1 ?e2 ?e3 ?e4 ?e5 ?_)
                  try case e1 => exact cells_new _ _ _
                  try case e2 => simp [Value.oneCell']
                  case e3 => have := HLEN.out; unfold maxLen; omega
                  case e4 => have := HLEN.out; omega
                  case e5 => have := HSZ.out; first | omega | (simp only [alloc_size]; omega) | (simp; omega)
                  intro v5 w5 hown5 hgrow5 _ hat5
                  have HC5 := hid (HC.out.grow _ hown5 hgrow5 (by rw [alloc_size]; exact hat5))
                  clear hown5 hgrow5 hat5
                  go_wp2
                  go_roundw
                  case rel => exact ⟨q + 1, by omega, by go_num, hid (by rw [HN.out]; exact HC5.out)⟩
                  case measure => simp [intOf]; omega
                -- /L3
              · obtain rfl : q = C := by omega
                go_wp2
                go_ret3
                exact ⟨HC.out.at_.below, .inr ⟨HC0'.out, _, _, rfl, by unfold coverRows; rw [HRR.out, ← HS.out]; exact HC.out.own1, by unfold coverCols; rw [HRR.out, HCC.out, ← HS.out]; exact HC.out.at_.own, HC.out.apart⟩⟩
end Go.Proofs.YtjhomkdnhdhffaaGreat
