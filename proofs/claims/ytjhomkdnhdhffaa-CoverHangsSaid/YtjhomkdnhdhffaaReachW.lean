/- The law's own search: who is come to from a row; its walk. -/
import Derived.Test.YtjhomkdnhdhffaaHangT
import Derived.Test.YtjhomkdnhdhffaaTwinW
namespace Go.Proofs.Ytjhomkdnhdhffaa
open Go.RowKit

def un (l : List Bool) : Nat := (l.filter (! ·)).length
theorem un_set {l : List Bool} {k : Nat} (h : l[k]? = some false) : un (l.set k true) + 1 = un l := by
  unfold un
  induction l generalizing k with
  | nil => simp at h
  | cons a l ih =>
    cases k with
    | zero => simp at h; subst h; simp
    | succ k =>
      have := ih (by simpa using h)
      cases a <;> simp_all
theorem num_set {l : List Bool} {k : Nat} (h : l[k]? = some false) : ((l.set k true).filter id).length = (l.filter id).length + 1 := by
  induction l generalizing k with
  | nil => simp at h
  | cons a l ih =>
    cases k with
    | zero => simp at h; subst h; simp
    | succ k =>
      have := ih (by simpa using h)
      cases a <;> simp_all
theorem num_zero (n : Nat) : (List.replicate n false).filter id = [] := by
  rw [List.filter_eq_nil_iff]
  intro a ha
  rw [(List.mem_replicate.1 ha).2]; simp
theorem reach_start {g : Gr} {p : Nat} (hp : rt g p = p) (hpR : p < g.rows.toNat) : ReachInv g p ((List.replicate g.rows.toNat false).set p true) (List.replicate g.cols.toNat false) 1 := by
  refine ⟨by simp, by simp, by simp [hpR], fun r hr => ?_, fun c hc => ?_, ?_⟩
  · rw [List.getElem?_set] at hr
    by_cases e : p = r
    · rw [← e]; exact hp
    · rw [if_neg e, List.getElem?_replicate] at hr
      split at hr <;> simp at hr
  · rw [List.getElem?_replicate] at hc
    split at hc <;> simp at hc
  · rw [num_set (by simp [hpR]), num_zero]; rfl
theorem reach_col {g : Gr} (h : chk g = true) {p n : Nat} {rows cols : List Bool} (I : ReachInv g p rows cols n) {x : Ed} (hx : x ∈ g.es) {r c : Nat} (hr : x.r = r) (hc : x.c = c) (h1 : rows[r]? = some true) : ReachInv g p rows (cols.set c true) n := by
  refine ⟨I.rl, by rw [List.length_set]; exact I.cl, I.own, I.sound, fun c' hc' y hy hyc => ?_, I.num⟩
  by_cases e : c = c'
  · subst e
    rw [rt_same h hy hx (by rw [hyc, hc]), hr, Int.toNat_natCast]
    exact I.sound r h1
  · rw [List.getElem?_set, if_neg e] at hc'
    exact I.csound c' hc' y hy hyc
theorem reach_row {g : Gr} {p n : Nat} {rows cols : List Bool} (I : ReachInv g p rows cols n) {x : Ed} (hx : x ∈ g.es) {r c : Nat} (hr : x.r = r) (hc : x.c = c) (h1 : cols[c]? = some true) (h2 : rows[r]? = some false) : ReachInv g p (rows.set r true) cols (n + 1) := by
  refine ⟨by rw [List.length_set]; exact I.rl, I.cl, ?_, fun r' hr' => ?_, I.csound, by rw [num_set h2, I.num]⟩
  · rw [List.getElem?_set]
    by_cases e : r = p
    · subst e; rw [I.own] at h2; cases h2
    · rw [if_neg e]; exact I.own
  · by_cases e : r = r'
    · subst e
      have := I.csound c h1 x hx hc
      rw [hr, Int.toNat_natCast] at this
      exact this
    · rw [List.getElem?_set, if_neg e] at hr'
      exact I.sound r' hr'
theorem closed_step {rows cols : List Bool} {l : List Ed} {k : Nat} {x : Ed} (H : closedTo rows cols (l.take k)) (hx : l[k]? = some x) {r c : Nat} (hr : x.r = r) (hc : x.c = c) {b : Bool} (h1 : rows[r]? = some b) (h2 : cols[c]? = some b) : closedTo rows cols (l.take (k + 1)) := by
  obtain ⟨hk, rfl⟩ := List.getElem?_eq_some_iff.1 hx
  intro y hy
  rw [List.take_succ_eq_append_getElem hk, List.mem_append, List.mem_singleton] at hy
  rcases hy with hy | rfl
  · exact H y hy
  · rw [hr, hc, Int.toNat_natCast, Int.toNat_natCast, h1, h2]
    exact ⟨id, id⟩
theorem num_le {g : Gr} {p n : Nat} {rows cols : List Bool} (I : ReachInv g p rows cols n) : n ≤ g.rows.toNat := by
  rw [I.num, ← I.rl]; exact List.length_filter_le _ _

/-! ### In memory -/
def boolsV (l : List Bool) : Array Value := (l.map Value.bool).toArray
def BoolsAt (w : World) (b : Nat) (l : List Bool) : Prop := w.heap[b]? = some (.cells (boolsV l) 4 (0, 0))
theorem BoolsAt.set {w : World} {b : Nat} {l : List Bool} (h : BoolsAt w b l) (k : Nat) (v : Bool) : BoolsAt (w.setCell ⟨b, k, none⟩ (.bool v)) b (l.set k v) := by
  unfold BoolsAt
  rw [row_setCell h]
  unfold boolsV
  rw [List.map_set]; simp
theorem BoolsAt.other {w : World} {b : Nat} {l : List Bool} (h : BoolsAt w b l) {b' : Nat} (hb : b ≠ b') (k : Nat) (u : Value) : BoolsAt (w.setCell ⟨b', k, none⟩ u) b l := by
  unfold BoolsAt
  rw [heap_setCell_ne hb]; exact h
theorem BoolsAt.cell {w : World} {b : Nat} {l : List Bool} (h : BoolsAt w b l) {k : Nat} {v : Bool} (hk : l[k]? = some v) : w.cell? ⟨b, k, none⟩ = some (.bool v) :=
  row_cell h k _ (by simp [boolsV, hk])
theorem made_bools (n : Nat) : madeCells (Value.bool false).cells n = boolsV (List.replicate n false) := by
  apply Array.ext
  · simp [size_madeCells, boolsV]
  · intro i h1 h2
    simp only [madeCells, Array.getElem_map, Array.getElem_range, boolsV, List.getElem_toArray, List.getElem_map, List.getElem_replicate]
    show #[Value.bool false][i % 1]! = _
    rw [Nat.mod_one]; rfl
theorem info_bool : (Try.prog.info? 4).map (fun i => (i.zero, i.size, i.bytes)) = some (some (.bool false), 1, 1) := by kernel_rfl
theorem make_bools (w : World) (R : Nat) (hR : R ≤ 64) : (Instr.makeSlice 68 (.int .i64 (R : Int)) (.int .i64 (R : Int))).run Try.prog w = .ok (.slice (some ⟨w.heap.size, 0, none⟩) R R) (w.alloc (.cells (boolsV (List.replicate R false)) 4)) := by
  obtain ⟨i, hi, hz0, hz1, hz2⟩ := info_parts info_bool
  have h := run_make (P := Try.prog) w 68 4 i _ Try.underlying68 hi hz0 .i64 .i64 (R : Int) (R : Int) (by omega) (by omega) (by rw [hz2]; omega) (by omega)
  rw [h, hz1, Int.toNat_natCast, Nat.mul_one, made_bools]

theorem boolsV_set (l : List Bool) (k : Nat) (v : Bool) : (boolsV l).setIfInBounds k (.bool v) = boolsV (l.set k v) := by
  unfold boolsV
  rw [List.map_set]; simp
/-- How many marks are still to set, off the memory. -/
def unB (w : World) (b : Nat) : Nat := match w.heap[b]? with | some (.cells vs _ _) => (vs.toList.filter (fun v => match v with | .bool b => !b | _ => false)).length | _ => 0
theorem BoolsAt.un {w : World} {b : Nat} {l : List Bool} (h : BoolsAt w b l) : unB w b = un l := by
  unfold unB
  rw [h]
  simp only [boolsV, List.filter_map, List.length_map]
  rfl
def mea (m : Value) (w : World) (rb cb : Nat) : Nat := match m with | .bool true => unB w rb + unB w cb + 1 | _ => 0
structure RcAt (w wr : World) (g : Gr) (a : Option Addr) (cap rb cb : Nat) (rows cols : List Bool) : Prop where
  box : wr.heap[w.heap.size]? = some (.cells #[.int .i64 g.rows, .int .i64 g.cols, .slice a g.es.length cap] 24 (0, 0))
  row : BoolsAt wr rb rows
  col : BoolsAt wr cb cols
  below : Below w.heap.size w wr
  rne : w.heap.size < rb
  cne : rb < cb
theorem mea_true {w wr : World} {g : Gr} {a : Option Addr} {cap rb cb : Nat} {rows cols : List Bool} (h : RcAt w wr g a cap rb cb rows cols) : mea (.bool true) wr rb cb = un rows + un cols + 1 := by
  show unB wr rb + unB wr cb + 1 = _
  rw [h.row.un, h.col.un]
theorem mea_less {w wr : World} {g : Gr} {a : Option Addr} {cap rb cb : Nat} {rows cols : List Bool} (h : RcAt w wr g a cap rb cb rows cols) {M : Bool} {U : Nat} (hu : un rows + un cols + M.toNat ≤ U) : mea (.bool M) wr rb cb < U + 1 := by
  cases M with
  | false => exact Nat.succ_pos _
  | true => rw [mea_true h]; simp at hu; omega
theorem RcAt.setRow {w wr : World} {g : Gr} {a : Option Addr} {cap rb cb : Nat} {rows cols : List Bool} (h : RcAt w wr g a cap rb cb rows cols) (k : Nat) : RcAt w (wr.setCell ⟨rb, k, none⟩ (.bool true)) g a cap rb cb (rows.set k true) cols :=
  ⟨(heap_setCell_ne (Nat.ne_of_lt h.rne)).trans h.box, h.row.set k true, h.col.other (Nat.ne_of_gt h.cne) _ _, h.below.setCell (Nat.le_of_lt h.rne) _, h.rne, h.cne⟩
theorem RcAt.setCol {w wr : World} {g : Gr} {a : Option Addr} {cap rb cb : Nat} {rows cols : List Bool} (h : RcAt w wr g a cap rb cb rows cols) (k : Nat) : RcAt w (wr.setCell ⟨cb, k, none⟩ (.bool true)) g a cap rb cb rows (cols.set k true) :=
  ⟨(heap_setCell_ne (Nat.ne_of_lt (Nat.lt_trans h.rne h.cne))).trans h.box, h.row.other (Nat.ne_of_lt h.cne) _ _, h.col.set k true, h.below.setCell (Nat.le_of_lt (Nat.lt_trans h.rne h.cne)) _, h.rne, h.cne⟩
theorem RcAt.next {w wr w2 : World} {g : Gr} {a : Option Addr} {cap rb cb : Nat} {rows cols : List Bool} (h : RcAt w wr g a cap rb cb rows cols) (hb : Below wr.heap.size wr w2) : RcAt w w2 g a cap rb cb rows cols :=
  ⟨below_keep hb h.box, below_keep hb h.row, below_keep hb h.col, h.below.trans (hb.mono h.below.size), h.rne, h.cne⟩

set_option maxRecDepth 100000 in
set_option maxHeartbeats 8000000 in
theorem reached_any (g : Gr) (a : Option Addr) (cap : Nat) (hok : GrOk g cap) (hc : chk g = true) (p : Nat) (hp : rt g p = p) (hpR : p < g.rows.toNat) (w : World) (hr : RowsAt 3 edV w a g.es) :
    Calls Try.prog 22 #[grV g a cap, .int .i64 p] w fun e w' => e = .returned (.int .i64 (partOf g p).length) ∧ Below w.heap.size w w' := by
  have hsz := chk_size hc
  obtain ⟨R, hR⟩ := Int.eq_ofNat_of_zero_le hsz.1
  obtain ⟨C, hC⟩ := Int.eq_ofNat_of_zero_le hsz.2.2.1
  have hRt : g.rows.toNat = R := by omega
  have hCt : g.cols.toNat = C := by omega
  have HRI := hid (show R ≤ 64 ∧ C ≤ 64 by omega)
  have hmr : ∀ w1 : World, (Instr.makeSlice 68 (.int .i64 (R : Int)) (.int .i64 (R : Int))).run Try.prog w1 = .ok (.slice (some ⟨w1.heap.size, 0, none⟩) R R) (w1.alloc (.cells (boolsV (List.replicate R false)) 4)) := fun w1 => make_bools w1 R (by omega)
  have hmc : ∀ w1 : World, (Instr.makeSlice 68 (.int .i64 (C : Int)) (.int .i64 (C : Int))).run Try.prog w1 = .ok (.slice (some ⟨w1.heap.size, 0, none⟩) C C) (w1.alloc (.cells (boolsV (List.replicate C false)) 4)) := fun w1 => make_bools w1 C (by omega)
  have HI0 := hid (reach_start hp hpR)
  have HEND := hid (fun rows cols n I c => reach_end hc hp hpR (rows := rows) (cols := cols) (n := n) I c)
  rw [hRt, hCt] at HI0
  have HC := hid hc
  have HR := hid hr
  have hpi : (p : Int) < (R : Int) := by omega
  have HLN : Hid (g.es.length ≤ 9223372036854775807) := hid (by have := hok.len; have := hok.cap; omega)
  clear hc hr hok hsz hp hpR
  unfold grV
  rw [hR, hC]
  go_enter Try.func22, Try.ntmps22
  have HW0 : Hid (RcAt w (((w.alloc (.cells #[.int .i64 R, .int .i64 C, .slice a g.es.length cap] 24)).alloc (.cells ((boolsV (List.replicate R false)).setIfInBounds p (.bool true)) 4)).alloc (.cells (boolsV (List.replicate C false)) 4)) g a cap (w.heap.size + 1) (w.heap.size + 1 + 1) ((List.replicate R false).set p true) (List.replicate C false)) := hid ⟨by rw [hR, hC]; exact alloc_keep (alloc_keep (heap_alloc_new _ _) _) _, alloc_keep (by rw [boolsV_set]; exact heap_2 _ _ _) _, by have h := heap_alloc_new ((w.alloc (.cells #[.int .i64 R, .int .i64 C, .slice a g.es.length cap] 24)).alloc (.cells ((boolsV (List.replicate R false)).setIfInBounds p (.bool true)) 4)) (.cells (boolsV (List.replicate C false)) 4); simp only [alloc_size] at h; exact h, ((((Below.refl _ _).alloc (Nat.le_refl _) _).alloc (by simp) _).alloc (by simp; omega) _), by omega, by omega⟩
  have hb0 : (boolsV (List.replicate R false))[p]? = some (.bool false) := by
    have : p < R := by omega
    simp [boolsV, this]
  go_wp2
  clear hb0 hmr hmc hpi
  go_loopw [7, 8, 9, 10] (fun n m _ _ wr => ∃ (N : Nat) (M : Bool) (rows cols : List Bool), n = .int .i64 N ∧ m = .bool M ∧ Hid (RcAt w wr g a cap (w.heap.size + 1) (w.heap.size + 1 + 1) rows cols) ∧ Hid (ReachInv g p rows cols N) ∧ Hid (M = false → closedTo rows cols g.es)) (fun n m _ _ wr => mea m wr (w.heap.size + 1) (w.heap.size + 1 + 1))
  case atStart => exact ⟨1, true, _, _, rfl, rfl, HW0, HI0, hid (fun h => by cases h)⟩
  case round =>
    clear HW0 HI0
    obtain ⟨N, M, rows, cols, rfl, rfl, HW, HI, HCL⟩ := hrel
    cases M with
    | false =>
      have HC9 := hid (HCL.out (by simp))
      clear HCL
      go_wp2
      go_ret
      rw [HEND.out rows cols N HI.out HC9.out]
      exact ⟨rfl, HW.out.below⟩
    | true =>
      clear HCL
      have HME := hid (mea_true HW.out)
      go_wp2
      -- L1
      go_loopw [7, 8, 9, 10] (fun n m i _ w5 => ∃ (k N : Nat) (M : Bool) (rows' cols' : List Bool), k ≤ g.es.length ∧ i = .int .i64 k ∧ n = .int .i64 N ∧ m = .bool M ∧ Hid (RcAt w w5 g a cap (w.heap.size + 1) (w.heap.size + 1 + 1) rows' cols') ∧ Hid (ReachInv g p rows' cols' N) ∧ Hid (M = false → closedTo rows' cols' (g.es.take k)) ∧ Hid (un rows' + un cols' + M.toNat ≤ un rows + un cols)) (fun _ _ i _ _ => g.es.length - (intOf i).toNat)
      case atStart => exact ⟨0, N, false, rows, cols, by omega, rfl, rfl, rfl, HW, HI, hid (fun _ x hx => by simp at hx), hid (by simp)⟩
      case round =>
        clear HW HI
        obtain ⟨k, N, M, rows', cols', hk, rfl, rfl, rfl, HW, HI, HCL, HU⟩ := hrel
        have cg2 := row_cell HW.out.box 2 _ rfl
        by_cases hlt : k < g.es.length
        · obtain ⟨x, hx⟩ : ∃ x, g.es[k]? = some x := ⟨g.es[k], by simp [hlt]⟩
          have HXM := hid (List.mem_of_getElem? hx)
          obtain ⟨r, c, hxr, hxc, hr1, hc1, _⟩ := edge_ok HC.out HXM.out
          have HXR := hid hxr
          have HXC := hid hxc
          have HXX := hid hx
          obtain ⟨gg, o, rfl, hgg, hcc⟩ := (HR.out.kept HW.out.below).get hx
          have HCE : Hid (CellsAt wr gg (o + k * 3) #[.int .i64 r, .int .i64 c, .int .i64 x.w]) := hid (by rw [Nat.mul_comm, ← hxr, ← hxc]; exact hcc)
          obtain ⟨br, hbr⟩ : ∃ b, rows'[r]? = some b := ⟨rows'[r]'(by rw [HI.out.rl]; omega), List.getElem?_eq_getElem _⟩
          obtain ⟨bc, hbc⟩ : ∃ b, cols'[c]? = some b := ⟨cols'[c]'(by rw [HI.out.cl]; omega), List.getElem?_eq_getElem _⟩
          have HBR := hid hbr
          have HBC := hid hbc
          have hri : (r : Int) < (R : Int) := by omega
          have hci : (c : Int) < (C : Int) := by omega
          have hki : (k : Int) < (g.es.length : Int) := by omega
          have hk1 : (k : Int) + 1 ≤ 9223372036854775807 := by have := HLN.out; omega
          clear hx hxr hxc hr1 hc1 hcc hgg hbr hbc hlt
          go_upto_region 12 with (refine wpList_load_cells rfl 40 _ rfl _ _ rfl _ _ HCE.out Try.underlying40 rfl info_ed ?_)
          have HW3 := hid (HW.out.next ((Below.refl _ _).alloc (Nat.le_refl _) (.cells #[.int .i64 r, .int .i64 c, .int .i64 x.w] 40)))
          have HX3 : Hid ((wr.alloc (.cells #[.int .i64 r, .int .i64 c, .int .i64 x.w] 40)).heap[wr.heap.size]? = some (.cells #[.int .i64 r, .int .i64 c, .int .i64 x.w] 40 (0, 0))) := hid (heap_alloc_new _ _)
          generalize wr.alloc (.cells #[.int .i64 r, .int .i64 c, .int .i64 x.w] 40) = w3 at *
          have HGX := hid (heap_lt HW.out.col)
          generalize wr.heap.size = gx at *
          clear HW HCE cg2
          have cx0 := row_cell HX3.out 0 _ rfl
          have cx1 := row_cell HX3.out 1 _ rfl
          have cr := HW3.out.row.cell HBR.out
          have cc := HW3.out.col.cell HBC.out
          have fr := free_row HW3.out.row r
          have fc := free_row HW3.out.col c
          cases br <;> cases bc
          · -- L2
            have HCL2 := hid (fun e : M = false => closed_step (HCL.out e) HXX.out HXR.out HXC.out HBR.out HBC.out)
            go_wp2
            go_roundw
            case rel => exact ⟨k + 1, N, M, rows', cols', by omega, by go_num, rfl, rfl, HW3, HI, HCL2, HU⟩
            case measure => simp [intOf]; omega
            -- /L2
          · -- L3
            have HI2 := hid (reach_row HI.out HXM.out HXR.out HXC.out HBC.out HBR.out)
            have HN2 := hid (num_le HI2.out)
            have HU2 : Hid (un (rows'.set r true) + un cols' + true.toNat ≤ un rows + un cols) := hid (by have h1 := un_set HBR.out; have := HU.out; simp; omega)
            have HW4 := hid (HW3.out.setRow r)
            have hn9 : (N : Int) + 1 ≤ 9223372036854775807 := by have := HN2.out; have := HRI.out; omega
            go_wp2
            go_roundw
            case rel => exact ⟨k + 1, N + 1, true, rows'.set r true, cols', by omega, by go_num, by go_num, rfl, HW4, HI2, hid (fun h => by cases h), HU2⟩
            case measure => simp [intOf]; omega
            -- /L3
          · -- L4
            have HI2 := hid (reach_col HC.out HI.out HXM.out HXR.out HXC.out HBR.out)
            have HU2 : Hid (un rows' + un (cols'.set c true) + true.toNat ≤ un rows + un cols) := hid (by have h1 := un_set HBC.out; have := HU.out; simp; omega)
            have HW4 := hid (HW3.out.setCol c)
            have HX4 : Hid ((w3.setCell ⟨w.heap.size + 1 + 1, c, none⟩ (.bool true)).heap[gx]? = _) := hid ((heap_setCell_ne (by have := cell_lt cx0; have := HGX.out; omega)).trans HX3.out)
            go_upto_region 15 with fail
            clear fr fc cr cc cx0 cx1 HW3 HX3
            generalize w3.setCell ⟨w.heap.size + 1 + 1, c, none⟩ (.bool true) = w4 at *
            have cx0 := row_cell HX4.out 0 _ rfl
            have cx1 := row_cell HX4.out 1 _ rfl
            have cr := HW4.out.row.cell HBR.out
            have cc := HW4.out.col.cell (show (cols'.set c true)[c]? = some true by rw [List.getElem?_set]; simp [(List.getElem?_eq_some_iff.1 HBC.out).1])
            go_wp2
            go_roundw
            case rel => exact ⟨k + 1, N, true, rows', cols'.set c true, by omega, by go_num, rfl, rfl, HW4, HI2, hid (fun h => by cases h), HU2⟩
            case measure => simp [intOf]; omega
            -- /L4
          · -- L5
            have HCL2 := hid (fun e : M = false => closed_step (HCL.out e) HXX.out HXR.out HXC.out HBR.out HBC.out)
            go_wp2
            go_roundw
            case rel => exact ⟨k + 1, N, M, rows', cols', by omega, by go_num, rfl, rfl, HW3, HI, HCL2, HU⟩
            case measure => simp [intOf]; omega
            -- /L5
        · obtain rfl : k = g.es.length := by omega
          have hki : ¬ ((g.es.length : Int) < (g.es.length : Int)) := by omega
          clear hlt
          have HCL2 := hid (fun e : M = false => by have h := HCL.out e; rwa [List.take_length] at h)
          go_wp2
          go_roundw
          case rel => exact ⟨N, M, rows', cols', rfl, rfl, HW, HI, HCL2⟩
          case measure =>
            rw [HME.out]
            exact mea_less HW.out HU.out
      -- /L1
end Go.Proofs.Ytjhomkdnhdhffaa
