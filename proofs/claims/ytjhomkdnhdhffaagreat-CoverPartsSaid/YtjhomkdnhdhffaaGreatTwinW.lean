/- The walks of the laws' copies of a graph: TwinEdges, TwinGraph. -/
import Derived.Test.YtjhomkdnhdhffaaGreatGrCheck
import Derived.Test.YtjhomkdnhdhffaaGreatTab
import Derived.Deep.QuietTactic
import Derived.Laws.MakeOwn
namespace Go.Proofs.YtjhomkdnhdhffaaGreat
open Go.RowKit

def edsV (l : List Ed) : List Value := l.flatMap fun e => [.int .i64 e.r, .int .i64 e.c, .int .i64 e.w]
theorem edsV_len (l : List Ed) : (edsV l).length = 3 * l.length := by
  unfold edsV
  induction l with
  | nil => rfl
  | cons a l ih => rw [List.flatMap_cons, List.length_append, ih]; simp; omega
theorem edsV_get {l : List Ed} {i : Nat} {x : Ed} (h : l[i]? = some x) : ∀ (j : Nat) v, (edV x)[j]? = some v → (edsV l)[3 * i + j]? = some v := by
  induction l generalizing i with
  | nil => simp at h
  | cons a l ih =>
    intro j v hj
    have hj3 : j < 3 := (Array.getElem?_eq_some_iff.1 hj).1
    unfold edsV at *
    rw [List.flatMap_cons]
    cases i with
    | zero =>
      simp at h; subst h
      rw [List.getElem?_append_left (by simp; omega)]
      rw [show 3 * 0 + j = j by omega]
      rw [← hj]
      simp [edV]
    | succ i =>
      rw [List.getElem?_append_right (by simp; omega)]
      have := ih (by simpa using h) j v hj
      rw [← this]
      congr 1
      simp; omega
/-- What is made: the copied edges, the rest as it was made, or the mark. -/
def zeroEd : Ed := ⟨0, 0, 0⟩
def markEd : Ed := ⟨0, 0, -8777⟩
def twinTo (l : List Ed) (k : Nat) : List Ed := l.take k ++ List.replicate (l.length + 1 - k) zeroEd
theorem twinTo_zero (l : List Ed) : twinTo l 0 = List.replicate (l.length + 1) zeroEd := by simp [twinTo]
theorem twinTo_len (l : List Ed) {k : Nat} (hk : k ≤ l.length) : (twinTo l k).length = l.length + 1 := by
  simp [twinTo, Nat.min_eq_left hk]; omega
theorem twinTo_set (l : List Ed) {k : Nat} {x : Ed} (h : l[k]? = some x) : (twinTo l k).set k x = twinTo l (k + 1) := by
  obtain ⟨hk, rfl⟩ := List.getElem?_eq_some_iff.1 h
  unfold twinTo
  rw [List.set_append_right _ _ (by simp; omega), List.take_succ_eq_append_getElem hk, List.append_assoc]
  congr 1
  rw [List.length_take, Nat.min_eq_left (by omega), Nat.sub_self, show l.length + 1 - k = (l.length + 1 - (k + 1)) + 1 by omega, List.replicate_succ]
  rfl
theorem twinTo_end (l : List Ed) : (twinTo l l.length).set l.length markEd = l ++ [markEd] := by
  unfold twinTo
  rw [List.take_length, List.set_append_right _ _ (by omega)]
  simp
theorem edsV_set (l : List Ed) (k : Nat) (x : Ed) : edsV (l.set k x) = (((edsV l).set (3 * k) (.int .i64 x.r)).set (3 * k + 1) (.int .i64 x.c)).set (3 * k + 2) (.int .i64 x.w) := by
  induction l generalizing k with
  | nil => rfl
  | cons a l ih =>
    cases k with
    | zero => simp [edsV]
    | succ k =>
      rw [List.set_cons_succ]
      unfold edsV at *
      rw [List.flatMap_cons, List.flatMap_cons, ih]
      simp only [show 3 * (k + 1) = 3 * k + 3 by omega]
      rfl
/-- Edges in a block of their own. -/
def EdsAt (w : World) (g : Nat) (l : List Ed) : Prop := w.heap[g]? = some (.cells (edsV l).toArray 78 (0, 0))
theorem EdsAt.set {w : World} {g : Nat} {l : List Ed} (h : EdsAt w g l) (k : Nat) (x : Ed) :
    EdsAt (((w.setCell ⟨g, 3 * k, none⟩ (.int .i64 x.r)).setCell ⟨g, 3 * k + 1, none⟩ (.int .i64 x.c)).setCell ⟨g, 3 * k + 2, none⟩ (.int .i64 x.w)) g (l.set k x) := by
  unfold EdsAt at *
  rw [edsV_set]
  have h1 : (w.setCell ⟨g, 3 * k, none⟩ (.int .i64 x.r)).heap[g]? = some (.cells ((edsV l).set (3 * k) (.int .i64 x.r)).toArray 78 (0, 0)) := by rw [row_setCell h]; simp
  have h2 : ((w.setCell ⟨g, 3 * k, none⟩ (.int .i64 x.r)).setCell ⟨g, 3 * k + 1, none⟩ (.int .i64 x.c)).heap[g]? = some (.cells (((edsV l).set (3 * k) (.int .i64 x.r)).set (3 * k + 1) (.int .i64 x.c)).toArray 78 (0, 0)) := by rw [row_setCell h1]; simp
  rw [row_setCell h2]; simp
theorem EdsAt.rows {w : World} {g : Nat} {l : List Ed} (h : EdsAt w g l) {m : List Ed} (hm : ∃ t, l = m ++ t) : RowsAt 3 edV w (some ⟨g, 0, none⟩) m := by
  obtain ⟨t, rfl⟩ := hm
  refine .inr ⟨g, 0, rfl, heap_lt h, fun i x hx j v hj => row_cell h _ _ ?_⟩
  rw [List.getElem?_toArray, show 0 + 3 * i + j = 3 * i + j by omega]
  refine edsV_get (x := x) ?_ j v hj
  rw [List.getElem?_append_left (List.getElem?_eq_some_iff.1 hx).1]; exact hx

theorem info_edT : (Tryz.prog.info? 78).map (fun i => (i.zero, i.size, i.bytes)) = some (some (.agg #[.int .i64 0, .int .i64 0, .int .i64 0]), 3, 24) := by kernel_rfl
theorem edsV_zero (n : Nat) : edsV (List.replicate n zeroEd) = List.replicate (n * 3) (.int .i64 0) := by
  induction n with
  | zero => rfl
  | succ n ih =>
    rw [List.replicate_succ, Nat.succ_mul]
    unfold edsV at *
    rw [List.flatMap_cons, ih, Nat.add_comm, ← List.replicate_append_replicate]
    rfl
theorem made_eds (n : Nat) : madeCells (Value.agg #[.int .i64 0, .int .i64 0, .int .i64 0]).cells (n * 3) = (edsV (List.replicate n zeroEd)).toArray := by
  rw [edsV_zero]
  apply Array.ext
  · simp [size_madeCells]
  · intro i h1 h2
    simp only [madeCells, Array.getElem_map, Array.getElem_range, List.getElem_toArray, List.getElem_replicate]
    have : i % 3 < 3 := Nat.mod_lt _ (by omega)
    have h3 : (Value.agg #[.int .i64 0, .int .i64 0, .int .i64 0]).cells = #[.int .i64 0, .int .i64 0, .int .i64 0] := rfl
    rw [h3]
    show #[Value.int .i64 0, .int .i64 0, .int .i64 0][i % 3]! = _
    generalize i % 3 = j at *
    match j, this with
    | 0, _ => rfl
    | 1, _ => rfl
    | 2, _ => rfl
/-- What TwinEdges answers: the copy in a block of its own, the mark behind it. -/
def TwinPost (w : World) (l : List Ed) (e : Ending) (w' : World) : Prop :=
  ∃ g, e = .returned (.slice (some ⟨g, 0, none⟩) l.length (l.length + 1)) ∧ w.heap.size ≤ g ∧ EdsAt w' g (l ++ [markEd]) ∧ Below w.heap.size w w'
set_option maxRecDepth 100000 in
theorem markEdge_any (n : Int) (w : World) (hn : n = 7777 := by rfl) :
    Calls Tryz.prog 111 #[.int .i64 n] w fun e w' => e = .returned (.agg #[.int .i64 0, .int .i64 0, .int .i64 (-8777)]) ∧ Below w.heap.size w w' := by
  subst hn
  go_enter Tryz.func111, Tryz.ntmps111
  go_wp2
  refine bodyPost_ret (results_cell_row rfl _ _ _ 78 _ _ _ rfl (heap_alloc_new _ _) Tryz.underlying78 rfl info_ed) rfl ⟨rfl, (Below.refl _ _).alloc (Nat.le_refl _) _⟩
set_option maxRecDepth 100000 in
set_option maxHeartbeats 4000000 in
theorem twinEdges_any (l : List Ed) (a : Option Addr) (cap : Nat) (hl : l.length ≤ 1048576) (w : World) (hr : RowsAt 3 edV w a l) :
    Calls Tryz.prog 23 #[.slice a l.length cap] w (TwinPost w l) := by
  have HR := hid hr
  clear hr
  obtain ⟨cs, hcs⟩ : ∃ cs, cs = (edsV (twinTo l 0)).toArray := ⟨_, rfl⟩
  have hmk : (Instr.makeSlice 22 (.int .i64 ((l.length : Int) + 1)) (.int .i64 ((l.length : Int) + 1))).run Tryz.prog w = .ok (.slice (some ⟨w.heap.size, 0, none⟩) (l.length + 1) (l.length + 1)) (w.alloc (.cells cs 78)) := by
    obtain ⟨i, hi, hz0, hz1, hz2⟩ := info_parts info_edT
    have h := run_make (P := Tryz.prog) w 22 78 i _ Tryz.underlying22 hi hz0 .i64 .i64 ((l.length : Int) + 1) ((l.length : Int) + 1) (by omega) (by omega) (by rw [hz2]; omega) (by omega)
    rw [h, hz1, hcs, twinTo_zero, show ((l.length : Int) + 1).toNat = l.length + 1 by omega, made_eds]
  have HN0 : Hid (EdsAt (w.alloc (.cells cs 78)) w.heap.size (twinTo l 0)) := hid (by unfold EdsAt; rw [← hcs]; exact heap_alloc_new _ _)
  clear hcs
  have HB0 : Hid (Below w.heap.size w (w.alloc (.cells cs 78))) := hid ((Below.refl _ _).alloc (Nat.le_refl _) _)
  go_enter Tryz.func23, Tryz.ntmps23
  go_wp2
  clear hmk
  generalize w.alloc (.cells cs 78) = w1 at *
  go_loopw [4] (fun i wr => ∃ k : Nat, k ≤ l.length ∧ i = .int .i64 k ∧ Hid (EdsAt wr w.heap.size (twinTo l k)) ∧ Hid (Below w.heap.size w wr)) (fun i _ => l.length - (intOf i).toNat)
  case atStart => exact ⟨0, by omega, rfl, HN0, HB0⟩
  case round =>
    clear HN0 HB0
    obtain ⟨k, hk, rfl, HN, HB⟩ := hrel
    by_cases hlt : k < l.length
    · obtain ⟨x, hx⟩ : ∃ x, l[k]? = some x := ⟨l[k], by simp [hlt]⟩
      obtain ⟨gg, o, rfl, hgg, hcc⟩ := (HR.out.kept HB.out).get hx
      have HC : Hid (CellsAt wr gg (o + k * 3) #[.int .i64 x.r, .int .i64 x.c, .int .i64 x.w]) := hid (by rw [Nat.mul_comm]; exact hcc)
      have hy : ∃ y, (twinTo l k)[k]? = some y := ⟨(twinTo l k)[k]'(by rw [twinTo_len l hk]; omega), List.getElem?_eq_getElem _⟩
      obtain ⟨y, hy⟩ := hy
      have HS := hid (twinTo_set l hx)
      have cell : ∀ (j : Nat) v, (edV y)[j]? = some v → wr.cell? ⟨w.heap.size, k * 3 + j, none⟩ = some v := fun j v hj => row_cell HN.out _ _ (by rw [List.getElem?_toArray, Nat.mul_comm]; exact edsV_get hy j v hj)
      have c0 : wr.cell? ⟨w.heap.size, k * 3, none⟩ = some (.int .i64 y.r) := cell 0 _ rfl
      have c1 : wr.cell? ⟨w.heap.size, k * 3 + 1, none⟩ = some (.int .i64 y.c) := cell 1 _ rfl
      have c2 : wr.cell? ⟨w.heap.size, k * 3 + 2, none⟩ = some (.int .i64 y.w) := cell 2 _ rfl
      have f0 := free_row HN.out (k * 3)
      have f1 := free_row HN.out (k * 3 + 1)
      have f2 := free_row HN.out (k * 3 + 2)
      have HE : Hid (EdsAt (((wr.setCell ⟨w.heap.size, k * 3, none⟩ (.int .i64 x.r)).setCell ⟨w.heap.size, k * 3 + 1, none⟩ (.int .i64 x.c)).setCell ⟨w.heap.size, k * 3 + 2, none⟩ (.int .i64 x.w)) w.heap.size (twinTo l (k + 1))) := hid (by rw [← HS.out, Nat.mul_comm]; exact HN.out.set k x)
      have HB2 : Hid (Below w.heap.size w (((wr.setCell ⟨w.heap.size, k * 3, none⟩ (.int .i64 x.r)).setCell ⟨w.heap.size, k * 3 + 1, none⟩ (.int .i64 x.c)).setCell ⟨w.heap.size, k * 3 + 2, none⟩ (.int .i64 x.w))) := hid (((HB.out.setCell (Nat.le_refl _) _).setCell (Nat.le_refl _) _).setCell (Nat.le_refl _) _)
      clear hx hcc hgg hy cell
      go_wp2_with (refine wpList_load_cells rfl 78 _ rfl _ _ rfl _ _ HC.out Tryz.underlying78 rfl info_ed ?_)
      go_roundw
      case rel => exact ⟨k + 1, by omega, by go_num, HE, HB2⟩
      case measure => simp [intOf]; omega
    · obtain rfl : k = l.length := by omega
      have hy : ∃ y, (twinTo l l.length)[l.length]? = some y := ⟨(twinTo l l.length)[l.length]'(by rw [twinTo_len l hk]; omega), List.getElem?_eq_getElem _⟩
      obtain ⟨y, hy⟩ := hy
      have HS := hid (twinTo_end l)
      have cell : ∀ (w2 : World), EdsAt w2 w.heap.size (twinTo l l.length) → ∀ (j : Nat) v, (edV y)[j]? = some v → w2.cell? ⟨w.heap.size, l.length * 3 + j, none⟩ = some v := fun w2 h j v hj => row_cell h _ _ (by rw [List.getElem?_toArray, Nat.mul_comm]; exact edsV_get hy j v hj)
      have hl0 : l.length < l.length + 1 := by omega
      have HFIN : ∀ w2 : World, EdsAt w2 w.heap.size (twinTo l l.length) → EdsAt (((w2.setCell ⟨w.heap.size, l.length * 3, none⟩ (.int .i64 0)).setCell ⟨w.heap.size, l.length * 3 + 1, none⟩ (.int .i64 0)).setCell ⟨w.heap.size, l.length * 3 + 2, none⟩ (.int .i64 (-8777))) w.heap.size (l ++ [markEd]) := fun w2 h => by
        rw [← HS.out, Nat.mul_comm]; exact h.set l.length markEd
      go_wp2_with (go_at_call 111; refine (markEdge_any _ _).mono ?_; rintro e w2 ⟨rfl, hb2⟩; have HN2 : Hid (EdsAt w2 w.heap.size (twinTo l l.length)) := hid (below_keep hb2 HN.out); have HB2 := hid (HB.out.trans (hb2.mono HB.out.size)); have c0 : w2.cell? ⟨w.heap.size, l.length * 3, none⟩ = some (.int .i64 y.r) := cell w2 HN2.out 0 _ rfl; have c1 : w2.cell? ⟨w.heap.size, l.length * 3 + 1, none⟩ = some (.int .i64 y.c) := cell w2 HN2.out 1 _ rfl; have c2 : w2.cell? ⟨w.heap.size, l.length * 3 + 2, none⟩ = some (.int .i64 y.w) := cell w2 HN2.out 2 _ rfl; have f0 := free_row HN2.out (l.length * 3); have f1 := free_row HN2.out (l.length * 3 + 1); have f2 := free_row HN2.out (l.length * 3 + 2); clear hb2)
      go_ret
      exact ⟨_, rfl, Nat.le_refl _, HFIN _ HN2.out, ((HB2.out.setCell (Nat.le_refl _) _).setCell (Nat.le_refl _) _).setCell (Nat.le_refl _) _⟩

theorem gr_one (x y : Int) (s : Option Addr) (n m : Nat) : ∀ v ∈ (#[.int .i64 x, .int .i64 y, .slice s n m] : Array Value).toList, v.oneCell' = true := by simp [Value.oneCell']
def TwinGPost (w : World) (g : Gr) (e : Ending) (w' : World) : Prop :=
  ∃ b, e = .returned (grV g (some ⟨b, 0, none⟩) (g.es.length + 1)) ∧ w.heap.size ≤ b ∧ EdsAt w' b (g.es ++ [markEd]) ∧ Below w.heap.size w w'
set_option maxRecDepth 100000 in
set_option maxHeartbeats 4000000 in
theorem twinGraph_any (g : Gr) (a : Option Addr) (cap : Nat) (hl : g.es.length ≤ 1048576) (w : World) (hr : RowsAt 3 edV w a g.es) :
    Calls Tryz.prog 7 #[grV g a cap] w (TwinGPost w g) := by
  have CT := hid (fun w hr => twinEdges_any g.es a cap hl w hr)
  have HR := hid hr
  clear hr
  unfold grV
  go_enter Tryz.func7, Tryz.ntmps7
  go_wp2_with fail
  refine (CT.out _ ((HR.out.alloc _).alloc _)).mono ?_
  rintro e w2 ⟨b, rfl, hb, hea, hbel⟩
  have hba : Below w.heap.size w ((w.alloc (.cells #[.int .i64 g.rows, .int .i64 g.cols, .slice a g.es.length cap] 24)).alloc (.cells #[.int .i64 0, .int .i64 0, .slice none 0 0] 24)) := ((Below.refl _ _).alloc (Nat.le_refl _) _).alloc (by simp) _
  have HB2 := hid (hba.trans (hbel.mono hba.size))
  have HX1 := hid (below_keep hbel (alloc_keep (heap_alloc_new w (.cells #[.int .i64 g.rows, .int .i64 g.cols, .slice a g.es.length cap] 24)) (.cells #[.int .i64 0, .int .i64 0, .slice none 0 0] 24)))
  have HX2 := hid (below_keep hbel (heap_2 w (.cells #[.int .i64 g.rows, .int .i64 g.cols, .slice a g.es.length cap] 24) (.cells #[.int .i64 0, .int .i64 0, .slice none 0 0] 24)))
  have HEA := hid hea
  have hbb : w.heap.size + 2 ≤ b := by simp at hb; omega
  clear hea hbel hb hba
  have c2 := row_cell HX1.out 2 _ rfl
  have f2 := free_row HX1.out 2
  have HX3 := hid (row_setCell HX1.out 2 (.slice (some ⟨b, 0, none⟩) g.es.length (g.es.length + 1)))
  have HX4 : Hid ((w2.setCell ⟨w.heap.size, 2, none⟩ (.slice (some ⟨b, 0, none⟩) g.es.length (g.es.length + 1))).heap[w.heap.size + 1]? = _) := hid ((heap_setCell_ne (by omega)).trans HX2.out)
  have HX5 : Hid (EdsAt (w2.setCell ⟨w.heap.size, 2, none⟩ (.slice (some ⟨b, 0, none⟩) g.es.length (g.es.length + 1))) b (g.es ++ [markEd])) := hid (by unfold EdsAt; rw [heap_setCell_ne (by omega)]; exact HEA.out)
  have HB5 := hid (HB2.out.setCell (p := ⟨w.heap.size, 2, none⟩) (Nat.le_refl _) (.slice (some ⟨b, 0, none⟩) g.es.length (g.es.length + 1)))
  go_upto_region 2 with fail
  generalize w2.setCell ⟨w.heap.size, 2, none⟩ (.slice (some ⟨b, 0, none⟩) g.es.length (g.es.length + 1)) = w3 at *
  clear c2 f2
  go_wp2_with (first | (refine wpList_load_w rfl 24 _ rfl _ rfl _ _ _ _ (HX3.out) Tryz.underlying24 rfl (info_gr) ?_) | (refine wpList_store_row rfl 24 _ _ rfl (w.heap.size + 1) rfl _ rfl _ _ HX4.out rfl (gr_one _ _ _ _ _) info_gr _ rfl ?_))
  refine bodyPost_ret (results_cell_row rfl _ _ (w.heap.size + 1) 24 _ (0, 0) _ rfl (setRow_at HX4.out _) Tryz.underlying24 rfl info_gr) rfl ⟨b, rfl, by omega, ?_, below_setRow' HB5.out (by omega) _⟩
  unfold EdsAt
  rw [setRow_other _ _ _ _ (by omega)]; exact HX5.out
end Go.Proofs.YtjhomkdnhdhffaaGreat
