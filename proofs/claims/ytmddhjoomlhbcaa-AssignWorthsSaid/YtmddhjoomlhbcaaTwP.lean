/- The laws' copies of pairs: TwinPairs, LeftPairs. -/
import Derived.Test.YtmddhjoomlhbcaaAsLa
import Derived.Test.YtmddhjoomlhbcaaLeft
import Derived.Laws.MakeOwn
namespace Go.Proofs.Ytmddhjoomlhbcaa
open Go.RowKit
attribute [local go_sem high] eqPair

abbrev Pr := Int × Int
def markP : Pr := (-8777, 0)
def twinP (l : List Pr) (k : Nat) : List Pr := l.take k ++ List.replicate (l.length + 1 - k) (0, 0)
theorem twinP_zero (l : List Pr) : twinP l 0 = List.replicate (l.length + 1) (0, 0) := by simp [twinP]
theorem twinP_len (l : List Pr) {k : Nat} (hk : k ≤ l.length) : (twinP l k).length = l.length + 1 := by
  simp [twinP, Nat.min_eq_left hk]; omega
theorem twinP_set (l : List Pr) {k : Nat} {x : Pr} (h : l[k]? = some x) : (twinP l k).set k x = twinP l (k + 1) := by
  obtain ⟨hk, rfl⟩ := List.getElem?_eq_some_iff.1 h
  unfold twinP
  rw [List.set_append_right _ _ (by simp; omega), List.take_succ_eq_append_getElem hk, List.append_assoc]
  congr 1
  rw [List.length_take, Nat.min_eq_left (by omega), Nat.sub_self, show l.length + 1 - k = (l.length + 1 - (k + 1)) + 1 by omega, List.replicate_succ]
  rfl
theorem twinP_end (l : List Pr) : (twinP l l.length).set l.length markP = l ++ [markP] := by
  unfold twinP
  rw [List.take_length, List.set_append_right _ _ (by omega)]
  simp
theorem flatP_set (l : List Pr) (k : Nat) (x : Pr) : flatV prV (l.set k x) = ((flatV prV l).set (2 * k) (.int .i64 x.1)).set (2 * k + 1) (.int .i64 x.2) := by
  induction l generalizing k with
  | nil => rfl
  | cons a l ih =>
    cases k with
    | zero => simp [flatV, prV]
    | succ k =>
      rw [List.set_cons_succ]
      unfold flatV at *
      rw [List.flatMap_cons, List.flatMap_cons, ih]
      simp only [show 2 * (k + 1) = 2 * k + 2 by omega]
      rfl
def PrsAt (w : World) (g : Nat) (l : List Pr) : Prop := w.heap[g]? = some (.cells (flatV prV l).toArray 45 (0, 0))
theorem PrsAt.set {w : World} {g : Nat} {l : List Pr} (h : PrsAt w g l) (k : Nat) (x : Pr) :
    PrsAt ((w.setCell ⟨g, 2 * k, none⟩ (.int .i64 x.1)).setCell ⟨g, 2 * k + 1, none⟩ (.int .i64 x.2)) g (l.set k x) := by
  unfold PrsAt at *
  rw [flatP_set]
  have h1 : (w.setCell ⟨g, 2 * k, none⟩ (.int .i64 x.1)).heap[g]? = some (.cells ((flatV prV l).set (2 * k) (.int .i64 x.1)).toArray 45 (0, 0)) := by rw [row_setCell h]; simp
  rw [row_setCell h1]; simp
theorem PrsAt.cell {w : World} {g : Nat} {l : List Pr} (h : PrsAt w g l) {i : Nat} {x : Pr} (hx : l[i]? = some x) (j : Nat) (v : Value) (hv : (prV x)[j]? = some v) : w.cell? ⟨g, i * 2 + j, none⟩ = some v :=
  row_cell h _ _ (by rw [List.getElem?_toArray, Nat.mul_comm]; exact flatV_get (f := prV) (s := 2) (fun _ => rfl) l i x hx j v hv)
theorem PrsAt.rows {w : World} {g : Nat} {l : List Pr} (h : PrsAt w g l) {m : List Pr} (hm : ∃ t, l = m ++ t) : RowsAt 2 prV w (some ⟨g, 0, none⟩) m := by
  obtain ⟨t, rfl⟩ := hm
  refine .inr ⟨g, 0, rfl, heap_lt h, fun i x hx j v hj => ?_⟩
  have := h.cell (i := i) (x := x) (by rw [List.getElem?_append_left (List.getElem?_eq_some_iff.1 hx).1]; exact hx) j v hj
  rw [show 0 + 2 * i + j = i * 2 + j by omega]; exact this
theorem info_prT : (Try.prog.info? 45).map (fun i => (i.zero, i.size, i.bytes)) = some (some (.agg #[.int .i64 0, .int .i64 0]), 2, 16) := by kernel_rfl
theorem flatP_zero (n : Nat) : flatV prV (List.replicate n ((0, 0) : Pr)) = List.replicate (n * 2) (.int .i64 0) := by
  induction n with
  | zero => rfl
  | succ n ih =>
    rw [List.replicate_succ, Nat.succ_mul]
    unfold flatV at *
    rw [List.flatMap_cons, ih, Nat.add_comm, ← List.replicate_append_replicate]
    rfl
theorem made_prs (n : Nat) : madeCells (Value.agg #[.int .i64 0, .int .i64 0]).cells (n * 2) = (flatV prV (List.replicate n ((0, 0) : Pr))).toArray := by
  rw [flatP_zero]
  apply Array.ext
  · simp [size_madeCells]
  · intro i h1 h2
    simp only [madeCells, Array.getElem_map, Array.getElem_range, List.getElem_toArray, List.getElem_replicate]
    have : i % 2 < 2 := Nat.mod_lt _ (by omega)
    have h3 : (Value.agg #[.int .i64 0, .int .i64 0]).cells = #[.int .i64 0, .int .i64 0] := rfl
    rw [h3]
    show #[Value.int .i64 0, .int .i64 0][i % 2]! = _
    generalize i % 2 = j at *
    match j, this with
    | 0, _ => rfl
    | 1, _ => rfl
def TwinPPost (w : World) (l : List Pr) (e : Ending) (w' : World) : Prop :=
  ∃ g, e = .returned (.slice (some ⟨g, 0, none⟩) l.length (l.length + 1)) ∧ w.heap.size ≤ g ∧ PrsAt w' g (l ++ [markP]) ∧ Below w.heap.size w w'
set_option maxRecDepth 100000 in
theorem markPair_any (n : Int) (w : World) (hn : n = 7777 := by rfl) :
    Calls Try.prog 34 #[.int .i64 n] w fun e w' => e = .returned (.agg #[.int .i64 (-8777), .int .i64 0]) ∧ Below w.heap.size w w' := by
  subst hn
  go_enter Try.func34, Try.ntmps34
  go_wp2
  refine bodyPost_ret (results_cell_row rfl _ _ _ 45 _ _ _ rfl (heap_alloc_new _ _) Try.underlying45 rfl info_pr) rfl ⟨rfl, (Below.refl _ _).alloc (Nat.le_refl _) _⟩
set_option maxRecDepth 100000 in
set_option maxHeartbeats 4000000 in
theorem twinPairs_any (l : List Pr) (a : Option Addr) (cap : Nat) (hl : l.length ≤ 1048576) (w : World) (hr : RowsAt 2 prV w a l) :
    Calls Try.prog 16 #[.slice a l.length cap] w (TwinPPost w l) := by
  have HR := hid hr
  clear hr
  obtain ⟨cs, hcs⟩ : ∃ cs, cs = (flatV prV (twinP l 0)).toArray := ⟨_, rfl⟩
  have hmk : (Instr.makeSlice 25 (.int .i64 ((l.length : Int) + 1)) (.int .i64 ((l.length : Int) + 1))).run Try.prog w = .ok (.slice (some ⟨w.heap.size, 0, none⟩) (l.length + 1) (l.length + 1)) (w.alloc (.cells cs 45)) := by
    obtain ⟨i, hi, hz0, hz1, hz2⟩ := info_parts info_prT
    have h := run_make (P := Try.prog) w 25 45 i _ Try.underlying25 hi hz0 .i64 .i64 ((l.length : Int) + 1) ((l.length : Int) + 1) (by omega) (by omega) (by rw [hz2]; omega) (by omega)
    rw [h, hz1, hcs, twinP_zero, show ((l.length : Int) + 1).toNat = l.length + 1 by omega, made_prs]
  have HN0 : Hid (PrsAt (w.alloc (.cells cs 45)) w.heap.size (twinP l 0)) := hid (by unfold PrsAt; rw [← hcs]; exact heap_alloc_new _ _)
  clear hcs
  have HB0 : Hid (Below w.heap.size w (w.alloc (.cells cs 45))) := hid ((Below.refl _ _).alloc (Nat.le_refl _) _)
  go_enter Try.func16, Try.ntmps16
  go_wp2
  clear hmk
  generalize w.alloc (.cells cs 45) = w1 at *
  go_loopw [4] (fun i wr => ∃ k : Nat, k ≤ l.length ∧ i = .int .i64 k ∧ Hid (PrsAt wr w.heap.size (twinP l k)) ∧ Hid (Below w.heap.size w wr)) (fun i _ => l.length - (intOf i).toNat)
  case atStart => exact ⟨0, by omega, rfl, HN0, HB0⟩
  case round =>
    clear HN0 HB0
    obtain ⟨k, hk, rfl, HN, HB⟩ := hrel
    by_cases hlt : k < l.length
    · obtain ⟨x, hx⟩ : ∃ x, l[k]? = some x := ⟨l[k], by simp [hlt]⟩
      obtain ⟨gg, o, rfl, hgg, hcc⟩ := (HR.out.kept HB.out).get hx
      have HC : Hid (CellsAt wr gg (o + k * 2) #[.int .i64 x.1, .int .i64 x.2]) := hid (by rw [Nat.mul_comm]; exact hcc)
      have hy : ∃ y, (twinP l k)[k]? = some y := ⟨(twinP l k)[k]'(by rw [twinP_len l hk]; omega), List.getElem?_eq_getElem _⟩
      obtain ⟨y, hy⟩ := hy
      have HS := hid (twinP_set l hx)
      have c0 : wr.cell? ⟨w.heap.size, k * 2, none⟩ = some (.int .i64 y.1) := HN.out.cell hy 0 _ rfl
      have c1 : wr.cell? ⟨w.heap.size, k * 2 + 1, none⟩ = some (.int .i64 y.2) := HN.out.cell hy 1 _ rfl
      have f0 := free_row HN.out (k * 2)
      have f1 := free_row HN.out (k * 2 + 1)
      have HE : Hid (PrsAt ((wr.setCell ⟨w.heap.size, k * 2, none⟩ (.int .i64 x.1)).setCell ⟨w.heap.size, k * 2 + 1, none⟩ (.int .i64 x.2)) w.heap.size (twinP l (k + 1))) := hid (by rw [← HS.out, Nat.mul_comm]; exact HN.out.set k x)
      have HB2 : Hid (Below w.heap.size w ((wr.setCell ⟨w.heap.size, k * 2, none⟩ (.int .i64 x.1)).setCell ⟨w.heap.size, k * 2 + 1, none⟩ (.int .i64 x.2))) := hid ((HB.out.setCell (Nat.le_refl _) _).setCell (Nat.le_refl _) _)
      clear hx hcc hgg hy
      go_wp2_with (refine wpList_load_cells rfl 45 _ rfl _ _ rfl _ _ HC.out Try.underlying45 rfl info_pr ?_)
      go_roundw
      case rel => exact ⟨k + 1, by omega, by go_num, HE, HB2⟩
      case measure => simp [intOf]; omega
    · obtain rfl : k = l.length := by omega
      have hy : ∃ y, (twinP l l.length)[l.length]? = some y := ⟨(twinP l l.length)[l.length]'(by rw [twinP_len l hk]; omega), List.getElem?_eq_getElem _⟩
      obtain ⟨y, hy⟩ := hy
      have HS := hid (twinP_end l)
      have HY := hid hy
      have hl0 : l.length < l.length + 1 := by omega
      have HFIN : ∀ w2 : World, PrsAt w2 w.heap.size (twinP l l.length) → PrsAt ((w2.setCell ⟨w.heap.size, l.length * 2, none⟩ (.int .i64 (-8777))).setCell ⟨w.heap.size, l.length * 2 + 1, none⟩ (.int .i64 0)) w.heap.size (l ++ [markP]) := fun w2 h => by
        rw [← HS.out, Nat.mul_comm]; exact h.set l.length markP
      have HF := hid HFIN
      clear hy HFIN
      go_wp2_with (go_at_call 34; refine (markPair_any _ _).mono ?_; rintro e w2 ⟨rfl, hb2⟩; have HN2 : Hid (PrsAt w2 w.heap.size (twinP l l.length)) := hid (below_keep hb2 HN.out); have HB2 := hid (HB.out.trans (hb2.mono HB.out.size)); have c0 : w2.cell? ⟨w.heap.size, l.length * 2, none⟩ = some (.int .i64 y.1) := HN2.out.cell HY.out 0 _ rfl; have c1 : w2.cell? ⟨w.heap.size, l.length * 2 + 1, none⟩ = some (.int .i64 y.2) := HN2.out.cell HY.out 1 _ rfl; have f0 := free_row HN2.out (l.length * 2); have f1 := free_row HN2.out (l.length * 2 + 1); clear hb2)
      go_ret
      exact ⟨_, rfl, Nat.le_refl _, HF.out _ HN2.out, (HB2.out.setCell (Nat.le_refl _) _).setCell (Nat.le_refl _) _⟩
set_option maxRecDepth 100000 in
theorem isPair_mark (w : World) (n : Int) (hn : n = 7777 := by rfl) : Calls Try.prog 38 #[.agg #[.int .i64 (-8777), .int .i64 0], .int .i64 n] w fun e w' => e = .returned (.bool true) ∧ Below w.heap.size w w' := by
  subst hn
  have hu := Try.underlying45
  have HB := hid ((Below.refl w.heap.size w).alloc (Nat.le_refl _) (.cells #[.int .i64 (-8777), .int .i64 0] 45))
  go_enter Try.func38, Try.ntmps38
  go_upto_region 1 with fail
  have HE := hid (heap_alloc_new w (.cells #[.int .i64 (-8777), .int .i64 0] 45))
  generalize w.alloc (.cells #[.int .i64 (-8777), .int .i64 0] 45) = w1 at *
  go_wp2_with (refine wpList_load_w rfl 45 _ rfl _ rfl _ _ _ _ (HE.out) Try.underlying45 rfl (info_pr) ?_)
  go_ret
  exact ⟨rfl, HB.out⟩
set_option maxRecDepth 100000 in
theorem leftPairs_any (l : List Pr) (b : Nat) (B : Option Addr) (cb : Nat) (hl : l.length ≤ 1048576) (w : World) (ha : PrsAt w b (l ++ [markP])) (hb : RowsAt 2 prV w B l) :
    Calls Try.prog 19 #[.slice (some ⟨b, 0, none⟩) l.length (l.length + 1), .slice B l.length cb] w fun e w' => e = .returned (.bool true) ∧ Below w.heap.size w w' := by
  have HA := hid ha
  have HB := hid hb
  clear ha hb
  have CS := hid ((samePairs_any l l (some ⟨b, 0, none⟩) B (l.length + 1) cb (by omega) (by omega) w (HA.out.rows ⟨_, rfl⟩) HB.out).mono fun e w' h => (⟨by rw [h.1, decide_eq_true rfl], h.2⟩ : e = .returned (.bool true) ∧ ∃ m, w' = w.drewN m))
  go_enter Try.func19, Try.ntmps19
  go_wp2_with fail
  refine CS.out.mono ?_
  rintro e w1 ⟨rfl, m, rfl⟩
  have hl1 : (l.length : Int) + 1 ≤ (l.length : Int) + 1 := by omega
  have hl0 : (l.length : Int) < (l.length : Int) + 1 := by omega
  have HCE : Hid (CellsAt (w.drewN m) b (l.length * 2) #[.int .i64 (-8777), .int .i64 0]) := hid (fun j v hj => HA.out.cell (i := l.length) (x := markP) (by simp) j v hj)
  have HD : Hid (Below w.heap.size w (w.drewN m)) := hid (below_dn w m)
  clear CS
  go_wp2_with (refine wpList_load_cells rfl 45 _ rfl _ _ rfl _ _ HCE.out Try.underlying45 rfl info_pr ?_)
  refine (isPair_mark _ _).mono ?_
  rintro e w2 ⟨rfl, hb2⟩
  have HB2 := hid (HD.out.trans (hb2.mono HD.out.size))
  clear hb2
  go_wp2
  go_ret
  exact ⟨rfl, HB2.out⟩
end Go.Proofs.Ytmddhjoomlhbcaa
