/- The walk of the reference's Cover: the same rows and columns. -/
import Derived.Test.YtjhomkdnhdhffaaGreatRfM
namespace Go.Proofs.YtjhomkdnhdhffaaGreat
open Go.RowKit

/-- The columns to which spare rows ahead of r have edges. -/
def inTo (g : Gr) (P : Nat → Bool) (r d : Nat) : Bool := (List.range r).any fun x => !P x && decide (d ∈ tlAt g x)
def inAt (g : Gr) (P : Nat → Bool) (r c d : Nat) : Bool := inTo g P r d || (decide (d < c) && decide (d ∈ tlAt g r))
theorem inTo_zero (g : Gr) (P : Nat → Bool) : inTo g P 0 = fun _ => false := by funext d; simp [inTo]
theorem inAt_zero (g : Gr) (P : Nat → Bool) (r : Nat) : inAt g P r 0 = inTo g P r := by funext d; simp [inAt]
theorem inTo_no {g : Gr} {P : Nat → Bool} {r : Nat} (h : P r = true) : inTo g P (r + 1) = inTo g P r := by
  funext d
  unfold inTo
  rw [List.range_succ, List.any_append]
  simp [h]
theorem inAt_all {g : Gr} {P : Nat → Bool} {r C : Nat} (h : P r = false) (hC : ∀ d ∈ tlAt g r, d < C) : inAt g P r C = inTo g P (r + 1) := by
  funext d
  unfold inAt inTo
  rw [List.range_succ, List.any_append]
  simp only [List.any_cons, List.any_nil, Bool.or_false, h, Bool.not_false, Bool.true_and]
  congr 1
  by_cases e : d ∈ tlAt g r
  · simp [e, hC d e]
  · simp [e]
theorem inAt_at (g : Gr) (P : Nat → Bool) (r c : Nat) : inAt g P r (c + 1) c = (inAt g P r c c || decide (c ∈ tlAt g r)) := by
  unfold inAt
  simp
theorem inAt_other (g : Gr) (P : Nat → Bool) (r c : Nat) {d : Nat} (h : d ≠ c) : inAt g P r (c + 1) d = inAt g P r c d := by
  unfold inAt
  congr 2
  exact decide_eq_decide.2 (by omega)
theorem rowE_setB (E F : Nat → Bool) {C c : Nat} {x : Bool} (h1 : F c = x) (h2 : ∀ d, d ≠ c → F d = E d) : (rowE E C).setIfInBounds c (.bool x) = rowE F C := by
  apply Array.ext_getElem?
  intro i
  rw [Array.getElem?_setIfInBounds]
  by_cases hi : i < C
  · rw [rowE_get _ hi, rowE_get _ hi]
    by_cases e : c = i
    · subst e; rw [if_pos rfl, if_pos (by simp [rowE, hi]), h1]
    · rw [if_neg e, h2 i (fun h => e h.symm)]
  · rw [Array.getElem?_eq_none (by simp [rowE]; omega), Array.getElem?_eq_none (by simp [rowE]; omega)]
    split
    · rw [if_neg (by simp [rowE]; omega)]
    · rfl
def fl (P : Nat → Bool) (r : Nat) : List Nat := (List.range r).filter P
theorem fl_yes {P : Nat → Bool} {r : Nat} (h : P r = true) : fl P (r + 1) = fl P r ++ [r] := by
  unfold fl
  rw [List.range_succ, List.filter_append]
  simp [h]
theorem fl_no {P : Nat → Bool} {r : Nat} (h : P r = false) : fl P (r + 1) = fl P r := by
  unfold fl
  rw [List.range_succ, List.filter_append]
  simp [h]
theorem fl_len (P : Nat → Bool) (r : Nat) : (fl P r).length ≤ r := by
  unfold fl
  exact Nat.le_trans (List.length_filter_le _ _) (by simp)
theorem natsV_snoc (l : List Nat) (r : Nat) : intV (nats (l ++ [r])) = intV (nats l) ++ [.int .i64 r] := by simp [intV, nats]

structure CR (w wr : World) (g : Gr) (a : Option Addr) (cap gb pn go gm gi R C : Nat) (hv : Value) (out : List Bool) (E : Nat → Bool) (v : Value) (L : List Nat) : Prop where
  mr : MR w wr g a cap gb pn go gm go R C hv out noMarks
  inn : wr.heap[gi]? = some (.cells (rowE E C) 4 (0, 0))
  own : wr.ownsRow go 3 1 v L.length (intV (nats L))
  gi : gm < gi
section
variable {w wr w' : World} {g : Gr} {a : Option Addr} {cap gb pn go gm gi R C : Nat} {hv v : Value} {out : List Bool} {E : Nat → Bool} {L : List Nat}
theorem CR.kept (h : CR w wr g a cap gb pn go gm gi R C hv out E v L) (k : Below wr.heap.size wr w') : CR w w' g a cap gb pn go gm gi R C hv out E v L :=
  ⟨h.mr.kept k, below_keep k h.inn, ownsRow_other h.own fun b hb => k.block b (ownsRow_lt h.own hb), h.gi⟩
theorem CR.counted (h : CR w wr g a cap gb pn go gm gi R C hv out E v L) (hm : MR w w' g a cap gb pn go gm go R C hv out noMarks) (k : Kp (fun b => b = pn) wr w') : CR w w' g a cap gb pn go gm gi R C hv out E v L := by
  have hat := h.mr.at_
  have hgi := h.gi
  exact ⟨hm, k.keep h.inn (by omega), ownsRow_other h.own fun b hb => k.block b (ownsRow_lt h.own hb) fun e => by have := ownsRow_block h.own b hb; have e' : b = pn := e; omega, h.gi⟩
theorem CR.setOut (h : CR w wr g a cap gb pn go gm gi R C hv out E v L) (hl : R ≤ out.length) (r : Nat) (x : Bool) : CR w (wr.setCell ⟨go, r, none⟩ (.bool x)) g a cap gb pn go gm gi R C hv (out.set r x) E v L := by
  have hat := h.mr.at_
  have hgi := h.gi
  exact ⟨h.mr.setOut hl r x, (heap_setCell_ne (by omega)).trans h.inn, ownsRow_other h.own fun b hb => heap_setCell_ne fun e => row_apart h.mr.out h.own (by decide) (by rw [hb, e]), h.gi⟩
theorem CR.setIn (h : CR w wr g a cap gb pn go gm gi R C hv out E v L) {c : Nat} {x : Bool} {F : Nat → Bool} (h1 : F c = x) (h2 : ∀ d, d ≠ c → F d = E d) : CR w (wr.setCell ⟨gi, c, none⟩ (.bool x)) g a cap gb pn go gm gi R C hv out F v L := by
  have hat := h.mr.at_
  have hgi := h.gi
  obtain ⟨u, hu⟩ := h.mr.net
  refine ⟨⟨(heap_setCell_ne (by omega)).trans h.mr.gblk, ⟨u, (heap_setCell_ne (by omega)).trans hu⟩, h.mr.has.kept fun b hb => heap_setCell_ne (by have := hb.1; omega), (heap_setCell_ne (by omega)).trans h.mr.out, (heap_setCell_ne (by omega)).trans h.mr.gone, h.mr.below.setCell (by show w.heap.size ≤ gi; omega) _, hat, by rw [setCell_size]; exact h.mr.big⟩, ?_, ownsRow_other h.own fun b hb => heap_setCell_ne fun e => row_apart h.inn h.own (by decide) (by rw [hb, e]), h.gi⟩
  rw [row_setCell h.inn, rowE_setB E F h1 h2]
theorem CR.push (h : CR w wr g a cap gb pn go gm gi R C hv out E v L) {wa w4 : World} {v2 : Value} {x : Nat} (k : Below wr.heap.size wr wa) (ho : w4.ownsRow go 3 1 v2 (L.length + 1) (intV (nats L) ++ [.int .i64 x])) (hg : wa.grownBy w4 v.ownBlock) : CR w w4 g a cap gb pn go gm gi R C hv out E v2 (L ++ [x]) := by
  have ha := h.kept k
  refine ⟨ha.mr.grown hg fun b hb => ⟨ownsRow_block ha.own b hb, fun e => row_apart ha.mr.out ha.own (by decide) (by rw [hb, e]), fun e => row_apart ha.mr.gone ha.own (by decide) (by rw [hb, e])⟩, ?_, by rw [natsV_snoc, List.length_append]; exact ho, h.gi⟩
  rw [hg.block gi (heap_lt ha.inn) fun e => row_apart ha.inn ha.own (by decide) e]
  exact ha.inn
end

/-- A list of one's own from B on may have grown. -/
theorem CR.grownL {w wr w' wB : World} {g : Gr} {a : Option Addr} {cap gb pn go gm gi R C : Nat} {hv v : Value} {out : List Bool} {E : Nat → Bool} {L : List Nat} {B : Nat} (h : CR w wr g a cap gb pn go gm gi R C hv out E v L) (hv2 : ∀ {b : Nat}, v.ownBlock = some b → b < B) (h0 : CR w wB g a cap gb pn go gm gi R C hv out E v L) {row : Option Nat} (hg : wr.grownBy w' row) (hr : ∀ b, row = some b → B ≤ b) (hB : wB.heap.size = B) : CR w w' g a cap gb pn go gm gi R C hv out E v L := by
  have l1 := heap_lt h0.mr.out
  have l2 := heap_lt h0.mr.gone
  have l3 := heap_lt h0.inn
  refine ⟨h.mr.grown hg fun b hb => by have := hr b hb; omega, ?_, ownsRow_other h.own fun b hb => hg.block b (ownsRow_lt h.own hb) fun e => by have := hr b e.symm; have := hv2 hb; omega, h.gi⟩
  rw [hg.block gi (heap_lt h.inn) fun e => by have := hr gi e.symm; omega]; exact h.inn

def RCoverPost (w : World) (g : Gr) (e : Ending) (w' : World) : Prop :=
  Below w.heap.size w w' ∧
  ((chk g = false ∧ e = .returned (.tuple #[.slice none 0 0, .slice none 0 0, .int .i64 170])) ∨
   (chk g = true ∧ ∃ v1 v2, e = .returned (.tuple #[v1, v2, .int .i64 0]) ∧ w'.ownsRow w.heap.size 3 1 v1 (coverRows g).length (intV (nats (coverRows g))) ∧ w'.ownsRow w.heap.size 3 1 v2 (coverCols g).length (intV (nats (coverCols g)))))

set_option maxRecDepth 100000 in
set_option maxHeartbeats 8000000 in
theorem rcover_any (g : Gr) (a : Option Addr) (cap : Nat) (hok : GrOk g cap) (hes : g.es.length ≤ 1048576) (w : World) (hr : RowsAt 3 edV w a g.es) :
    Calls Tryz.prog 15 #[grV g a cap] w (RCoverPost w g) := by
  have CCK := hid (fun (w2 : World) (hb : RowsAt 3 edV w2 a g.es) => rcheck_any g a cap hok w2 hb)
  have CNT := hid (fun (hc : chk g = true) (R C : Nat) hR hC w2 h => rnet_any g hc R C hR hC a cap hes w2 h)
  have HR := hid hr
  clear hok hr hes
  have gE : grV g a cap = .agg #[.int .i64 g.rows, .int .i64 g.cols, .slice a g.es.length cap] := rfl
  rw [gE] at CCK CNT ⊢
  go_enter Tryz.func15, Tryz.ntmps15
  go_upto_region 1 with fail
  have HG := hid (heap_alloc_new w (.cells #[.int .i64 g.rows, .int .i64 g.cols, .slice a g.es.length cap] 24))
  have HB : Hid (Below w.heap.size w (w.alloc (.cells #[.int .i64 g.rows, .int .i64 g.cols, .slice a g.es.length cap] 24))) := hid ((Below.refl _ _).alloc (Nat.le_refl _) _)
  generalize w.alloc (.cells #[.int .i64 g.rows, .int .i64 g.cols, .slice a g.es.length cap] 24) = w1 at *
  obtain ⟨gb, hgb⟩ : ∃ gb, gb = w.heap.size := ⟨_, rfl⟩
  rw [← hgb] at HG ⊢
  have HGB := hid hgb
  clear hgb gE
  go_wp2_with (refine wpList_load_w rfl 24 _ rfl _ rfl _ _ _ _ (HG.out) Tryz.underlying24 rfl (info_gr) ?_)
  refine (CCK.out _ (HR.out.kept HB.out)).mono ?_
  rintro e w2 ⟨rfl, hb2⟩
  have HG2 := hid (below_keep hb2 HG.out)
  have HB2 := hid (HB.out.trans (hb2.mono HB.out.size))
  clear hb2 HG HB CCK
  by_cases hc : chk g = true
  · have hcv : chkV g = 0 := by unfold chkV; rw [if_pos hc]
    rw [hcv]
    have HCK := hid hc
    have hsz := chk_size hc
    obtain ⟨R, hR⟩ : ∃ R : Nat, g.rows = R := ⟨g.rows.toNat, by omega⟩
    obtain ⟨C, hC⟩ : ∃ C : Nat, g.cols = C := ⟨g.cols.toNat, by omega⟩
    obtain ⟨K, f, P, Q, hL⟩ := law19 hc
    have HL := hid hL
    have HRC := hid (And.intro hR hC)
    have HC64 : Hid (C ≤ 64 ∧ R ≤ 64) := hid (by omega)
    have hr63 : (R : Int) ≤ 64 := by omega
    have hc63 : (C : Int) ≤ 64 := by omega
    clear hc hcv hsz hL hR hC
    go_wp2_with (refine wpList_load_w rfl 24 _ rfl _ rfl _ _ _ _ (HG2.out) Tryz.underlying24 rfl (info_gr) ?_)
    refine (CNT.out HCK.out R C HRC.out.1 HRC.out.2 _ (HR.out.kept HB2.out)).mono ?_
    rintro e w3 ⟨pn, hv, v3, rfl, hpn, hn3, hh3, hb3⟩
    have HM3 : Hid (MR w ((w3.alloc (.cells (boolL (List.replicate R false)).toArray 4)).alloc (.cells (boolL (List.replicate C false)).toArray 4)) g a cap gb pn w3.heap.size (w3.heap.size + 1) w3.heap.size R C hv noMarks noMarks) := hid (by
      have hbb : Below w3.heap.size w3 ((w3.alloc (.cells (boolL (List.replicate R false)).toArray 4)).alloc (.cells (boolL (List.replicate C false)).toArray 4)) := ((Below.refl _ _).alloc (Nat.le_refl _) _).alloc (by simp) _
      have h0 := below_keep hbb (below_keep hb3 HG2.out)
      have hgl := heap_lt HG2.out
      refine ⟨h0, ⟨v3, below_keep hbb hn3⟩, hh3.kept fun k hk => hbb.block k hk.1, by rw [rsB_none]; exact alloc_keep (heap_alloc_new _ _) _, by rw [rsB_none]; exact heap_2 _ _ _, (HB2.out.trans (hb3.mono HB2.out.size)).trans (hbb.mono (by have := HB2.out.size; have := hb3.size; omega)), ⟨HGB.out, by omega, heap_lt hn3, rfl, rfl⟩, by simp; omega⟩)
    have HG3 := hid (below_keep hb3 HG2.out)
    have hmR := fun w1 : World => make_bools w1 R HC64.out.2
    have hmC := fun w1 : World => make_bools w1 C HC64.out.1
    have g30 : w3.cell? ⟨gb, 0, none⟩ = some (.int .i64 (R : Int)) := row_cell HG3.out 0 _ (by rw [HRC.out.1]; rfl)
    have g31 : (w3.alloc (.cells (boolL (List.replicate R false)).toArray 4)).cell? ⟨gb, 1, none⟩ = some (.int .i64 (C : Int)) := row_cell (alloc_keep HG3.out _) 1 _ (by rw [HRC.out.2]; rfl)
    clear hn3 hh3 hb3 hpn HG2 HB2 CNT
    go_upto_region 7 with fail
    clear hmR hmC g30 g31 HG3
    generalize (w3.alloc (.cells (boolL (List.replicate R false)).toArray 4)).alloc (.cells (boolL (List.replicate C false)).toArray 4) = w4 at *
    generalize w3.heap.size = go at *
    obtain ⟨gm, hgm⟩ : ∃ gm, gm = go + 1 := ⟨_, rfl⟩
    rw [← hgm] at HM3 ⊢
    clear hgm
    have CK0 := hid (HM3.out.count HCK.out HRC.out.1 HRC.out.2 (by simp [noMarks]))
    have HK0 : Hid ((cntAll (toOf g.es) noMarks noMarks R).1 = K) := hid (count_all HL.out HCK.out (A := fun x => decide (x < R) && !getB noMarks x) (B := fun c => !getB noMarks c) (fun x hx => by rw [HRC.out.1] at hx; simp [noMarks_at]; omega) (fun d => by simp [noMarks_at]) (eg_ge HCK.out HRC.out.1 (by simp [noMarks])))
    rw [HK0.out] at CK0
    have HKL : Hid (K ≤ 64) := hid (by rw [← HL.out.num]; exact cnt_le _ _)
    have hkl : (K : Int) ≤ 64 := by have := HKL.out; omega
    go_upto_region 8 with (go_at_call 105; refine CK0.out.mono ?_; rintro e w5 ⟨rfl, hm5, hk5⟩; have HM5 := hid hm5; clear hm5 hk5)
    have hmC := make_bools w5 C HC64.out.1
    have HC6 : Hid (CR w (w5.alloc (.cells (boolL (List.replicate C false)).toArray 4)) g a cap gb pn go gm w5.heap.size R C hv noMarks (inTo g P 0) (.slice none 0 0) []) := hid ⟨HM5.out.kept ((Below.refl _ _).alloc (Nat.le_refl _) _), by rw [inTo_zero, ← rowE_false]; exact heap_alloc_new _ _, ownsRow_nil _ _ _ _, heap_lt HM5.out.gone⟩
    have g1 := HM5.out.colsC HRC.out.2
    go_upto_region 10 with fail
    clear hmC g1 HM5 HM3 CK0
    generalize w5.alloc (.cells (boolL (List.replicate C false)).toArray 4) = w6 at *
    generalize w5.heap.size = gi at *
    go_wp2
    go_loopw [10, 12] (fun v i wr => ∃ (r : Nat), r ≤ R ∧ i = .int .i64 r ∧ Hid (CR w wr g a cap gb pn go gm gi R C hv noMarks (inTo g P r) v (fl P r))) (fun _ i _ => R - (intOf i).toNat)
    case atStart => exact ⟨0, by omega, rfl, HC6⟩
    case round =>
      clear HC6
      obtain ⟨r, hrR, rfl, HM⟩ := hrel
      obtain ⟨v0, hv0⟩ : ∃ v, v = u10 := ⟨_, rfl⟩
      subst hv0
      have hrl : (r : Int) ≤ 64 := by omega
      have g0 := HM.out.mr.rowsC HRC.out.1
      by_cases hlt : r < R
      · have hri : (r : Int) < (R : Int) := by omega
        have hr64 : r < 64 := by have := HC64.out; omega
        have o0 := row_cell HM.out.mr.out r _ (boolL_at (rsB_get noMarks hlt))
        have o1 := free_row HM.out.mr.out r
        have HM1 := hid (HM.out.setOut (by simp [noMarks]; exact HC64.out.2) r true)
        have CK := hid (HM1.out.mr.count HCK.out HRC.out.1 HRC.out.2 (by simp [noMarks]))
        have HOG : Hid (∀ x, getB (noMarks.set r true) x = decide (x = r)) := hid (fun x => by
          rw [getB_set, noMarks_at]
          by_cases e : r = x
          · subst e; simp [noMarks, hr64]
          · rw [if_neg (fun h => e h.1)]; simp; omega)
        have HSP := hid (spare_iff HL.out HCK.out (r := r) (by have := HRC.out.1; omega) (A := fun x => decide (x < R) && !getB (noMarks.set r true) x) (B := fun c => !getB noMarks c) (fun x => by rw [HOG.out, HRC.out.1]; simp) (fun d => by simp [noMarks_at]) (eg_ge HCK.out HRC.out.1 (by simp [noMarks])))
        obtain ⟨k, hk⟩ : ∃ k, k = (cntAll (toOf g.es) (noMarks.set r true) noMarks R).1 := ⟨_, rfl⟩
        have HKB : Hid (k ≤ 64) := hid (by rw [hk]; have := cntAll_le (toOf g.es) (noMarks.set r true) noMarks R; have := HC64.out.2; omega)
        rw [← hk] at CK HSP
        have hkl2 : (k : Int) ≤ 64 := by have := HKB.out; omega
        have HBACK : Hid ((noMarks.set r true).set r false = noMarks) := hid (by
          rw [List.set_set]
          apply List.ext_getElem?
          intro i
          rw [List.getElem?_set]
          by_cases e : r = i
          · subst e; rw [if_pos rfl, if_pos (by simp [noMarks]; exact hr64)]; unfold noMarks; rw [List.getElem?_replicate, if_pos hr64]
          · rw [if_neg e])
        clear hk hr64 HOG HM
        go_upto_region 14 with fail
        clear o0 o1 g0
        generalize wr.setCell ⟨go, r, none⟩ (.bool true) = w7 at *
        cases hP : P r with
        | true =>
          have hkk : ((k : Int) == (K : Int)) = false := by
            have h1 : k ≠ K := fun e => by have := HSP.out.1 e; rw [hP] at this; cases this
            simp; omega
          have HP := hid hP
          clear hP
          -- L1
          go_upto_region 15 with (go_at_call 105; refine CK.out.mono ?_; rintro e w8 ⟨rfl, hm8, hk8⟩; have HM8 := hid (HM1.out.counted hm8 hk8); clear hm8 hk8)
          have o0 := row_cell HM8.out.mr.out r _ (boolL_at (rsB_get _ hlt))
          have o1 := free_row HM8.out.mr.out r
          have HM9 := hid (HM8.out.setOut (by simp [noMarks]; exact HC64.out.2) r false)
          rw [HBACK.out] at HM9
          go_upto_region 17 with fail
          clear o0 o1 HM8 HM1
          generalize w8.setCell ⟨go, r, none⟩ (.bool false) = w9 at *
          have HKA := hid ((Below.refl w9.heap.size w9).alloc (Nat.le_refl _) (.cells #[.int .i64 r] 3))
          have HMA := hid (HM9.out.kept HKA.out)
          have HLL : Hid ((fl P r).length ≤ 64) := hid (by have := fl_len P r; omega)
          obtain ⟨i1, hi1, hz10, hz11, hz12⟩ := info_parts info_intT
          go_wp2_with (at_builtin; refine wpList_append_own_at _ rfl _ _ 65 rfl go 3 i1 (.int .i64 0) 1 8 Tryz.underlying65 hi1 hz10 hz11 hz12 rfl (by decide) _ _ _ rfl HMA.out.own ⟨w9.heap.size, 0, none⟩ 1 1 [.int .i64 r] rfl rfl ?d1 ?d2 ?d3 ?d4 ?d5 ?_)
          try case d1 => exact cells_new _ _ _
          try case d2 => simp [Value.oneCell']
          case d3 => have := HLL.out; unfold maxLen; omega
          case d4 => have := HLL.out; omega
          case d5 => have := HMA.out.mr.big; first | omega | (simp only [alloc_size]; omega) | (simp; omega)
          intro v9 w10 hown9 hgrow9 _ _
          have HM10 := hid (HM9.out.push HKA.out hown9 hgrow9)
          clear hown9 hgrow9
          go_wp2
          go_roundw
          case rel => exact ⟨r + 1, by omega, by go_num, hid (by rw [inTo_no HP.out, fl_yes HP.out]; exact HM10.out)⟩
          case measure => simp [intOf]; omega
          -- /L1
        | false =>
          have hkk : ((k : Int) == (K : Int)) = true := by
            have h1 : k = K := HSP.out.2 hP
            simp; omega
          have HP := hid hP
          clear hP
          -- L2
          go_upto_region 15 with (go_at_call 105; refine CK.out.mono ?_; rintro e w8 ⟨rfl, hm8, hk8⟩; have HM8 := hid (HM1.out.counted hm8 hk8); clear hm8 hk8)
          have o0 := row_cell HM8.out.mr.out r _ (boolL_at (rsB_get _ hlt))
          have o1 := free_row HM8.out.mr.out r
          have HM9 := hid (HM8.out.setOut (by simp [noMarks]; exact HC64.out.2) r false)
          rw [HBACK.out] at HM9
          go_upto_region 18 with fail
          clear o0 o1 HM8 HM1
          generalize w8.setCell ⟨go, r, none⟩ (.bool false) = w9 at *
          have HM9' : Hid (CR w w9 g a cap gb pn go gm gi R C hv noMarks (inAt g P r 0) v0 (fl P r)) := hid (by rw [inAt_zero]; exact HM9.out)
          clear HM9
          go_wp2
          go_loopw [14] (fun i wx => ∃ (c : Nat), c ≤ C ∧ i = .int .i64 c ∧ Hid (CR w wx g a cap gb pn go gm gi R C hv noMarks (inAt g P r c) v0 (fl P r))) (fun i _ => C - (intOf i).toNat)
          case atStart => exact ⟨0, by omega, rfl, HM9'⟩
          case round =>
            clear HM9'
            obtain ⟨c, hcC, rfl, HM⟩ := hrel
            have hcl : (c : Int) ≤ 64 := by omega
            have g1 := HM.out.mr.colsC HRC.out.2
            by_cases hlc : c < C
            · have hci : (c : Int) < (C : Int) := by omega
              obtain ⟨u, hu⟩ := HM.out.mr.net
              have n0 := row_cell hu 0 _ rfl
              obtain ⟨ah, ch, rfl, hrows⟩ := HM.out.mr.has
              obtain ⟨gh, oh, gr, cr, rfl, _, _, chr, hbs⟩ := hrows r hlt
              have cb0 := hbs c hlc
              have m0 := row_cell HM.out.inn c _ (rowE_get (inAt g P r c) hlc)
              have m1 := free_row HM.out.inn c
              have HMN := hid (HM.out.setIn (c := c) (F := inAt g P r (c + 1)) rfl (fun d hd => inAt_other g P r c hd))
              rw [inAt_at] at HMN
              clear hrows hbs hu
              cases hin : inAt g P r c c with
              | true =>
                rw [hin] at m0 HMN
                rw [Bool.true_or] at HMN
                clear hin
                go_wp2
                go_roundw
                case rel => exact ⟨c + 1, by omega, by go_num, HMN⟩
                case measure => simp [intOf]; omega
              | false =>
                rw [hin] at m0 HMN
                rw [Bool.false_or] at HMN
                clear hin
                obtain ⟨b, hb⟩ : ∃ b, b = decide (c ∈ tlAt g r) := ⟨_, rfl⟩
                rw [← hb] at cb0 HMN
                clear hb
                go_wp2
                go_roundw
                case rel => exact ⟨c + 1, by omega, by go_num, HMN⟩
                case measure => simp [intOf]; omega
            · obtain rfl : c = C := by omega
              have hci : ¬ ((c : Int) < (c : Int)) := by omega
              have HALL : Hid (inAt g P r c = inTo g P (r + 1)) := hid (inAt_all HP.out fun d hd => by
                have h1 := (eg_lt HCK.out (show Eg (toOf g.es) r d from hd)).2
                rw [HRC.out.2] at h1
                simpa using h1)
              go_wp2
              go_roundw
              case rel => exact ⟨r + 1, by omega, by go_num, hid (by rw [fl_no HP.out, ← HALL.out]; exact HM.out)⟩
              case measure => simp [intOf]; omega
          -- /L2
      · obtain rfl : r = R := by omega
        have hri : ¬ ((r : Int) < (r : Int)) := by omega
        have HQ : Hid (∀ c, c < C → inTo g P r c = Q c) := hid (fun c hc => by
          have h1 := cols_iff HL.out c
          rw [HRC.out.1, Int.toNat_natCast] at h1
          have h2 : inTo g P r c = true ↔ Q c = true := by
            rw [h1]
            unfold inTo
            rw [List.any_eq_true]
            constructor
            · rintro ⟨x, hx, h3⟩
              simp at hx h3
              exact ⟨x, hx, h3.1, h3.2⟩
            · rintro ⟨x, hx, h3, h4⟩
              have h5 : c ∈ tlAt g x := h4
              exact ⟨x, by simpa using hx, by simp [h3, h5]⟩
          cases h3 : Q c
          · cases h4 : inTo g P r c
            · rfl
            · rw [h2.1 h4] at h3; cases h3
          · exact h2.2 h3)
        -- L3
        obtain ⟨wB, hwB⟩ : ∃ x, x = wr := ⟨_, rfl⟩
        subst hwB
        go_wp2
        go_loopw [15, 16] (fun v i wx => ∃ (c : Nat), c ≤ C ∧ i = .int .i64 c ∧ Hid (CR w wx g a cap gb pn go gm gi r C hv noMarks (inTo g P r) v0 (fl P r)) ∧ Hid (wx.ownsRow wB.heap.size 3 1 v (fl Q c).length (intV (nats (fl Q c)))) ∧ Hid (wB.heap.size ≤ wx.heap.size)) (fun _ i _ => C - (intOf i).toNat)
        case atStart => exact ⟨0, by omega, rfl, HM, hid (ownsRow_nil _ _ _ _), hid (Nat.le_refl _)⟩
        case round =>
          have HM0 := HM
          clear HM
          obtain ⟨c, hcC, rfl, HM, HOW, HSZ⟩ := hrel
          have hcl : (c : Int) ≤ 64 := by omega
          have g1 := HM.out.mr.colsC HRC.out.2
          by_cases hlc : c < C
          · have hci : (c : Int) < (C : Int) := by omega
            have m0 := row_cell HM.out.inn c _ (rowE_get (inTo g P r) hlc)
            rw [HQ.out c hlc] at m0
            cases hq : Q c with
            | true =>
              rw [hq] at m0
              have HQC := hid hq
              clear hq
              obtain ⟨vx, hvx⟩ : ∃ v, v = u15 := ⟨_, rfl⟩
              subst hvx
              have HKA := hid ((Below.refl wr.heap.size wr).alloc (Nat.le_refl _) (.cells #[.int .i64 c] 3))
              have HMA := hid (HM.out.kept HKA.out)
              have HOA := hid (ownsRow_other HOW.out fun b hb => HKA.out.block b (ownsRow_lt HOW.out hb))
              have HLL : Hid ((fl Q c).length ≤ 64) := hid (by have := fl_len Q c; omega)
              obtain ⟨i1, hi1, hz10, hz11, hz12⟩ := info_parts info_intT
              go_wp2_with (at_builtin; refine wpList_append_own_at _ rfl _ _ 65 rfl wB.heap.size 3 i1 (.int .i64 0) 1 8 Tryz.underlying65 hi1 hz10 hz11 hz12 rfl (by decide) _ _ _ rfl HOA.out ⟨wr.heap.size, 0, none⟩ 1 1 [.int .i64 c] rfl rfl ?d1 ?d2 ?d3 ?d4 ?d5 ?_)
              try case d1 => exact cells_new _ _ _
              try case d2 => simp [Value.oneCell']
              case d3 => have := HLL.out; unfold maxLen; omega
              case d4 => have := HLL.out; omega
              case d5 => have := HSZ.out; first | omega | (simp only [alloc_size]; omega) | (simp; omega)
              intro v9 w10 hown9 hgrow9 _ _
              have HM10 : Hid (CR w w10 g a cap gb pn go gm gi r C hv noMarks (inTo g P r) v0 (fl P r)) := hid (HMA.out.grownL (B := wB.heap.size) (ownsRow_lt HM0.out.own) HM0.out hgrow9 (ownsRow_block HOA.out) rfl)
              have HOW10 : Hid (w10.ownsRow wB.heap.size 3 1 v9 (fl Q (c + 1)).length (intV (nats (fl Q (c + 1))))) := hid (by rw [fl_yes HQC.out, natsV_snoc, List.length_append]; exact hown9)
              have HSZ10 : Hid (wB.heap.size ≤ w10.heap.size) := hid (by have h1 := HKA.out.size; have h2 := hgrow9.size; have := HSZ.out; omega)
              clear hown9 hgrow9
              go_wp2
              go_roundw
              case rel => exact ⟨c + 1, by omega, by go_num, HM10, HOW10, HSZ10⟩
              case measure => simp [intOf]; omega
            | false =>
              rw [hq] at m0
              have HQC := hid hq
              clear hq
              go_wp2
              go_roundw
              case rel => exact ⟨c + 1, by omega, by go_num, HM, hid (by rw [fl_no HQC.out]; exact HOW.out), HSZ⟩
              case measure => simp [intOf]; omega
          · obtain rfl : c = C := by omega
            have hci : ¬ ((c : Int) < (c : Int)) := by omega
            go_wp2
            go_ret3
            refine ⟨HM.out.mr.below, .inr ⟨HCK.out, _, _, rfl, ?_, ?_⟩⟩
            · have h1 : coverRows g = fl P r := by rw [HL.out.rows, HRC.out.1]; rfl
              rw [h1]; exact ownsRow_mono HM.out.own (by have := HM.out.mr.at_; omega)
            · have h1 : coverCols g = fl Q c := by rw [HL.out.cols, HRC.out.2]; rfl
              rw [h1]; exact ownsRow_mono HOW.out (by have := HM0.out.mr.below.size; omega)
        -- /L3
  · have hcv : chkV g = 170 := by unfold chkV; rw [if_neg hc]
    rw [hcv]
    have HCF : Hid (chk g = false) := hid (by simpa using hc)
    clear hc hcv
    -- L7
    go_wp2
    go_ret3
    exact ⟨HB2.out, .inl ⟨HCF.out, rfl⟩⟩
    -- /L7
end Go.Proofs.YtjhomkdnhdhffaaGreat
