/- The walk of the reference's Most: the same pairs. -/
import Derived.Test.YtjhomkdnhdhffaaGreatRfNet
namespace Go.Proofs.YtjhomkdnhdhffaaGreat
open Go.RowKit

theorem HasR.mono {w : World} {S T : Nat → Prop} {g : Gr} {R C : Nat} {hv : Value} (h : HasR w S g R C hv) (hT : ∀ k, S k → T k) : HasR w T g R C hv := by
  obtain ⟨a, ch, h1, h2⟩ := h
  refine ⟨a, ch, h1, fun r hr => ?_⟩
  obtain ⟨gh, oh, gr, cr, h3, h4, h5, h6⟩ := h2 r hr
  exact ⟨gh, oh, gr, cr, h3, hT _ h4, hT _ h5, h6⟩
theorem ownsRow_mono {w : World} {base base2 size n : Nat} {e : TypeId} {v : Value} {xs : List Value} (h : w.ownsRow base e size v n xs) (hb : base2 ≤ base) : w.ownsRow base2 e size v n xs := by
  refine ⟨h.1, ?_⟩
  rcases h.2 with h1 | ⟨g, cap, cur, h1, h2, h3⟩
  · exact .inl h1
  · exact .inr ⟨g, cap, cur, h1, Nat.le_trans hb h2, h3⟩
/-- The rows ahead of r; r too. -/
def outTo (r : Nat) : List Bool := (List.range 64).map fun x => decide (x < r)
theorem outTo_len (r : Nat) : (outTo r).length = 64 := by simp [outTo]
theorem outTo_get {r x : Nat} (hx : x < 64) : getB (outTo r) x = decide (x < r) := by simp [getB, outTo, hx]
theorem outTo_zero : outTo 0 = noMarks := by decide
theorem outTo_set {r : Nat} (hr : r < 64) : (outTo r).set r true = outTo (r + 1) := by
  apply List.ext_getElem?
  intro i
  rw [List.getElem?_set, outTo_len]
  by_cases hi : i < 64
  · have h1 : ∀ k, (outTo k)[i]? = some (decide (i < k)) := fun k => by simp [outTo, hi]
    rw [h1, h1]
    by_cases e : r = i
    · subst e; simp [hr]
    · rw [if_neg e]
      congr 1
      exact decide_eq_decide.2 (by omega)
  · have h1 : ∀ k, (outTo k)[i]? = none := fun k => List.getElem?_eq_none (by rw [outTo_len]; omega)
    rw [h1, h1]
    by_cases e : r = i
    · omega
    · rw [if_neg e]
theorem rsB_none (n : Nat) : rsB n noMarks = List.replicate n false := by
  apply List.ext_getElem
  · simp [rsB]
  · intro i h1 h2; simp [rsB, noMarks_at]
/-- A block of booleans as a list of one's own. -/
theorem own_block {w : World} {b n : Nat} {l : List Bool} (h : w.heap[b]? = some (.cells (boolL l).toArray 4 (0, 0))) (hl : l.length = n) (hn : n ≤ 64) : w.ownsRow 0 4 1 (.slice (some ⟨b, 0, none⟩) n n) n (boolL l) :=
  ⟨by simp [boolL, hl], .inr ⟨b, n, _, rfl, Nat.zero_le _, h, Nat.le_refl _, by unfold maxLen; omega, by simp [boolL, hl], by
    rw [List.toList_toArray, List.take_of_length_le (by simp [boolL, hl])]⟩⟩
theorem boolL_at {l : List Bool} {k : Nat} {x : Bool} (h : l[k]? = some x) : (boolL l).toArray[k]? = some (.bool x) := by simp [boolL, h]
theorem boolL_setA (l : List Bool) (k : Nat) (x : Bool) : (boolL l).toArray.setIfInBounds k (.bool x) = (boolL (l.set k x)).toArray := by simp [boolL, List.map_set]

/-- What the reference's Most works on. -/
structure MR (w wr : World) (g : Gr) (a : Option Addr) (cap gb pn go gm B2 R C : Nat) (hv : Value) (out gone : List Bool) : Prop where
  gblk : wr.heap[gb]? = some (.cells #[.int .i64 g.rows, .int .i64 g.cols, .slice a g.es.length cap] 24 (0, 0))
  net : ∃ u, wr.heap[pn]? = some (.cells #[hv, u] 89 (0, 0))
  has : HasR wr (fun k => k < B2 ∧ k ≠ pn) g R C hv
  out : wr.heap[go]? = some (.cells (boolL (rsB R out)).toArray 4 (0, 0))
  gone : wr.heap[gm]? = some (.cells (boolL (rsB C gone)).toArray 4 (0, 0))
  below : Below w.heap.size w wr
  at_ : gb = w.heap.size ∧ gb < pn ∧ pn < B2 ∧ B2 = go ∧ gm = go + 1
  big : B2 ≤ wr.heap.size
section
variable {w wr w' : World} {g : Gr} {a : Option Addr} {cap gb pn go gm B2 R C : Nat} {hv : Value} {out gone : List Bool}
theorem MR.kept (h : MR w wr g a cap gb pn go gm B2 R C hv out gone) (k : Below wr.heap.size wr w') : MR w w' g a cap gb pn go gm B2 R C hv out gone := by
  obtain ⟨u, hu⟩ := h.net
  exact ⟨below_keep k h.gblk, ⟨u, below_keep k hu⟩, h.has.kept fun b hb => k.block b (by have := h.big; omega), below_keep k h.out, below_keep k h.gone, h.below.trans (k.mono h.below.size), h.at_, Nat.le_trans h.big k.size⟩
theorem MR.rowsC (h : MR w wr g a cap gb pn go gm B2 R C hv out gone) (hR : g.rows = R) : wr.cell? ⟨gb, 0, none⟩ = some (.int .i64 (R : Int)) := row_cell h.gblk 0 _ (by rw [hR]; rfl)
theorem MR.colsC (h : MR w wr g a cap gb pn go gm B2 R C hv out gone) (hC : g.cols = C) : wr.cell? ⟨gb, 1, none⟩ = some (.int .i64 (C : Int)) := row_cell h.gblk 1 _ (by rw [hC]; rfl)
theorem MR.counted (h : MR w wr g a cap gb pn go gm B2 R C hv out gone) (hu : ∃ u, w'.heap[pn]? = some (.cells #[hv, u] 89 (0, 0))) (k : Kp (fun b => b = pn) wr w') : MR w w' g a cap gb pn go gm B2 R C hv out gone := by
  have hat := h.at_
  exact ⟨k.keep h.gblk (by omega), hu, h.has.kept fun b hb => k.block b (by have := h.big; omega) hb.2, k.keep h.out (by omega), k.keep h.gone (by omega), h.below.trans (k.toBelow h.below.size fun b _ hb => by have : b = pn := hb; omega), hat, Nat.le_trans h.big k.size⟩
theorem MR.setOut (h : MR w wr g a cap gb pn go gm B2 R C hv out gone) (hl : R ≤ out.length) (r : Nat) (x : Bool) : MR w (wr.setCell ⟨go, r, none⟩ (.bool x)) g a cap gb pn go gm B2 R C hv (out.set r x) gone := by
  have hat := h.at_
  obtain ⟨u, hu⟩ := h.net
  refine ⟨(heap_setCell_ne (by omega)).trans h.gblk, ⟨u, (heap_setCell_ne (by omega)).trans hu⟩, h.has.kept fun b hb => heap_setCell_ne (by have := hb.1; omega), ?_, (heap_setCell_ne (by omega)).trans h.gone, h.below.setCell (by show w.heap.size ≤ go; omega) _, hat, by rw [setCell_size]; exact h.big⟩
  rw [row_setCell h.out, boolL_setA, rsB_set hl]
theorem MR.setGone (h : MR w wr g a cap gb pn go gm B2 R C hv out gone) (hl : C ≤ gone.length) (c : Nat) (x : Bool) : MR w (wr.setCell ⟨gm, c, none⟩ (.bool x)) g a cap gb pn go gm B2 R C hv out (gone.set c x) := by
  have hat := h.at_
  obtain ⟨u, hu⟩ := h.net
  refine ⟨(heap_setCell_ne (by omega)).trans h.gblk, ⟨u, (heap_setCell_ne (by omega)).trans hu⟩, h.has.kept fun b hb => heap_setCell_ne (by have := hb.1; omega), (heap_setCell_ne (by omega)).trans h.out, ?_, h.below.setCell (by show w.heap.size ≤ gm; omega) _, hat, by rw [setCell_size]; exact h.big⟩
  rw [row_setCell h.gone, boolL_setA, rsB_set hl]
theorem MR.grown (h : MR w wr g a cap gb pn go gm B2 R C hv out gone) {row : Option Nat} (hg : wr.grownBy w' row) (hr : ∀ b, row = some b → go ≤ b ∧ b ≠ go ∧ b ≠ gm) : MR w w' g a cap gb pn go gm B2 R C hv out gone := by
  have hat := h.at_
  obtain ⟨u, hu⟩ := h.net
  have far : ∀ b o, wr.heap[b]? = some o → b < go ∨ b = go ∨ b = gm → w'.heap[b]? = some o := fun b o hb hlt => by
    rw [hg.block b (heap_lt hb) fun e => by have := hr b e.symm; omega]; exact hb
  exact ⟨far _ _ h.gblk (by omega), ⟨u, far _ _ hu (by omega)⟩, h.has.kept fun b hb => hg.block b (by have := h.big; omega) (fun e => by have := hr b e.symm; have := hb.1; omega), far _ _ h.out (.inr (.inl rfl)), far _ _ h.gone (.inr (.inr rfl)), h.below.grown hg h.below.size (fun b hb => by have := hr b hb; omega), hat, Nat.le_trans h.big hg.size⟩
/-- The count that is asked. -/
theorem MR.count (h : MR w wr g a cap gb pn go gm B2 R C hv out gone) (hc : chk g = true) (hR : g.rows = R) (hC : g.cols = C) (hg : gone.length = 64) :
    Calls Tryz.prog 105 #[.pointer (some ⟨pn, 0, none⟩), .slice (some ⟨go, 0, none⟩) R R, .slice (some ⟨gm, 0, none⟩) C C] wr fun e w2 => e = .returned (.int .i64 (cntAll (toOf g.es) out gone R).1) ∧ MR w w2 g a cap gb pn go gm B2 R C hv out gone ∧ Kp (fun b => b = pn) wr w2 := by
  obtain ⟨u, hu⟩ := h.net
  have hsz := chk_size hc
  have := rcount_any g hc R C hR hC pn hv u _ _ out gone hg wr hu (h.has.mono fun k hk => ⟨by have := h.big; omega, hk.2⟩) (own_block h.out (rsB_len _ _) (by omega)) (own_block h.gone (rsB_len _ _) (by omega))
  exact this.mono fun e w2 ⟨h1, h2, h3⟩ => ⟨h1, h.counted h2 h3, h3⟩
end
theorem eg_ge {g : Gr} (h : chk g = true) {R : Nat} (hR : g.rows = R) {out gone : List Bool} (hg : gone.length = 64) : Best (Eg (toOf g.es)) (fun x => decide (x < R) && !getB out x) (fun c => !getB gone c) (cntAll (toOf g.es) out gone R).1 := by
  have := count_best h out gone hg
  rw [hR, Int.toNat_natCast] at this
  exact this

/-- The pairs of the rows ahead of r. -/
def plTo (f : Nat → Int) (r : Nat) : List (Nat × Nat) := (List.range r).filterMap fun x => if f x < 0 then none else some (x, (f x).toNat)
theorem plTo_no {f : Nat → Int} {r : Nat} (h : f r < 0) : plTo f (r + 1) = plTo f r := by
  unfold plTo
  rw [List.range_succ, List.filterMap_append]
  simp [h]
theorem plTo_yes {f : Nat → Int} {r c : Nat} (h : f r = (c : Int)) : plTo f (r + 1) = plTo f r ++ [(r, c)] := by
  unfold plTo
  rw [List.range_succ, List.filterMap_append]
  have : ¬ f r < 0 := by omega
  simp [h]
theorem plTo_len (f : Nat → Int) (r : Nat) : (plTo f r).length ≤ r := Nat.le_trans (List.length_filterMap_le _ _) (by simp)

set_option maxRecDepth 100000 in
set_option maxHeartbeats 8000000 in
theorem rmost_any (g : Gr) (a : Option Addr) (cap : Nat) (hok : GrOk g cap) (hes : g.es.length ≤ 1048576) (w : World) (hr : RowsAt 3 edV w a g.es) :
    Calls Tryz.prog 19 #[grV g a cap] w (MostPost w g) := by
  have CCK := hid (fun (w2 : World) (hb : RowsAt 3 edV w2 a g.es) => rcheck_any g a cap hok w2 hb)
  have CNT := hid (fun (hc : chk g = true) (R C : Nat) hR hC w2 h => rnet_any g hc R C hR hC a cap hes w2 h)
  have HR := hid hr
  clear hok hr hes
  have gE : grV g a cap = .agg #[.int .i64 g.rows, .int .i64 g.cols, .slice a g.es.length cap] := rfl
  rw [gE] at CCK CNT ⊢
  go_enter Tryz.func19, Tryz.ntmps19
  go_upto_region 1 with fail
  have HG := hid (heap_alloc_new w (.cells #[.int .i64 g.rows, .int .i64 g.cols, .slice a g.es.length cap] 24))
  have HB : Hid (Below w.heap.size w (w.alloc (.cells #[.int .i64 g.rows, .int .i64 g.cols, .slice a g.es.length cap] 24))) := hid ((Below.refl _ _).alloc (Nat.le_refl _) _)
  generalize w.alloc (.cells #[.int .i64 g.rows, .int .i64 g.cols, .slice a g.es.length cap] 24) = w1 at *
  obtain ⟨gb, hgb⟩ : ∃ gb, gb = w.heap.size := ⟨_, rfl⟩
  rw [← hgb] at HG ⊢
  have HGB := hid hgb
  clear hgb gE
  go_wp2_with (refine wpList_load_w rfl 24 _ rfl _ rfl _ _ _ _ (HG.out) Tryz.underlying24 rfl (info_gr) ?_)
  refine (CCK.out _ (HR.out.kept HB.out)).mono ?_
  rintro e w2 ⟨rfl, hb2⟩
  have HG2 := hid (below_keep hb2 HG.out)
  have HB2 := hid (HB.out.trans (hb2.mono HB.out.size))
  clear hb2 HG HB CCK
  by_cases hc : chk g = true
  · have hcv : chkV g = 0 := by unfold chkV; rw [if_pos hc]
    rw [hcv]
    have HCK := hid hc
    have hsz := chk_size hc
    obtain ⟨R, hR⟩ : ∃ R : Nat, g.rows = R := ⟨g.rows.toNat, by omega⟩
    obtain ⟨C, hC⟩ : ∃ C : Nat, g.cols = C := ⟨g.cols.toNat, by omega⟩
    obtain ⟨K, f, P, Q, hL⟩ := law19 hc
    have HL := hid hL
    have HRC := hid (And.intro hR hC)
    have HC64 : Hid (C ≤ 64 ∧ R ≤ 64) := hid (by omega)
    have hr63 : (R : Int) ≤ 64 := by omega
    have hc63 : (C : Int) ≤ 64 := by omega
    clear hc hcv hsz hL hR hC
    go_wp2_with (refine wpList_load_w rfl 24 _ rfl _ rfl _ _ _ _ (HG2.out) Tryz.underlying24 rfl (info_gr) ?_)
    refine (CNT.out HCK.out R C HRC.out.1 HRC.out.2 _ (HR.out.kept HB2.out)).mono ?_
    rintro e w3 ⟨pn, hv, v3, rfl, hpn, hn3, hh3, hb3⟩
    have HM3 : Hid (MR w ((w3.alloc (.cells (boolL (List.replicate R false)).toArray 4)).alloc (.cells (boolL (List.replicate C false)).toArray 4)) g a cap gb pn w3.heap.size (w3.heap.size + 1) w3.heap.size R C hv noMarks noMarks) := hid (by
      have hbb : Below w3.heap.size w3 ((w3.alloc (.cells (boolL (List.replicate R false)).toArray 4)).alloc (.cells (boolL (List.replicate C false)).toArray 4)) := ((Below.refl _ _).alloc (Nat.le_refl _) _).alloc (by simp) _
      have h0 := below_keep hbb (below_keep hb3 HG2.out)
      have hgl := heap_lt HG2.out
      refine ⟨h0, ⟨v3, below_keep hbb hn3⟩, hh3.kept fun k hk => hbb.block k hk.1, by rw [rsB_none]; exact alloc_keep (heap_alloc_new _ _) _, by rw [rsB_none]; exact heap_2 _ _ _, (HB2.out.trans (hb3.mono HB2.out.size)).trans (hbb.mono (by have := HB2.out.size; have := hb3.size; omega)), ⟨HGB.out, by omega, heap_lt hn3, rfl, rfl⟩, by simp; omega⟩)
    have HG3 := hid (below_keep hb3 HG2.out)
    have hmR := fun w1 : World => make_bools w1 R HC64.out.2
    have hmC := fun w1 : World => make_bools w1 C HC64.out.1
    have g30 : w3.cell? ⟨gb, 0, none⟩ = some (.int .i64 (R : Int)) := row_cell HG3.out 0 _ (by rw [HRC.out.1]; rfl)
    have g31 : (w3.alloc (.cells (boolL (List.replicate R false)).toArray 4)).cell? ⟨gb, 1, none⟩ = some (.int .i64 (C : Int)) := row_cell (alloc_keep HG3.out _) 1 _ (by rw [HRC.out.2]; rfl)
    clear hn3 hh3 hb3 hpn HG2 HB2 CNT
    go_upto_region 7 with fail
    clear hmR hmC g30 g31 HG3
    generalize (w3.alloc (.cells (boolL (List.replicate R false)).toArray 4)).alloc (.cells (boolL (List.replicate C false)).toArray 4) = w4 at *
    generalize w3.heap.size = go at *
    obtain ⟨gm, hgm⟩ : ∃ gm, gm = go + 1 := ⟨_, rfl⟩
    rw [← hgm] at HM3 ⊢
    clear hgm
    have CK0 := hid (HM3.out.count HCK.out HRC.out.1 HRC.out.2 (by simp [noMarks]))
    have HK0 : Hid ((cntAll (toOf g.es) noMarks noMarks R).1 = K) := hid (count_all HL.out HCK.out (A := fun x => decide (x < R) && !getB noMarks x) (B := fun c => !getB noMarks c) (fun x hx => by rw [HRC.out.1] at hx; simp [noMarks_at]; omega) (fun d => by simp [noMarks_at]) (eg_ge HCK.out HRC.out.1 (by simp [noMarks])))
    rw [HK0.out] at CK0
    have HKL : Hid (K ≤ 64) := hid (by rw [← HL.out.num]; exact cnt_le _ _)
    have hkl : (K : Int) ≤ 64 := by have := HKL.out; omega
    go_wp2_with (go_at_call 105; refine CK0.out.mono ?_; rintro e w5 ⟨rfl, hm5, hk5⟩; have HM5 := hid hm5; clear hm5 hk5)
    go_loopw [8, 9, 10] (fun k v i wr => ∃ (r : Nat) (gone : List Bool) (lf : Int), r ≤ R ∧ i = .int .i64 r ∧ k = .int .i64 lf ∧ 0 ≤ lf ∧ lf ≤ 64 ∧ Hid (lf = (K : Int) - cnt (hasP f) r) ∧ Hid (gone.length = 64 ∧ GoneTo f r (getB gone)) ∧ Hid (MR w wr g a cap gb pn go gm go R C hv (outTo r) gone) ∧ Hid (wr.ownsRow go 100 2 v (plTo f r).length (pairV (plTo f r)))) (fun _ _ i _ => R - (intOf i).toNat)
    case atStart => exact ⟨0, noMarks, K, by omega, rfl, rfl, by omega, by omega, hid (by simp [cnt_zero]), hid ⟨by simp [noMarks], fun c => ⟨fun h => (by rw [noMarks_at] at h; cases h), fun ⟨x, h, _⟩ => by omega⟩⟩, hid (by rw [outTo_zero]; exact HM5.out), hid (ownsRow_nil _ _ _ _)⟩
    case round =>
      clear HM5 CK0 HM3
      obtain ⟨r, gone, lf, hrR, rfl, rfl, hl0, hl64, HLF, HGT, HM, HOW⟩ := hrel
      obtain ⟨v0, hv0⟩ : ∃ v, v = u9 := ⟨_, rfl⟩
      subst hv0
      have hrl : (r : Int) ≤ 64 := by omega
      have g0 := HM.out.rowsC HRC.out.1
      by_cases hlt : r < R
      · have hri : (r : Int) < (R : Int) := by omega
        have o0 := row_cell HM.out.out r _ (boolL_at (rsB_get (outTo r) hlt))
        have o1 := free_row HM.out.out r
        have HM1 := hid (HM.out.setOut (by rw [outTo_len]; exact HC64.out.2) r true)
        rw [outTo_set (by have := HC64.out; omega)] at HM1
        have HOW1 : Hid ((wr.setCell ⟨go, r, none⟩ (.bool true)).ownsRow go 100 2 v0 (plTo f r).length (pairV (plTo f r))) := hid (ownsRow_other HOW.out fun b hb => heap_setCell_ne fun e => row_apart HM.out.out HOW.out (by decide) (by rw [hb, e]))
        clear HM HOW
        go_upto_region 13 with fail
        clear o0 o1 g0
        generalize wr.setCell ⟨go, r, none⟩ (.bool true) = w6 at *
        go_wp2
        go_loopw [8, 9, 11] (fun k v i wx => ∃ (c : Nat), c ≤ C ∧ i = .int .i64 c ∧ k = .int .i64 lf ∧ v0 = v ∧ Hid (∀ d : Nat, d < c → f r ≠ (d : Int)) ∧ Hid (MR w wx g a cap gb pn go gm go R C hv (outTo (r + 1)) gone) ∧ Hid (wx.ownsRow go 100 2 v0 (plTo f r).length (pairV (plTo f r)))) (fun _ _ i _ => C - (intOf i).toNat)
        case atStart => exact ⟨0, by omega, rfl, rfl, rfl, hid (fun d hd => by omega), HM1, HOW1⟩
        case round =>
          clear HM1 HOW1
          obtain ⟨c, hcC, rfl, rfl, rfl, HNO, HM, HOW⟩ := hrel
          have hcl : (c : Int) ≤ 64 := by omega
          have g1 := HM.out.colsC HRC.out.2
          by_cases hlc : c < C
          · have hci : (c : Int) < (C : Int) := by omega
            obtain ⟨u, hu⟩ := HM.out.net
            have n0 := row_cell hu 0 _ rfl
            obtain ⟨ah, ch, rfl, hrows⟩ := HM.out.has
            obtain ⟨gh, oh, gr, cr, rfl, _, _, chr, hbs⟩ := hrows r hlt
            have cb0 := hbs c hlc
            have m0 := row_cell HM.out.gone c _ (boolL_at (rsB_get gone hlc))
            have m1 := free_row HM.out.gone c
            clear hrows hbs hu
            by_cases hin : c ∈ tlAt g r
            · rw [decide_eq_true hin] at cb0
              have HIN := hid hin
              cases hgc : getB gone c with
              | true =>
                rw [hgc] at m0
                have HN2 : Hid (∀ d : Nat, d < c + 1 → f r ≠ (d : Int)) := hid (fun d hd e => by
                  by_cases e2 : d = c
                  · obtain ⟨x, hx, hxc⟩ := (HGT.out.2 c).1 hgc
                    exact HL.out.free (r := r) (c := c) (by rw [e, e2]) x hx hxc
                  · exact HNO.out d (by omega) e)
                clear hgc hin
                -- L1
                go_wp2
                go_roundw
                case rel => exact ⟨c + 1, by omega, by go_num, rfl, rfl, HN2, HM, HOW⟩
                case measure => simp [intOf]; omega
                -- /L1
              | false =>
                rw [hgc] at m0
                have HGC := hid hgc
                have HFC : Hid (∀ x, x < r → f x ≠ (c : Int)) := hid (fun x hx e => by
                  have := (HGT.out.2 c).2 ⟨x, hx, e⟩
                  rw [hgc] at this; cases this)
                have HM1 := hid (HM.out.setGone (by rw [HGT.out.1]; exact HC64.out.1) c true)
                have HOW1 : Hid ((wr.setCell ⟨gm, c, none⟩ (.bool true)).ownsRow go 100 2 v0 (plTo f r).length (pairV (plTo f r))) := hid (ownsRow_other HOW.out fun b hb => heap_setCell_ne fun e => row_apart HM.out.gone HOW.out (by decide) (by rw [hb, e]))
                clear hgc hin HM HOW
                go_upto_region 18 with fail
                clear n0 chr cb0 m0 m1 g1
                generalize wr.setCell ⟨gm, c, none⟩ (.bool true) = w7 at *
                have CK := hid (HM1.out.count HCK.out HRC.out.1 HRC.out.2 (by rw [List.length_set]; exact HGT.out.1))
                have HAS : Hid (Asked g f r c (cntAll (toOf g.es) (outTo (r + 1)) (gone.set c true) R).1 (fun x => decide (x < R) && !getB (outTo (r + 1)) x) (fun d => !getB (gone.set c true) d)) := hid ⟨fun x => by
                  by_cases hx : x < 64
                  · rw [outTo_get hx, HRC.out.1]; simp; omega
                  · have := HC64.out.2
                    have h1 : decide (x < R) = false := decide_eq_false (by omega)
                    rw [h1, HRC.out.1]; simp; omega, fun d => by
                  rw [getB_set]
                  by_cases e : c = d
                  · subst e
                    have : c < gone.length := by rw [HGT.out.1]; have := HC64.out.1; omega
                    simp [this]
                  · rw [if_neg (fun h => e h.1)]
                    constructor
                    · intro h
                      refine ⟨fun h2 => e h2.symm, fun x hx e2 => ?_⟩
                      have := (HGT.out.2 d).2 ⟨x, hx, e2⟩
                      rw [this] at h; simp at h
                    · rintro ⟨_, h⟩
                      cases hgd : getB gone d
                      · rfl
                      · obtain ⟨x, hx, e2⟩ := (HGT.out.2 d).1 hgd
                        exact absurd e2 (h x hx), eg_ge HCK.out HRC.out.1 (by rw [List.length_set]; exact HGT.out.1)⟩
                have HRR : Hid (r < g.rows.toNat) := hid (by have := HRC.out.1; omega)
                obtain ⟨k, hk⟩ : ∃ k, k = (cntAll (toOf g.es) (outTo (r + 1)) (gone.set c true) R).1 := ⟨_, rfl⟩
                have HKB : Hid (k ≤ 64) := hid (by rw [hk]; have := cntAll_le (toOf g.es) (outTo (r + 1)) (gone.set c true) R; have := HC64.out.2; omega)
                rw [← hk] at CK HAS
                have hkl2 : (k : Int) ≤ 64 := by have := HKB.out; omega
                clear hk
                by_cases hfc : f r = (c : Int)
                · have HFR := hid hfc
                  have hpk := pick_yes HL.out HCK.out HAS.out HRR.out hfc
                  have HPK := hid hpk
                  have hkq : ((k : Int) == lf - 1) = true := by have := HLF.out; simp; omega
                  have hlf1 : 1 ≤ lf := by have := HLF.out; omega
                  clear hfc hpk
                  obtain ⟨i1, hi1, hz10, hz11, hz12⟩ := info_parts info_pairT
                  have HLL : Hid ((plTo f r).length ≤ 64) := hid (by have := plTo_len f r; omega)
                  -- L2
                  go_upto_region 19 with (go_at_call 105; refine CK.out.mono ?_; rintro e w8 ⟨rfl, hm8, hk8⟩; have HM8 := hid hm8; have HOW8 : Hid (w8.ownsRow go 100 2 v0 (plTo f r).length (pairV (plTo f r))) := hid (ownsRow_other HOW1.out fun b hb => hk8.block b (ownsRow_lt HOW1.out hb) fun e => by (obtain ⟨u, hu⟩ := HM1.out.net; have e' : b = pn := e; subst e'; exact row_apart hu HOW1.out (by decide) hb.symm)); clear hm8 hk8)
                  have HMA := hid (HM8.out.kept ((Below.refl _ _).alloc (Nat.le_refl _) (.cells #[.int .i64 r, .int .i64 c] 100)))
                  have HOA : Hid ((w8.alloc (.cells #[.int .i64 r, .int .i64 c] 100)).ownsRow go 100 2 v0 (plTo f r).length (pairV (plTo f r))) := hid (ownsRow_other HOW8.out fun b hb => Below.heap_alloc _ _ _ (ownsRow_lt HOW8.out hb))
                  clear HM8 HM1 HOW1 HOW8
                  go_wp2_with (at_builtin; refine wpList_append_own_at _ rfl _ _ 70 rfl go 100 i1 (.agg #[.int .i64 0, .int .i64 0]) 2 16 Tryz.underlying70 hi1 hz10 hz11 hz12 rfl (by decide) _ _ _ rfl HOA.out ⟨w8.heap.size, 0, none⟩ 1 1 [.int .i64 r, .int .i64 c] rfl rfl ?d1 ?d2 ?d3 ?d4 ?d5 ?_)
                  try case d1 => exact cells_new _ _ _
                  try case d2 => simp [Value.oneCell']
                  case d3 => have := HLL.out; unfold maxLen; omega
                  case d4 => have := HLL.out; omega
                  case d5 => have := HMA.out.big; first | omega | (simp only [alloc_size]; omega) | (simp; omega)
                  intro v9 w9 hown9 hgrow9 _ _
                  have HM9 : Hid (MR w w9 g a cap gb pn go gm go R C _ (outTo (r + 1)) (gone.set c true)) := hid (HMA.out.grown hgrow9 fun b hb => ⟨ownsRow_block HOA.out b hb, fun e => row_apart HMA.out.out HOA.out (by decide) (by rw [hb, e]), fun e => row_apart HMA.out.gone HOA.out (by decide) (by rw [hb, e])⟩)
                  have HOW9 : Hid (w9.ownsRow go 100 2 v9 (plTo f (r + 1)).length (pairV (plTo f (r + 1)))) := hid (by rw [plTo_yes HFR.out, pairV_snoc, List.length_append]; exact hown9)
                  obtain ⟨A9, c9, rfl⟩ := ownsRow_shape hown9
                  clear hown9 hgrow9
                  go_wp2
                  go_roundw
                  case rel =>
                    refine ⟨r + 1, gone.set c true, lf - 1, by omega, by go_num, rfl, by omega, by omega, hid ?_, hid ⟨by rw [List.length_set]; exact HGT.out.1, ?_⟩, HM9, HOW9⟩
                    · have h1 : hasP f r = true := by simp [hasP, HFR.out]
                      have := HLF.out
                      rw [cnt_succ, if_pos h1]; omega
                    · intro d
                      have hlc2 : c < gone.length := by rw [HGT.out.1]; have := HC64.out.1; omega
                      rw [getB_set]
                      by_cases e : c = d
                      · subst e
                        rw [if_pos ⟨rfl, hlc2⟩]
                        exact ⟨fun _ => ⟨r, by omega, HFR.out⟩, fun _ => rfl⟩
                      · rw [if_neg (fun h => e h.1), HGT.out.2 d]
                        constructor
                        · rintro ⟨x, h1, h2⟩; exact ⟨x, by omega, h2⟩
                        · rintro ⟨x, h1, h2⟩
                          refine ⟨x, ?_, h2⟩
                          have h3 : x ≠ r := by rintro rfl; have := HFR.out; omega
                          omega
                  case measure => simp [intOf]; omega
                  -- /L2
                · have hpk := pick_no HL.out HCK.out HAS.out HRR.out HIN.out HFC.out (by
                    by_cases e : f r < 0
                    · exact .inl e
                    · right
                      obtain ⟨d, hd⟩ := Int.eq_ofNat_of_zero_le (Int.not_lt.1 e)
                      rcases Nat.lt_trichotomy d c with h1 | h1 | h1
                      · exact absurd hd (HNO.out d h1)
                      · rw [h1] at hd; exact absurd hd hfc
                      · omega)
                  have HN2 : Hid (∀ d : Nat, d < c + 1 → f r ≠ (d : Int)) := hid (fun d hd e => by
                    by_cases e2 : d = c
                    · rw [e2] at e; exact hfc e
                    · exact HNO.out d (by omega) e)
                  have hkq : ((k : Int) == lf - 1) = false := by have := HLF.out; simp; omega
                  clear hfc hpk
                  -- L3
                  go_upto_region 21 with (go_at_call 105; refine CK.out.mono ?_; rintro e w8 ⟨rfl, hm8, hk8⟩; have HM8 := hid hm8; have HOW8 : Hid (w8.ownsRow go 100 2 v0 (plTo f r).length (pairV (plTo f r))) := hid (ownsRow_other HOW1.out fun b hb => hk8.block b (ownsRow_lt HOW1.out hb) fun e => by (obtain ⟨u, hu⟩ := HM1.out.net; have e' : b = pn := e; subst e'; exact row_apart hu HOW1.out (by decide) hb.symm)); clear hm8 hk8)
                  have m0 := row_cell HM8.out.gone c _ (boolL_at (rsB_get _ hlc))
                  have m1 := free_row HM8.out.gone c
                  have HM9 := hid (HM8.out.setGone (by rw [List.length_set, HGT.out.1]; exact HC64.out.1) c false)
                  have HOW9 : Hid ((w8.setCell ⟨gm, c, none⟩ (.bool false)).ownsRow go 100 2 v0 (plTo f r).length (pairV (plTo f r))) := hid (ownsRow_other HOW8.out fun b hb => heap_setCell_ne fun e => row_apart HM8.out.gone HOW8.out (by decide) (by rw [hb, e]))
                  have HBACK : Hid ((gone.set c true).set c false = gone) := hid (by
                    rw [List.set_set]
                    apply List.ext_getElem?
                    intro i
                    rw [List.getElem?_set]
                    by_cases e : c = i
                    · subst e
                      rw [if_pos rfl]
                      have h1 := HGC.out
                      unfold getB at h1
                      cases h2 : gone[c]? with
                      | none => rw [if_neg (by intro h3; rw [List.getElem?_eq_none_iff] at h2; omega)]
                      | some b => rw [h2] at h1; rw [if_pos (List.getElem?_eq_some_iff.1 h2).1]; simp at h1; rw [h1]
                    · rw [if_neg e])
                  rw [HBACK.out] at HM9
                  go_wp2
                  go_roundw
                  case rel => exact ⟨c + 1, by omega, by go_num, rfl, rfl, HN2, HM9, HOW9⟩
                  case measure => simp [intOf]; omega
                  -- /L3
            · rw [decide_eq_false hin] at cb0
              have HN2 : Hid (∀ d : Nat, d < c + 1 → f r ≠ (d : Int)) := hid (fun d hd e => by
                by_cases e2 : d = c
                · rw [e2] at e; exact hin (HL.out.edge e)
                · exact HNO.out d (by omega) e)
              clear hin
              -- L4
              go_wp2
              go_roundw
              case rel => exact ⟨c + 1, by omega, by go_num, rfl, rfl, HN2, HM, HOW⟩
              case measure => simp [intOf]; omega
              -- /L4
          · obtain rfl : c = C := by omega
            have hci : ¬ ((c : Int) < (c : Int)) := by omega
            have HFN : Hid (f r < 0) := hid (by
              refine Classical.byContradiction fun e => ?_
              obtain ⟨d, hd⟩ := Int.eq_ofNat_of_zero_le (Int.not_lt.1 e)
              have h1 := (eg_lt HCK.out (HL.out.edge hd)).2
              rw [HRC.out.2] at h1
              exact HNO.out d (by simpa using h1) hd)
            -- L5
            go_wp2
            go_roundw
            case rel =>
              refine ⟨r + 1, gone, lf, by omega, by go_num, rfl, by omega, by omega, hid ?_, hid ⟨HGT.out.1, fun d => ?_⟩, HM, hid (by rw [plTo_no HFN.out]; exact HOW.out)⟩
              · have h1 : ¬ hasP f r = true := by have := HFN.out; simp [hasP]; omega
                rw [cnt_succ, if_neg h1]; exact HLF.out
              · rw [HGT.out.2 d]
                constructor
                · rintro ⟨x, h1, h2⟩; exact ⟨x, by omega, h2⟩
                · rintro ⟨x, h1, h2⟩
                  refine ⟨x, ?_, h2⟩
                  have h3 : x ≠ r := by rintro rfl; have := HFN.out; omega
                  omega
            case measure => simp [intOf]; omega
            -- /L5
      · obtain rfl : r = R := by omega
        have hri : ¬ ((r : Int) < (r : Int)) := by omega
        -- L6
        go_wp2
        go_ret2
        refine ⟨HM.out.below, .inr ⟨HCK.out, _, rfl, ?_⟩⟩
        have h1 := HOW.out
        have h2 : (mostAt g g.rows.toNat).l = plTo f r := by rw [HL.out.pairs, HRC.out.1]; rfl
        rw [h2]; exact ownsRow_mono h1 (by have := HM.out.at_; omega)
        -- /L6
  · have hcv : chkV g = 170 := by unfold chkV; rw [if_neg hc]
    rw [hcv]
    have HCF : Hid (chk g = false) := hid (by simpa using hc)
    clear hc hcv
    -- L7
    go_wp2
    go_ret2
    exact ⟨HB2.out, .inl ⟨HCF.out, rfl⟩⟩
    -- /L7
end Go.Proofs.YtjhomkdnhdhffaaGreat
