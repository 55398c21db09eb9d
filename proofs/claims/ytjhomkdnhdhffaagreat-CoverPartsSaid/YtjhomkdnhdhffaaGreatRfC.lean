/- The walk of the reference's count. -/
import Derived.Test.YtjhomkdnhdhffaaGreatRfN
import Derived.Test.YtjhomkdnhdhffaaGreatBkPl
namespace Go.Proofs.YtjhomkdnhdhffaaGreat
open Go.RowKit

theorem made_bools (n : Nat) : madeCells (Value.bool false).cells n = (boolL (List.replicate n false)).toArray := by
  apply Array.ext
  · simp [size_madeCells, boolL]
  · intro i h1 h2
    simp only [madeCells, Array.getElem_map, Array.getElem_range, boolL, List.getElem_toArray, List.getElem_map, List.getElem_replicate]
    show #[Value.bool false][i % 1]! = _
    rw [Nat.mod_one]; rfl
theorem info_boolT : (Tryz.prog.info? 4).map (fun i => (i.zero, i.size, i.bytes)) = some (some (.bool false), 1, 1) := by kernel_rfl
theorem info_intT : (Tryz.prog.info? 3).map (fun i => (i.zero, i.size, i.bytes)) = some (some (.int .i64 0), 1, 8) := by kernel_rfl
theorem make_bools (w : World) (R : Nat) (hR : R ≤ 64) : (Instr.makeSlice 85 (.int .i64 (R : Int)) (.int .i64 (R : Int))).run Tryz.prog w = .ok (.slice (some ⟨w.heap.size, 0, none⟩) R R) (w.alloc (.cells (boolL (List.replicate R false)).toArray 4)) := by
  obtain ⟨i, hi, hz0, hz1, hz2⟩ := info_parts info_boolT
  have h := run_make (P := Tryz.prog) w 85 4 i _ Tryz.underlying85 hi hz0 .i64 .i64 (R : Int) (R : Int) (by omega) (by omega) (by rw [hz2]; omega) (by omega)
  rw [h, hz1, Int.toNat_natCast, Nat.mul_one, made_bools]
theorem own_bools (w : World) {B C : Nat} (hB : B ≤ w.heap.size) (hC : C ≤ 64) (l : List Bool) (hl : l.length = C) : (w.alloc (.cells (boolL l).toArray 4)).ownsRow B 4 1 (.slice (some ⟨w.heap.size, 0, none⟩) C C) C (boolL l) := by
  have := World.ownsRow_lit (base := B) (e := 4) (size := 1) w (boolL l).toArray C hB (by unfold maxLen; omega) (by simp [boolL, hl])
  simpa using this

/-- Copied up to c. -/
def cpB (gone : List Bool) (C c : Nat) : List Bool := (List.range C).map fun i => if i < c then getB gone i else false
theorem cpB_len (gone : List Bool) (C c : Nat) : (cpB gone C c).length = C := by simp [cpB]
theorem cpB_zero (gone : List Bool) (C : Nat) : cpB gone C 0 = List.replicate C false := by
  apply List.ext_getElem
  · simp [cpB]
  · intro i h1 h2; simp [cpB]
theorem cpB_all (gone : List Bool) (C : Nat) : cpB gone C C = rsB C gone := by
  unfold cpB rsB
  apply List.map_congr_left
  intro i hi
  rw [if_pos (by simpa using hi)]
theorem cpB_set (gone : List Bool) {C c : Nat} (hc : c < C) : (cpB gone C c).set c (getB gone c) = cpB gone C (c + 1) := by
  apply List.ext_getElem?
  intro i
  rw [List.getElem?_set, cpB_len]
  by_cases hi : i < C
  · have h1 : ∀ k, (cpB gone C k)[i]? = some (if i < k then getB gone i else false) := fun k => by simp [cpB, hi]
    rw [h1, h1]
    by_cases e : c = i
    · subst e; simp [hi]
    · rw [if_neg e]
      congr 1
      by_cases e2 : i < c
      · rw [if_pos e2, if_pos (by omega)]
      · rw [if_neg e2, if_neg (by omega)]
  · rw [List.getElem?_eq_none (by rw [cpB_len]; omega), List.getElem?_eq_none (by rw [cpB_len]; omega)]
    by_cases e : c = i
    · omega
    · rw [if_neg e]
theorem Kp.belowB {S : Nat → Prop} {w0 w w' : World} {B : Nat} (h : Kp S w0 w) (hb : Below B w w') (hB : w0.heap.size ≤ B) : Kp S w0 w' := h.step hb.os hb.tape hb.output hb.size fun k hk _ => hb.block k (by omega)

theorem cntAll_le (tl : List (List Nat)) (out gone : List Bool) : ∀ n, (cntAll tl out gone n).1 ≤ n
  | 0 => Nat.le_refl _
  | n + 1 => by
    have := cntAll_le tl out gone n
    unfold cntAll
    split
    · omega
    · dsimp only
      split <;> omega
/-- A net, its table made anew. -/
structure OfG (w wr : World) (pn : Nat) (hv v : Value) (n : Nat) (xs : List Int) : Prop where
  net : wr.heap[pn]? = some (.cells #[hv, v] 89 (0, 0))
  own : wr.ownsRow w.heap.size 3 1 v n (intV xs)
  kp : Kp (fun b => b = pn) w wr
section
variable {w wr w' : World} {pn n : Nat} {hv v : Value} {xs : List Int}
theorem OfG.kept (h : OfG w wr pn hv v n xs) (k : Below wr.heap.size wr w') : OfG w w' pn hv v n xs := ⟨below_keep k h.net, ownsRow_other h.own fun g hg => k.block g (ownsRow_lt h.own hg), h.kp.below k⟩
theorem OfG.grow (h : OfG w wr pn hv v n xs) {v2 : Value} {w4 : World} (x : Int) (hp : pn < w.heap.size) (ho : w4.ownsRow w.heap.size 3 1 v2 (n + 1) (intV xs ++ [.int .i64 x])) (hg : wr.grownBy w4 v.ownBlock) :
    w4.heap[pn]? = some (.cells #[hv, v] 89 (0, 0)) ∧ OfG w (w4.setCell ⟨pn, 1, none⟩ v2) pn hv v2 (n + 1) (xs ++ [x]) := by
  have h1 : w4.heap[pn]? = some (.cells #[hv, v] 89 (0, 0)) := by
    rw [hg.block pn (heap_lt h.net) fun e => by have := ownsRow_block h.own pn e.symm; omega]; exact h.net
  refine ⟨h1, ⟨by rw [row_setCell h1]; rfl, ?_, ?_⟩⟩
  · have e : intV (xs ++ [x]) = intV xs ++ [.int .i64 x] := by simp [intV]
    rw [e]
    exact ownsRow_other ho fun g hg' => heap_setCell_ne fun e2 => by have := ownsRow_block ho g hg'; omega
  · exact (h.kp.grown hg fun k hk => .inr (ownsRow_block h.own k hk)).setCell (.inl rfl) _ _
end
theorem kuhn_colR {tl : List (List Nat)} {out gone : Nat → Bool} {n k R : Nat} {row col : List Int} (h : Kuhn tl out gone n k row col) (hn : n ≤ R) : ColR R col := fun c q hq => by
  have h1 := (h.mat.both c q).1 hq
  have := (h.rows q (by omega)).1
  omega

def CountPost (w : World) (pn : Nat) (hv : Value) (k : Nat) (e : Ending) (w' : World) : Prop :=
  e = .returned (.int .i64 k) ∧ (∃ v, w'.heap[pn]? = some (.cells #[hv, v] 89 (0, 0))) ∧ Kp (fun b => b = pn) w w'

set_option maxRecDepth 100000 in
set_option maxHeartbeats 4000000 in
theorem rcount_any (g : Gr) (hc : chk g = true) (R C : Nat) (hR : g.rows = R) (hC : g.cols = C) (pn : Nat) (hv v0 outv gonev : Value) (out gone : List Bool) (hgl : gone.length = 64) (w : World) (hn : w.heap[pn]? = some (.cells #[hv, v0] 89 (0, 0)))
    (hh : HasR w (fun k => k < w.heap.size ∧ k ≠ pn) g R C hv) (ho : w.ownsRow 0 4 1 outv R (boolL (rsB R out))) (hg : w.ownsRow 0 4 1 gonev C (boolL (rsB C gone))) :
    Calls Tryz.prog 105 #[.pointer (some ⟨pn, 0, none⟩), outv, gonev] w (CountPost w pn hv (cntAll (toOf g.es) out gone R).1) := by
  have CP := hid (fun ofv mv => rplace_any w.heap.size pn g hc R C hR hC hv ofv mv 65)
  have HK := hid (fun n hn => cntAll_kuhn (toOf_ok hc) out gone hgl n hn)
  have HC64 : Hid (C ≤ 64 ∧ R ≤ 64) := hid (by have := chk_size hc; omega)
  have HGL := hid hgl
  have HH := hid hh
  have HOX := hid (fun wr (k : Kp (fun b => b = pn) w wr) => (ownsRow_other ho fun b hb => k.block b (ownsRow_lt ho hb) fun e => by subst e; exact row_apart hn ho (by decide) hb.symm : wr.ownsRow 0 4 1 outv R (boolL (rsB R out))))
  have HGX := hid (fun wr (k : Kp (fun b => b = pn) w wr) => (ownsRow_other hg fun b hb => k.block b (ownsRow_lt hg hb) fun e => by subst e; exact row_apart hn hg (by decide) hb.symm : wr.ownsRow 0 4 1 gonev C (boolL (rsB C gone))))
  have HPN : Hid (pn < w.heap.size) := hid (heap_lt hn)
  have hr63 : (R : Int) ≤ 64 := by have := HC64.out; omega
  have hc63 : (C : Int) ≤ 64 := by have := HC64.out; omega
  obtain ⟨ao, co, rfl⟩ := ownsRow_shape ho
  obtain ⟨ag, cg, rfl⟩ := ownsRow_shape hg
  have cn0 := row_cell hn 1 _ rfl
  have fn0 := free_row hn 1
  have HN0 := hid (OfG.mk (w := w) (wr := w.setCell ⟨pn, 1, none⟩ (.slice none 0 0)) (pn := pn) (hv := hv) (v := .slice none 0 0) (n := 0) (xs := []) (by rw [row_setCell hn]; rfl) (ownsRow_nil _ _ _ _) ((Kp.refl (fun b => b = pn) w).setCell (b := pn) (.inl rfl) _ _))
  clear hh ho hg hn hgl hc hR hC
  go_enter Tryz.func105, Tryz.ntmps105
  go_upto_region 2 with fail
  generalize w.setCell ⟨pn, 1, none⟩ (.slice none 0 0) = w1 at *
  clear cn0 fn0
  go_wp2
  go_loopw [7] (fun i wr => ∃ (c : Nat) (v : Value), c ≤ C ∧ i = .int .i64 c ∧ Hid (OfG w wr pn hv v c (List.replicate c (-1)))) (fun i _ => C - (intOf i).toNat)
  case atStart => exact ⟨0, _, by omega, rfl, HN0⟩
  case round =>
    clear HN0
    obtain ⟨c, v, hcC, rfl, HS⟩ := hrel
    have hcl : (c : Int) ≤ 64 := by omega
    by_cases hlt : c < C
    · have hci : (c : Int) < (C : Int) := by omega
      have cn := row_cell HS.out.net 1 _ rfl
      obtain ⟨i1, hi1, hz10, hz11, hz12⟩ := info_parts info_intT
      have HSA := hid (HS.out.kept ((Below.refl _ _).alloc (Nat.le_refl _) (.cells #[.int .i64 (-1)] 3)))
      have HCC : Hid (c ≤ 64) := hid (by omega)
      -- L1
      go_wp2_with (at_builtin; refine wpList_append_own_at _ rfl _ _ 65 rfl w.heap.size 3 i1 (.int .i64 0) 1 8 Tryz.underlying65 hi1 hz10 hz11 hz12 rfl (by decide) _ _ _ rfl HSA.out.own ⟨wr.heap.size, 0, none⟩ 1 1 [.int .i64 (-1)] rfl rfl ?d1 ?d2 ?d3 ?d4 ?d5 ?_)
      try case d1 => exact cells_new _ _ _
      try case d2 => simp [Value.oneCell']
      case d3 => have := HCC.out; unfold maxLen; omega
      case d4 => have := HCC.out; omega
      case d5 => have := HSA.out.kp.size; first | omega | (simp only [alloc_size]; omega) | (simp; omega)
      intro v5 w5 hown5 hgrow5 _ _
      obtain ⟨hn5, hS5⟩ := HSA.out.grow (-1) HPN.out hown5 hgrow5
      have cn5 := row_cell hn5 1 _ rfl
      have fn5 := free_row hn5 1
      have HS5 := hid hS5
      obtain ⟨av, cv, rfl⟩ := ownsRow_shape hown5
      clear hown5 hgrow5 hn5 hS5
      go_wp2
      go_roundw
      case rel => exact ⟨c + 1, _, by omega, by go_num, hid (by rw [List.replicate_succ']; exact HS5.out)⟩
      case measure => simp [intOf]; omega
      -- /L1
    · obtain rfl : c = C := by omega
      have hci : ¬ ((c : Int) < (c : Int)) := by omega
      have HS0 : Hid (OfG w wr pn hv v c (rsI c none64)) := hid (by
        have : rsI c none64 = List.replicate c (-1) := by
          apply List.ext_getElem
          · simp [rsI]
          · intro i h1 h2; simp [rsI, none64_get]
        rw [this]; exact HS.out)
      clear HS hlt hcC
      go_wp2
      go_loopw [8, 9] (fun k i wr => ∃ (r : Nat), r ≤ R ∧ i = .int .i64 r ∧ k = .int .i64 (cntAll (toOf g.es) out gone r).1 ∧ Hid (OfG w wr pn hv v c (rsI c (cntAll (toOf g.es) out gone r).2.2))) (fun _ i _ => R - (intOf i).toNat)
      case atStart => exact ⟨0, by omega, rfl, rfl, HS0⟩
      case round =>
        clear HS0
        obtain ⟨r, hrR, rfl, rfl, HS⟩ := hrel
        have hrl : (r : Int) ≤ 64 := by omega
        by_cases hlr : r < R
        · have hri : (r : Int) < (R : Int) := by omega
          have hm := make_bools wr c HC64.out.1
          have HOB := hid (own_bools wr (B := w.heap.size) HS.out.kp.size HC64.out.1 (cpB gone c 0) (cpB_len _ _ _))
          rw [cpB_zero] at HOB
          have HS1 := hid (HS.out.kept ((Below.refl _ _).alloc (Nat.le_refl _) (.cells (boolL (List.replicate c false)).toArray 4)))
          have HGM : Hid (w.heap.size ≤ wr.heap.size) := hid HS.out.kp.size
          -- L2
          go_upto_region 11 with fail
          clear hm HS
          generalize wr.alloc (.cells (boolL (List.replicate c false)).toArray 4) = w2 at *
          generalize wr.heap.size = gm at *
          go_wp2
          go_loopw [11] (fun i wx => ∃ (d : Nat), d ≤ c ∧ i = .int .i64 d ∧ Hid (wx.ownsRow w.heap.size 4 1 (.slice (some ⟨gm, 0, none⟩) c c) c (boolL (cpB gone c d))) ∧ Hid (OfG w wx pn hv v c (rsI c (cntAll (toOf g.es) out gone r).2.2))) (fun i _ => c - (intOf i).toNat)
          case atStart => exact ⟨0, by omega, rfl, hid (by rw [cpB_zero]; exact HOB.out), HS1⟩
          case round =>
            clear HOB HS1
            obtain ⟨d, hd, rfl, HM, HS⟩ := hrel
            have hdl : (d : Int) ≤ 64 := by omega
            have HGx := hid (HGX.out wr HS.out.kp)
            by_cases hld : d < c
            · have hdi : (d : Int) < (c : Int) := by omega
              obtain ⟨gg, cg', hgv⟩ := ownsRow_form' HGx.out (by omega)
              obtain ⟨rfl, rfl⟩ : ag = some ⟨gg, 0, none⟩ ∧ cg = cg' := by cases hgv; exact ⟨rfl, rfl⟩
              have cg1 := (HGx.out.cellAt d (by omega)).trans (boolL_get (rsB_get gone hld))
              obtain ⟨um, cm1⟩ : ∃ u, wr.cell? ⟨gm, d, none⟩ = some u := ⟨_, (HM.out.cellAt d (by omega)).trans (List.getElem?_eq_getElem (by simp [boolL, cpB_len]; omega))⟩
              have fm1 := HM.out.frozenAt d
              have HM2 : Hid ((wr.setCell ⟨gm, d, none⟩ (.bool (getB gone d))).ownsRow w.heap.size 4 1 (.slice (some ⟨gm, 0, none⟩) c c) c (boolL (cpB gone c (d + 1)))) := hid (by
                rw [← cpB_set gone hld, ← boolL_set]
                exact (HM.out.stored d _).1)
              have HS2 : Hid (OfG w (wr.setCell ⟨gm, d, none⟩ (.bool (getB gone d))) pn hv v c (rsI c (cntAll (toOf g.es) out gone r).2.2)) := hid ⟨(heap_setCell_ne (by have := HPN.out; have := HGM.out; omega)).trans HS.out.net, ownsRow_other HS.out.own fun b hb => heap_setCell_ne fun e => by subst e; exact owns_apart HS.out.own HM.out (by decide) hb rfl, HS.out.kp.setCell (.inr HGM.out) _ _⟩
              clear hgv
              go_wp2
              go_roundw
              case rel => exact ⟨d + 1, by omega, by go_num, HM2, HS2⟩
              case measure => simp [intOf]; omega
            · obtain rfl : d = c := by omega
              have hdi : ¬ ((d : Int) < (d : Int)) := by omega
              have HMC : Hid (wr.ownsRow w.heap.size 4 1 (.slice (some ⟨gm, 0, none⟩) d d) d (boolL (rsB d gone))) := hid (by have := HM.out; rwa [cpB_all] at this)
              have HOx := hid (HOX.out wr HS.out.kp)
              obtain ⟨go, co', hov⟩ := ownsRow_form' HOx.out (by omega)
              obtain ⟨rfl, rfl⟩ : ao = some ⟨go, 0, none⟩ ∧ co = co' := by cases hov; exact ⟨rfl, rfl⟩
              have co1 := (HOx.out.cellAt r (by omega)).trans (boolL_get (rsB_get out hlr))
              clear HM hd hld hov
              cases hor : getB out r with
              | true =>
                rw [hor] at co1
                have HN : Hid (cntAll (toOf g.es) out gone (r + 1) = cntAll (toOf g.es) out gone r) := hid (by rw [cntAll, if_pos hor])
                clear hor
                -- L3
                go_wp2
                go_roundw
                case rel => exact ⟨r + 1, by omega, by go_num, by rw [HN.out], hid (by rw [HN.out]; exact HS.out)⟩
                case measure => simp [intOf]; omega
                -- /L3
              | false =>
                rw [hor] at co1
                have ku := HK.out r (by have := HC64.out; omega)
                have HRS : Hid (RS wr w.heap.size pn g R d hv v (.slice (some ⟨gm, 0, none⟩) d d) ⟨gone, (cntAll (toOf g.es) out gone r).2.1, (cntAll (toOf g.es) out gone r).2.2⟩) := hid ⟨HS.out.net, HPN.out, HH.out.kept fun k hk => HS.out.kp.block k hk.1 hk.2, HS.out.own, HMC.out⟩
                have hso : StOk ⟨gone, (cntAll (toOf g.es) out gone r).2.1, (cntAll (toOf g.es) out gone r).2.2⟩ := ⟨HGL.out, ku.mat.ok.rowL, ku.mat.ok.colL, ku.mat.ok.rows, ku.mat.ok.cols⟩
                have CPL := hid (CP.out v (.slice (some ⟨gm, 0, none⟩) d d) ⟨gone, (cntAll (toOf g.es) out gone r).2.1, (cntAll (toOf g.es) out gone r).2.2⟩ r wr hlr hso (kuhn_colR ku (by omega)) (by have := unmet_le gone; have := HGL.out; show unmet gone < 65; omega) HRS.out)
                have HN : Hid (cntAll (toOf g.es) out gone (r + 1) = (if (tryF (toOf g.es) noMarks 65 ⟨gone, (cntAll (toOf g.es) out gone r).2.1, (cntAll (toOf g.es) out gone r).2.2⟩ r).1 = true then (cntAll (toOf g.es) out gone r).1 + 1 else (cntAll (toOf g.es) out gone r).1, (tryF (toOf g.es) noMarks 65 ⟨gone, (cntAll (toOf g.es) out gone r).2.1, (cntAll (toOf g.es) out gone r).2.2⟩ r).2.row, (tryF (toOf g.es) noMarks 65 ⟨gone, (cntAll (toOf g.es) out gone r).2.1, (cntAll (toOf g.es) out gone r).2.2⟩ r).2.col)) := hid (by rw [cntAll, if_neg (by rw [hor]; simp)])
                have HKL : Hid ((cntAll (toOf g.es) out gone r).1 ≤ r) := hid (cntAll_le _ _ _ _)
                obtain ⟨k, hk⟩ : ∃ k, k = (cntAll (toOf g.es) out gone r).1 := ⟨_, rfl⟩
                obtain ⟨b, s2, hbs⟩ : ∃ b s2, tryF (toOf g.es) noMarks 65 ⟨gone, (cntAll (toOf g.es) out gone r).2.1, (cntAll (toOf g.es) out gone r).2.2⟩ r = (b, s2) := ⟨_, _, rfl⟩
                rw [hbs] at CPL HN
                rw [← hk] at HN HKL ⊢
                have hkl : (k : Int) ≤ 64 := by have := HKL.out; have := HC64.out; omega
                clear hor ku hso hk hbs HRS
                -- L4
                cases b with
                | true =>
                  go_wp2_with (go_at_call 162; refine CPL.out.mono ?_; rintro e w5 ⟨rfl, hh5, ho5⟩; have HX5 : Hid (OfG w w5 pn hv v d (rsI d s2.col)) := hid ⟨hh5.net, hh5.of, HS.out.kp.belowB ho5 (Nat.le_refl _)⟩; clear hh5 ho5)
                  go_roundw
                  case rel => exact ⟨r + 1, by omega, by go_num, by rw [HN.out]; simp only [if_pos]; go_num, hid (by rw [HN.out]; exact HX5.out)⟩
                  case measure => simp [intOf]; omega
                | false =>
                  go_wp2_with (go_at_call 162; refine CPL.out.mono ?_; rintro e w5 ⟨rfl, hh5, ho5⟩; have HX5 : Hid (OfG w w5 pn hv v d (rsI d s2.col)) := hid ⟨hh5.net, hh5.of, HS.out.kp.belowB ho5 (Nat.le_refl _)⟩; clear hh5 ho5)
                  go_roundw
                  case rel => exact ⟨r + 1, by omega, by go_num, by rw [HN.out]; rfl, hid (by rw [HN.out]; exact HX5.out)⟩
                  case measure => simp [intOf]; omega
                -- /L4
          -- /L2
        · obtain rfl : r = R := by omega
          have hri : ¬ ((r : Int) < (r : Int)) := by omega
          -- L5
          go_wp2
          go_ret
          exact ⟨rfl, ⟨v, HS.out.net⟩, HS.out.kp⟩
          -- /L5
end Go.Proofs.YtjhomkdnhdhffaaGreat
