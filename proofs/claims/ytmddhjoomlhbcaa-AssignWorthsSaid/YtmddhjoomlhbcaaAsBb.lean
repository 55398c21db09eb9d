/- The walk of the laws' 'best'. -/
import Derived.Test.YtmddhjoomlhbcaaAsLa
import Derived.Test.YtmddhjoomlhbcaaAsWp
import Derived.Test.YtmddhjoomlhbcaaAsMy
import Derived.Deep.RegionWith
import Derived.BigRegion
namespace Go.Proofs.Ytmddhjoomlhbcaa
open Go.RowKit

theorem twin_okA {g : Gr} {cap : Nat} (h : GrOk g cap) (hl : g.es.length ≤ 1048576) : GrOk g (g.es.length + 1) := ⟨h.rows, h.cols, h.es, by omega, by omega⟩
/-- What the laws' 'best' answers. -/
def BbPost (w : World) (g : Gr) (e : Ending) (w' : World) : Prop :=
  Below w.heap.size w w' ∧ ((chk g = false ∧ e = .returned (.tuple #[.agg #[.slice none 0 0, .slice none 0 0, .slice none 0 0], .int .i64 0, .bool false])) ∨
  (chk g = true ∧ ∃ tt y z v, BestAns g tt y z ∧ e = .returned (.tuple #[v, .int .i64 (val (wG g) (upTo g.rows.toNat tt) g.rows.toNat), .bool true]) ∧ CertAt w' v (prsTo tt g.rows.toNat) (y.take g.rows.toNat) (z.take g.cols.toNat)))

theorem bb_unify {w w3 : World} {g : Gr} {e : Ending} (h : (chk g = false ∧ e = .returned (.tuple #[.agg #[.slice none 0 0, .slice none 0 0, .slice none 0 0], .int .i64 170])) ∨
    (chk g = true ∧ ∃ tt y z v, BestAns g tt y z ∧ e = .returned (.tuple #[v, .int .i64 0]) ∧ CertAt w3 v (prsTo tt g.rows.toNat) (y.take g.rows.toNat) (z.take g.cols.toNat))) :
    ∃ ps ys zs ec v, e = .returned (.tuple #[v, .int .i64 ec]) ∧ CertAt w3 v ps ys zs ∧ (ps.length ≤ 4611686018427387904 ∧ ∀ p ∈ ps, I64 p.1 ∧ I64 p.2) ∧ (ec = 170 ∨ (ec = 0 ∧ (worthF g ps).2 = 0 ∧ (ys.length : Int) = g.rows ∧ (zs.length : Int) = g.cols)) ∧
      ∀ w', Below w.heap.size w w' → CertAt w' v ps ys zs → BbPost w g (.returned (.tuple #[v, .int .i64 (worthF g ps).1, .bool (decide (ec = 0))])) w' := by
  rcases h with ⟨hc, rfl⟩ | ⟨hc, tt, y, z, v, ha, rfl, hv⟩
  · refine ⟨[], [], [], 170, _, rfl, ⟨none, 0, none, 0, none, 0, rfl, Nat.le_refl _, Nat.le_refl _, Nat.le_refl _, .inl rfl, .inl rfl, .inl rfl⟩, ⟨by simp, fun p hp => by cases hp⟩, .inl rfl, fun w' hb _ => ⟨hb, .inl ⟨hc, ?_⟩⟩⟩
    have : worthF g [] = (0, 170) := by unfold worthF; rw [if_neg (by rw [hc]; simp)]
    rw [this]; rfl
  · have hw := worth_best hc ha
    have hsz := chk_size hc
    refine ⟨_, _, _, 0, v, rfl, hv, ⟨by have := prsTo_len tt g.rows.toNat; omega, fun p hp => ?_⟩, .inr ⟨rfl, by rw [hw], by rw [List.length_take, ha.ly]; omega, by rw [List.length_take, ha.lz]; omega⟩, fun w' hb hv' => ⟨hb, .inr ⟨hc, tt, y, z, v, ha, by rw [hw]; rfl, hv'⟩⟩⟩
    unfold prsTo at hp
    obtain ⟨r, hr, he⟩ := List.mem_filterMap.1 hp
    have hr' := List.mem_range.1 hr
    split at he
    · cases he
    · cases he
      rcases ha.val r hr' with h1 | ⟨c, h1, h2⟩
      · omega
      · rw [h1]; unfold I64; constructor <;> constructor <;> simp <;> omega

theorem rows_setRow {α : Type} {s : Nat} {f : α → Array Value} {w : World} {A : Option Addr} {l : List α} {cb : Nat} {T : TypeId} {fr : Nat × Nat} {vs : Array Value} (h : RowsAt s f w A l) (hc : w.heap[cb]? = some (.cells #[.slice none 0 0, .slice none 0 0, .slice none 0 0] T fr)) (hf : ∀ x, ∃ n, (f x)[0]? = some (.int .i64 n)) : RowsAt s f (w.setRow cb vs) A l := by
  rcases h with h | ⟨g, o, h1, h2, h3⟩
  · exact .inl h
  · by_cases hl : l = []
    · exact .inl hl
    obtain ⟨x, hx⟩ : ∃ x, l[0]? = some x := ⟨l[0]'(by cases l; exact absurd rfl hl; simp), by simp⟩
    have hne : g ≠ cb := by
      intro e
      obtain ⟨n, hn⟩ := hf x
      have := h3 0 x hx 0 _ hn
      subst e
      rw [cell_of_row _ _ _ _ _ _ hc] at this
      generalize o + s * 0 + 0 = k at this
      match k, this with
      | 0, h => cases h
      | 1, h => cases h
      | 2, h => cases h
      | k + 3, h => cases h
    refine .inr ⟨g, o, h1, by simp [World.setRow]; exact h2, fun i y hy j v hv => ?_⟩
    have h4 := h3 i y hy j v hv
    unfold World.cell? at h4 ⊢
    rw [setRow_other _ _ _ _ hne]; exact h4

theorem results_row_tmp2 {P : Program} {fn : Func} {p u x : Tmp} {ty : TypeId} (h : fn.results = #[.cell p ty, .tmp u, .tmp x]) (tmps : Array Value) (w : World) (g : Nat) (t : TypeId) (cs : Array Value) (fr : Nat × Nat) (d : TypeDesc)
    (hp : tmps.getD p undef = .pointer (some ⟨g, 0, none⟩)) (hg : w.heap[g]? = some (.cells cs t fr))
    (hu : P.underlying ty = some d) (hd : (match d with | .struct _ | .array _ _ => true | _ => false) = true) (hi : (P.info? ty).map (·.size) = some cs.size) :
    (results fn tmps).run P w = .ok (.tuple #[.agg cs, tmps.getD u undef, tmps.getD x undef]) w := by
  have hp' : tmps[p]?.getD undef = .pointer (some ⟨g, 0, none⟩) := by simpa using hp
  simp [results, h, hp', asAddr, run_loadVar_row w g t ty cs fr d hg hu hd hi]

theorem setThree {w : World} {g : Nat} {a b c x y z : Value} {T : TypeId} {fr : Nat × Nat} (h : w.heap[g]? = some (.cells #[a, b, c] T fr)) :
    (((w.setCell ⟨g, 0, none⟩ x).setCell ⟨g, 1, none⟩ y).setCell ⟨g, 2, none⟩ z).drew = w.drew.setRow g #[x, y, z] := by
  have hh : (((w.setCell ⟨g, 0, none⟩ x).setCell ⟨g, 1, none⟩ y).setCell ⟨g, 2, none⟩ z).heap = (w.setRow g #[x, y, z]).heap := by
    apply Array.ext_getElem?
    intro i
    simp only [World.setCell, World.setRow, Array.getElem?_modify]
    by_cases hi : g = i
    · subst hi
      simp [h]
    · simp [hi]
  have e1 : (((w.setCell ⟨g, 0, none⟩ x).setCell ⟨g, 1, none⟩ y).setCell ⟨g, 2, none⟩ z) = { w with heap := (w.setRow g #[x, y, z]).heap } := by rw [← hh]; rfl
  rw [e1]; rfl

set_option maxRecDepth 100000 in
set_option maxHeartbeats 8000000 in
theorem lbest_any (g : Gr) (a : Option Addr) (cap : Nat) (hok : GrOk g cap) (hl : g.es.length ≤ 1048576) (w : World) (hr : RowsAt 3 edV w a g.es) :
    Calls Try.prog 22 #[grV g a cap] w (BbPost w g) := by
  have okT := twin_okA hok hl
  have CT := hid (fun w hr => twinGraph_any g a cap hl w hr)
  have CB := hid (fun gt (w2 : World) (h : EdsAt w2 gt (g.es ++ [markEd])) => best_any g (some ⟨gt, 0, none⟩) (g.es.length + 1) okT w2 (h.rows ⟨_, rfl⟩))
  have CW := hid (fun l A cl hll hlp gt (w2 : World) (h : EdsAt w2 gt (g.es ++ [markEd])) hm => worth_any g (some ⟨gt, 0, none⟩) (g.es.length + 1) okT l A cl hll hlp w2 (h.rows ⟨_, rfl⟩) hm)
  have HR := hid hr
  clear hr hok okT
  unfold grV at *
  go_enter Try.func22, Try.ntmps22
  go_upto_region 1 with fail
  have HG := hid (alloc_keep (heap_alloc_new w (.cells #[.int .i64 g.rows, .int .i64 g.cols, .slice a g.es.length cap] 24)) (.cells #[.slice none 0 0, .slice none 0 0, .slice none 0 0] 39))
  have HC := hid (heap_2 w (.cells #[.int .i64 g.rows, .int .i64 g.cols, .slice a g.es.length cap] 24) (.cells #[.slice none 0 0, .slice none 0 0, .slice none 0 0] 39))
  have HB : Hid (Below w.heap.size w ((w.alloc (.cells #[.int .i64 g.rows, .int .i64 g.cols, .slice a g.es.length cap] 24)).alloc (.cells #[.slice none 0 0, .slice none 0 0, .slice none 0 0] 39))) := hid (((Below.refl _ _).alloc (Nat.le_refl _) _).alloc (by simp) _)
  generalize (w.alloc (.cells #[.int .i64 g.rows, .int .i64 g.cols, .slice a g.es.length cap] 24)).alloc (.cells #[.slice none 0 0, .slice none 0 0, .slice none 0 0] 39) = w1 at *
  obtain ⟨cb, hcb⟩ : ∃ cb, cb = w.heap.size + 1 := ⟨_, rfl⟩
  rw [← hcb] at HC ⊢
  have HCB : Hid (w.heap.size < cb) := hid (by omega)
  clear hcb
  go_wp2_with (refine wpList_load_w rfl 24 _ rfl _ rfl _ _ _ _ (HG.out) Try.underlying24 rfl (info_gr) ?_)
  refine (CT.out _ (HR.out.kept HB.out)).mono ?_
  rintro e w2 ⟨gt, rfl, hgt, het, hb2⟩
  have HG2 := hid (below_keep hb2 HG.out)
  have HC2 := hid (below_keep hb2 HC.out)
  have HB2 := hid (HB.out.trans (hb2.mono HB.out.size))
  have CB2 := hid (CB.out gt _ het)
  clear hgt het hb2 HG HC HB CB
  unfold grV at *
  go_wp2_with fail
  refine CB2.out.mono ?_
  rintro e w3 ⟨hb3, hcase⟩
  have HG3 := hid (below_keep hb3 HG2.out)
  have HC3 := hid (below_keep hb3 HC2.out)
  have HB3 := hid (HB2.out.trans (hb3.mono HB2.out.size))
  clear hb3 HG2 HC2 HB2 CB2
  obtain ⟨ps, ys, zs, ec, v, rfl, hcv, hpl, hk, hpost⟩ := bb_unify (w := w) hcase
  obtain ⟨Ap, cp, Ay, cy, Az, cz, rfl, hcp, hcy, hcz, r1, r2, r3⟩ := hcv.at_
  have HRW := hid (And.intro r1 (And.intro r2 r3))
  have HCAP := hid (And.intro hcp (And.intro hcy hcz))
  have HPL := hid hpl
  have HK := hid hk
  have HPOST := hid hpost
  have HR3 := hid (HR.out.kept HB3.out)
  clear hcase hcv r1 r2 r3 hpl hk hpost hcp hcy hcz
  go_upto_region 2 with fail
  have hb4 : Below w3.heap.size w3 (w3.alloc (.cells #[.slice Ap ps.length cp, .slice Ay ys.length cy, .slice Az zs.length cz] 39)) := (Below.refl _ _).alloc (Nat.le_refl _) _
  have HCL := hid (heap_alloc_new w3 (.cells #[.slice Ap ps.length cp, .slice Ay ys.length cy, .slice Az zs.length cz] 39))
  have HG4 := hid (below_keep hb4 HG3.out)
  have HC4 := hid (below_keep hb4 HC3.out)
  have HB4 := hid (HB3.out.trans (hb4.mono HB3.out.size))
  have HR4 := hid (HR3.out.kept hb4)
  have HRW4 := hid (And.intro (HRW.out.1.kept hb4) (And.intro (HRW.out.2.1.kept hb4) (HRW.out.2.2.kept hb4)))
  have HLC : Hid (cb < w3.heap.size) := hid (heap_lt HC3.out)
  clear hb4 HG3 HC3 HB3 HR3 HRW
  generalize w3.alloc (.cells #[.slice Ap ps.length cp, .slice Ay ys.length cy, .slice Az zs.length cz] 39) = w4 at *
  generalize w3.heap.size = lb at *
  go_cut [7, 8] (fun s7 s8 wx => s7 = .int .i64 (worthF g ps).1 ∧ s8 = .int .i64 (worthF g ps).2 ∧ Hid (Below w4.heap.size w4 wx))
  case first =>
    -- L1
    have HRd := hid HR4.out.drew
    have HPd := hid (HRW4.out.1.drew)
    have HCLd := hid (below_keep (Below.refl w4.heap.size w4).drew HCL.out)
    have c4 := row_cell HCL.out 0 _ rfl
    have cg0 := row_cell HG4.out 0 _ rfl
    have cg1 := row_cell HG4.out 1 _ rfl
    have cg2 := row_cell HG4.out 2 _ rfl
    have hug := Try.underlying24
    go_region_with (first | (go_at_call 15; refine (CT.out _ HRd.out).mono ?_; rintro e w5 ⟨gt5, rfl, hgt5, het5, hb5⟩; have H5 := hid (And.intro het5 hb5); have c5p := row_cell (below_keep hb5 HCLd.out) 0 _ rfl; clear hgt5 het5 hb5) | (go_at_call 17; refine (CW.out ps Ap cp HPL.out.1 HPL.out.2 gt5 w5 H5.out.1 (HPd.out.kept H5.out.2)).mono ?_; rintro e w6 ⟨rfl, hb6⟩; have H6 := hid hb6; clear hb6))
    all_goals go_wp2
    all_goals go_meet
    all_goals exact ⟨rfl, rfl, hid ((Below.refl w4.heap.size w4).drew.trans (H5.out.2.trans (H6.out.mono H5.out.2.size)))⟩
    -- L1
  case rest =>
    obtain ⟨rfl, rfl, HBC⟩ := hcut
    have HCL5 := hid (below_keep HBC.out HCL.out)
    have HG5 := hid (below_keep HBC.out HG4.out)
    have HC5 := hid (below_keep HBC.out HC4.out)
    have HB5 := hid (HB4.out.trans (HBC.out.mono HB4.out.size))
    have HRW5 := hid (And.intro (HRW4.out.1.kept HBC.out) (And.intro (HRW4.out.2.1.kept HBC.out) (HRW4.out.2.2.kept HBC.out)))
    clear HCL HG4 HC4 HB4 HRW4 HBC HR4 CT CW
    obtain ⟨wq, hwq⟩ : ∃ wq, wq = wc.drew := ⟨_, rfl⟩
    have hbd : Below wc.heap.size wc wq := by rw [hwq]; exact (Below.refl _ _).drew
    have HCLq := hid (below_keep hbd HCL5.out)
    have HGq := hid (below_keep hbd HG5.out)
    have HCq := hid (below_keep hbd HC5.out)
    have HBq := hid (HB5.out.trans (hbd.mono HB5.out.size))
    have HRWq := hid (And.intro (HRW5.out.1.kept hbd) (And.intro (HRW5.out.2.1.kept hbd) (HRW5.out.2.2.kept hbd)))
    have HQD := hid hwq
    have c0 := row_cell HCL5.out 0 _ rfl
    have c1 := row_cell HCL5.out 1 _ rfl
    have c2 := row_cell HCL5.out 2 _ rfl
    have d0 := row_cell HC5.out 0 _ rfl
    have d1 := row_cell HC5.out 1 _ rfl
    have d2 := row_cell HC5.out 2 _ rfl
    have f0 := free_row HC5.out 0
    have f1 := free_row HC5.out 1
    have f2 := free_row HC5.out 2
    have g0 := row_cell HG5.out 0 _ rfl
    have g1 := row_cell HG5.out 1 _ rfl
    have HCC := hid HC5.out
    clear hwq hbd HCL5 HG5 HC5 HB5 HRW5
    have HPF := hid (HPOST.out (wq.setRow cb #[.slice Ap ps.length cp, .slice Ay ys.length cy, .slice Az zs.length cz]) (below_setRow' HBq.out (by have := HCB.out; omega) _) ⟨_, _, _, _, _, _, rfl, HCAP.out.1, HCAP.out.2.1, HCAP.out.2.2, rows_setRow HRWq.out.1 HCq.out (fun p => ⟨p.1, rfl⟩), rows_setRow HRWq.out.2.1 HCq.out (fun x => ⟨x, rfl⟩), rows_setRow HRWq.out.2.2 HCq.out (fun x => ⟨x, rfl⟩)⟩)
    have huc := Try.underlying39
    have hoc : ∀ v ∈ (#[.slice Ap ps.length cp, .slice Ay ys.length cy, .slice Az zs.length cz] : Array Value).toList, v.oneCell' = true := by simp [Value.oneCell']
    have HOC := hid hoc
    have HIC : Hid ((Try.prog.info? 39).map (·.size) = some (#[.slice Ap ps.length cp, .slice Ay ys.length cy, .slice Az zs.length cz] : Array Value).size) := hid info_cert
    clear hoc
    rcases HK.out with rfl | ⟨rfl, hw, hy, hz⟩
    · -- L2
      go_wp2
      go_big_region
      rw [setThree HCC.out, ← HQD.out]
      go_wp2
      refine bodyPost_ret (results_row_tmp2 rfl _ _ _ 39 _ _ _ rfl (setRow_at HCq.out _) Try.underlying39 rfl HIC.out) rfl ?_
      exact HPF.out
      -- L2
    · -- L3
      rw [hw]
      have hy' : ((ys.length : Int) == g.rows) = true := by simpa using hy
      have hz' : ((zs.length : Int) == g.cols) = true := by simpa using hz
      clear hw hy hz
      have hlc : cb < lb := HLC.out
      have hbc : w.heap.size < cb := HCB.out
      have hlc2 : cb ≠ lb := by omega
      have hbc2 : cb ≠ w.heap.size := by omega
      go_wp2
      go_big_region
      all_goals rw [setThree HCC.out, ← HQD.out]
      all_goals go_wp2
      all_goals refine bodyPost_ret (results_row_tmp2 rfl _ _ _ 39 _ _ _ rfl (setRow_at HCq.out _) Try.underlying39 rfl HIC.out) rfl ?_
      all_goals exact HPF.out
      -- L3
end Go.Proofs.Ytmddhjoomlhbcaa
