/- Riders: State. -/
import Derived.Test.YtkaalppmheikgaaRdA
import Derived.Test.YtkaalppmheikgaaItS
namespace Go.Proofs.Ytkaalppmheikgaa
open Go.RowKit Go.Shelf
attribute [local go_sem] Oper.semAt_some

/-- Ids in order. -/
def sortI (l : List Id8) : List Id8 := l.mergeSort fun x y => !(ltOf cfId) y x
theorem sortI_vals (l : List Id8) : (sortI l).map Subtype.val = sortB (l.map Subtype.val) := sort_map l
theorem sortI_perm (l : List Id8) : (sortI l).Perm l := List.mergeSort_perm _ _
theorem sortI_len (l : List Id8) : (sortI l).length = l.length := (sortI_perm l).length_eq
theorem sortI_mem {l : List Id8} {x : Id8} : x ∈ sortI l ↔ x ∈ l := (sortI_perm l).mem_iff
theorem fl_flatB (l : List Id8) : flatB (l.map Subtype.val) = fl idE l := by unfold flatB fl; rw [List.flatMap_map]; rfl
theorem run_loadVar_sl {P : Program} {ty e : TypeId} (hu : P.underlying ty = some (.slice e)) (w : World) (a : Addr) (v : Value) (hc : w.cell? a = some v) : (loadVar ty a).run P w = .ok v w := by
  unfold loadVar isAgg
  simp [run_underlying hu, load, Sem.run, hc]
/-- Three results, the last one in a cell. -/
theorem results_tmp_tmp_cell {P : Program} {fn : Func} {p q u : Tmp} {t e : TypeId} (h : fn.results = #[.tmp p, .tmp q, .cell u t]) (tmps : Array Value) (w : World) (a : Addr) (v : Value) (hp : tmps.getD u undef = .pointer (some a)) (hu : P.underlying t = some (.slice e)) (hc : w.cell? a = some v) :
    (results fn tmps).run P w = .ok (.tuple #[tmps.getD p undef, tmps.getD q undef, v]) w := by
  have hp' : tmps[u]?.getD undef = .pointer (some a) := by simpa using hp
  simp [results, h, hp', asAddr, run_loadVar_sl hu w a v hc]
section
variable {w : World} {p : Nat} {B : RB} {R : RS} {H : List (Id8 × Int)} {l : List It} {came : Int}
theorem RdAt.iter (h : RdAt w p B R H l came) {bx : Nat} (hb : w.heap[bx]? = some (.cells #[.pointer (some ⟨B.s, 0, none⟩)] 65 (0, 0))) : IterAt w bx (sortI R.S) :=
  ⟨_, hb, .inr ⟨B.s, rfl, .inr ⟨B.sb, vals8 R.S, h.set, sortI_vals R.S⟩⟩⟩
/-- State under way: the list in its box. -/
def StJ (w : World) (pre : List Id8) (W : World) : Prop := (∃ v, Boxed W w.heap.size 40 v ∧ W.ownsRow w.heap.size 31 8 v pre.length (fl idE pre)) ∧ Below w.heap.size w W
set_option maxRecDepth 100000 in
set_option maxHeartbeats 8000000 in
theorem state_any (h : RdAt w p B R H l came) (hlen : R.S.length ≤ 8796093022208) :
    Calls Try.prog 12 #[.pointer (some ⟨p, 0, none⟩)] w fun e w' => ∃ v, e = .returned (.tuple #[.int .i64 R.now, .int .i64 R.next, v]) ∧ w'.ownsRow w.heap.size 31 8 v (sortI R.S).length (fl idE (sortI R.S)) ∧ Below w.heap.size w w' := by
  have HR := hid h
  have HL := hid (show (sortI R.S).length ≤ 8796093022208 by rw [sortI_len]; exact hlen)
  have hB1 := (Below.refl w.heap.size w).alloc (Nat.le_refl _) (.cells #[.slice none 0 0] 40)
  have HTH := hid (there_any (h.kept hB1))
  have hc7 := (h.kept hB1).c7
  clear h hlen
  refine (callsIn_wide (n := 3)).1 ?_
  refine callsIn_of_wp_marks Try.func12 rfl trivial ?_ rfl
  simp only [Try.ntmps12, List.size_toArray, List.length_cons, List.length_nil, Nat.reduceAdd, Nat.reduceSub, Array.replicate_succ, Array.replicate_zero, List.push_toArray, List.append_toArray, List.nil_append, List.cons_append]
  refine wpIn_wide.2 ?_
  go_wp2_with (first | (go_at_call 25; (with_reducible refine HTH.out.mono ?_); rintro e w2 ⟨rfl, hw2⟩; rw [hw2]; clear hw2) | (go_at_call 28; (with_reducible refine (all_any _ _).mono ?_); rintro e w3 ⟨rfl, hw3⟩; rw [hw3]; clear hw3))
  have bL := (Boxed.new w 40 (.slice none 0 0)).alloc (.cells #[.pointer (some ⟨B.s, 0, none⟩)] 65)
  have hB0 : Below w.heap.size w ((w.alloc (.cells #[.slice none 0 0] 40)).alloc (.cells #[.pointer (some ⟨B.s, 0, none⟩)] 65)) := hB1.alloc (by simp) _
  have hsz : ((w.alloc (.cells #[.slice none 0 0] 40)).alloc (.cells #[.pointer (some ⟨B.s, 0, none⟩)] 65)).heap.size = w.heap.size + 2 := by simp
  have hbx : ((w.alloc (.cells #[.slice none 0 0] 40)).alloc (.cells #[.pointer (some ⟨B.s, 0, none⟩)] 65)).heap[w.heap.size + 1]? = some (.cells #[.pointer (some ⟨B.s, 0, none⟩)] 65 (0, 0)) := heap2_new _ _ _ _
  obtain ⟨W0, hW0⟩ : ∃ W0, (w.alloc (.cells #[.slice none 0 0] 40)).alloc (.cells #[.pointer (some ⟨B.s, 0, none⟩)] 65) = W0 := ⟨_, rfl⟩
  rw [hW0] at bL hB0 hsz hbx ⊢
  have HI := hid ((HR.out.kept hB0).iter hbx)
  clear hW0 hB1 HTH hc7 hbx
  obtain ⟨i0, hi, hz0, hz1, hz2⟩ := info_parts Try.infoId
  refine (wpIn_wide (n := 3)).1 ?_
  refine wpIn_rangeFunc_ownH (α := Id8) rfl (by omega) (gf := 45) (lb := #[.pointer (some ⟨w.heap.size + 1, 0, none⟩)]) rfl trivial (enters_of Try.func45 (by kernel_rfl) rfl)
    (iter_stops (O := ownX w.heap.size) (by omega) HI.out HL.out (ownX_of (by omega)) (fun k ⟨v, t, fr, h1, h2⟩ => by rw [bL] at h1; cases h1; cases h2)) (fun h k => h.trans k) (KO.put (ownX_of (by omega)) (Nat.le_refl _)) (Below.refl _ _) (fun _ => rfl)
    (fun pre W => (∃ v, Boxed W w.heap.size 40 v ∧ W.ownsRow w.heap.size 31 8 v pre.length (fl idE pre) ∧ True) ∧ Below w.heap.size w W)
    (fun _ _ _ => False)
    (OwnFrom.and (Own.from (holdsRow_own w.heap.size _ _ _ 8 List.length (fun pre => fl idE pre) (fun _ _ => True)) _) (ownFrom_below (Nat.le_refl _) (by omega)))
    (fun _ => fun _ _ _ _ h _ _ => h)
    ⟨⟨_, bL, World.ownsRow_nil _ _ _ _, trivial⟩, hB0⟩
    (fun x a' W => ∃ Bx, w.heap.size < Bx ∧ W.heap[Bx]? = some (.cells (bys x.1) 31 (0, 0)) ∧ a' = { tmps := #[.pointer (some ⟨p, 0, none⟩), undef, .int .i64 0, .int .i64 0, .pointer (some ⟨w.heap.size, 0, none⟩), .pointer (some ⟨Bx, 0, none⟩), .pointer (some ⟨p, 0, none⟩), .bool true, .bool false, .pointer (some ⟨p, 0, none⟩), .pointer (some ⟨p, 0, none⟩), .pointer (some ⟨p, 7, none⟩), .pointer (some ⟨B.s, 0, none⟩), (.func (.func 45) #[] #[.pointer (some ⟨w.heap.size + 1, 0, none⟩)]), .agg (bys x.1), undef, undef, undef, undef, undef, undef, undef, undef, undef, undef, undef, undef, undef], defers := [] })
    (fun x a' _ X Y row hs hg hr => by obtain ⟨Bx, h1, h2, h3⟩ := hs; exact ⟨Bx, h1, (hg.block Bx (heap_lt h2) (fun e => by obtain ⟨_, o, ho, hc⟩ := hr Bx e.symm; rw [h2] at ho; cases ho; cases hc)).trans h2, h3⟩)
    ?assign ?body ?done ?stop
  case assign =>
    rintro l pre x W K ⟨⟨v, bL1, hr1, _⟩, hB1⟩ hK
    have HX8 : Hid ((bys x.1).size = 8) := hid (by rw [bys_size, x.2.1])
    have HI2 := hid (info_id x.1 x.2)
    gi_wp2_with (refine wpListIn_store_row rfl 31 _ _ rfl _ _ rfl rfl _ _ (heap_alloc_new _ _) HI2.out (by rw [HX8.out]; rfl) (Array.all_eq_true_iff_forall_mem.2 (fun v hv => bys_one _ v (by simpa using hv))) _ (setRow_alloc _ _ _ _) ?_)
    refine hK _ _ ((KeepsOthers.alloc _ _).from _) ⟨by simp, fun j cs fr hj _ => alloc_keep hj _, fun j hj hx => ownX_of (n := W.heap.size) bL1.lt W _ j (fun i hi => Below.heap_alloc _ _ _ hi) hx⟩ ⟨⟨v, bL1.alloc _, hr1.alloc _, trivial⟩, hB1.alloc hB1.size _⟩ ⟨W.heap.size, bL1.lt, heap_alloc_new _ _, rfl⟩
  case body =>
    rintro l pre x a' W hl ⟨r, hr⟩ ⟨⟨v, bL1, hr1, _⟩, hB1⟩ ⟨Bx, hBx, bX, rfl⟩ hlt
    have cL := bL1.cell
    have HX8 : Hid ((bys x.1).size = 8) := hid (by rw [bys_size, x.2.1])
    have HI2 := hid (info_id x.1 x.2)
    have HR1 := hid hr1
    have HX := hid bX
    have HB1 := hid hB1
    have HLW := hid bL1
    have hLL := HL.out
    have hws := hB1.size
    clear hr hr1 bX hB1 bL1
    gi_wp2_with (first | (refine wpListIn_load_w rfl 31 _ rfl _ rfl _ _ _ _ HX.out Try.underlying31 rfl HI2.out ?_) | (refine wpListIn_build1 rfl 40 31 _ rfl _ rfl i0 _ Try.underlying40 hi hz0 (by rw [hz1, HX8.out]) (by rw [HX8.out]; decide) (by rw [HX8.out]; decide) ?_) | (gi_at_builtin; refine wpListIn_append_own_at rfl _ _ 40 rfl w.heap.size 31 i0 _ 8 8 Try.underlying40 hi hz0 hz1 hz2 rfl (by decide) _ _ _ rfl (HR1.out.alloc _) ⟨_, 0, none⟩ 1 1 (bys x.1).toList rfl (by rw [Array.length_toList, HX8.out]) (cells_at (heap_alloc_new _ _)) (bys_one x.1) (by unfold maxLen; omega) (by omega) (by simp; omega) ?_))
    intro v' w1 hown hgrow _ hat
    obtain ⟨g', cap', rfl⟩ := ownsRow_succ hown
    obtain ⟨hv1, hv2, hr2, hk2, hb2⟩ := HLW.out.appended (by decide) HR1.out HB1.out.size (by omega) hown hgrow
    have hc1 := hv1.cell
    have hf1 := hv1.frozen
    have HKO : Hid (KO 31 (ownX w.heap.size) W (w1.setCell ⟨w.heap.size, 0, none⟩ (.slice (some ⟨g', 0, none⟩) (pre.length + 1) cap'))) := hid ⟨hk2.size, fun k cs fr hk ho => by
        have h1 : (W.alloc (.cells (bys x.1) 31)).heap[k]? = some (.cells cs 31 fr) := alloc_keep hk _
        have h2 := (hgrow.block k (heap_lt h1) (fun e => ho ⟨v, _, _, HLW.out, e.symm⟩)).trans h1
        rw [heap_setCell_ne (fun e => by subst e; have h3 : w1.heap[w.heap.size]? = _ := hv1; rw [h2] at h3; cases h3)]; exact h2,
      fun k hk ⟨u, t, fr, h1, h2⟩ => by
        have h3 : (w1.setCell ⟨w.heap.size, 0, none⟩ (.slice (some ⟨g', 0, none⟩) (pre.length + 1) cap')).heap[w.heap.size]? = _ := hv2
        rw [h3] at h1
        cases h1
        rcases hat with e | e
        · exact ⟨v, _, _, HLW.out, e ▸ h2⟩
        · rw [e] at h2; cases h2; omega⟩
    have HV2 := hid hv2
    have HR2 : Hid _ := hid hr2
    have HK2 := hid hk2
    have HB2 := hid (HB1.out.trans hb2)
    clear hown hgrow hat hv1 hv2 hr2 hk2 hb2 cL
    gi_wp2
    refine ⟨HK2.out.from _, HKO.out, ⟨_, HV2.out, ?_, trivial⟩, HB2.out⟩
    rw [List.length_append, fl_append, fl_one]; exact HR2.out
  case done =>
    rintro D ys W hD rfl ⟨⟨v, bL1, hr1, _⟩, hB1⟩ hK
    have cL := bL1.cell
    have HR1 := hid hr1
    have HB1 := hid hB1
    have HRD := hid (HR.out.kept hB1)
    obtain ⟨va, cap, rfl⟩ := ownsRow_shape hr1
    clear hr1 hB1
    gi_wp2_with fail
    go_wp2_with fail
    obtain ⟨W1, hW1⟩ : ∃ W1, W1 = W.drew := ⟨_, rfl⟩
    have hc5 : W1.cell? ⟨p, 5, none⟩ = some (.int .i64 R.now) := by rw [hW1]; exact HRD.out.c5
    have hc6 : W1.cell? ⟨p, 6, none⟩ = some (.int .i64 R.next) := by rw [hW1]; exact HRD.out.c6
    have hcL : W1.cell? ⟨w.heap.size, 0, none⟩ = some (.slice va (sortI R.S).length cap) := by rw [hW1]; exact cL
    have hfL : W1.frozen? ⟨w.heap.size, 0, none⟩ = false := by rw [hW1]; exact bL1.frozen
    have HW1 := hid hW1
    clear hW1 cL
    refine wp_region_tail 11 (by kernel_rfl) (by kernel_rfl) W1 HW1.out ?_
    simp only [List.take_succ_cons, List.take_zero, List.drop_succ_cons, List.drop_zero]
    iterate 11 still_step
    refine wpStill_nil ?_
    go_wp2
    have hnr := bL1.not_row (by decide) HR1.out
    have hDn : D ≠ w.heap.size := by omega
    have hbl : W1.heap[w.heap.size]? = some (.cells #[.slice va (sortI R.S).length cap] 40 (0, 0)) := by rw [HW1.out]; exact bL1
    have hW2L : (W1.setCell ⟨w.heap.size, 0, none⟩ (.slice va (sortI R.S).length cap)).heap[w.heap.size]? = some (.cells #[.slice va (sortI R.S).length cap] 40 (0, 0)) := by rw [row_setCell hbl]; rfl
    have hrow2 : (W1.setCell ⟨w.heap.size, 0, none⟩ (.slice va (sortI R.S).length cap)).ownsRow w.heap.size 31 8 (.slice va (sortI R.S).length cap) (sortI R.S).length (fl idE (sortI R.S)) :=
      ownsRow_other HR1.out fun g hg => (heap_setCell_ne (fun e => hnr (by rw [hg, e]))).trans (by rw [HW1.out]; rfl)
    have hK2 : (W1.setCell ⟨w.heap.size, 0, none⟩ (.slice va (sortI R.S).length cap)).heap[D]? = some (.deferred (some [])) := (heap_setCell_ne hDn).trans (by rw [HW1.out]; exact hK)
    have hB2 : Below w.heap.size w (W1.setCell ⟨w.heap.size, 0, none⟩ (.slice va (sortI R.S).length cap)) := by
      have h1 : Below w.heap.size w W1 := by rw [HW1.out]; exact HB1.out.drew
      exact h1.setCell (p := ⟨w.heap.size, 0, none⟩) (Nat.le_refl _) _
    refine ⟨by simp, .inl ⟨_, _, rfl, run_takeDeferred hK2, ?_⟩⟩
    refine ⟨_, results_tmp_tmp_cell rfl _ _ ⟨w.heap.size, 0, none⟩ _ rfl Try.underlying40 (row_cell ((World.putObj_heap_other hDn.symm).trans hW2L) 0 _ rfl), _, rfl, ownsRow_putObj hrow2 _ hK2 rfl, hB2.trans (belowK_b (w := w) (Nat.le_refl _) _ D _ _ (by omega) hK2 rfl rfl)⟩
  case stop =>
    rintro D c pre W hD hpre h
    exact h.elim
end
end Go.Proofs.Ytkaalppmheikgaa
