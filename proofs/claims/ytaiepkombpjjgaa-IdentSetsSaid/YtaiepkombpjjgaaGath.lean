/- gather: what an iterator that All gave goes through, up to so many. -/
import Derived.Test.YtaiepkombpjjgaaIterS
namespace Go.Proofs.Ytaiepkombpjjgaa
open Go.RowKit Go.Shelf
attribute [local go_sem] Oper.semAt_some

/-- The ids as lists. -/
def vals (l : List Id8) : List (List Int) := l.map Subtype.val
theorem vals_snoc (l : List Id8) (x : Id8) : vals (l ++ [x]) = vals l ++ [x.1] := by unfold vals; rw [List.map_append]; rfl
theorem eq_seq (f : Fn) (m : Array Value) (cs : Array Value) (w : World) : (binOp .eql 45 (.func f m cs) .nilFunc).run Try.prog w = .ok (.bool false) w := by
  have hu := Try.underlying45
  have h0 : ∀ d, (Op.equalIn (d + 1) 45 (.func f m cs) .nilFunc).run Try.prog w = .ok false w := fun d => by
    unfold Op.equalIn
    rw [Sem.run_bind, run_underlying hu]
    rfl
  have h : (Op.equalIn Op.maxDepth 45 (.func f m cs) .nilFunc).run Try.prog w = .ok false w := h0 9999
  simp [binOp, Op.equal, h]

set_option maxRecDepth 100000 in
set_option maxHeartbeats 2000000 in
theorem gather_any {bx : Nat} {L : List Id8} {w : World} (hI : IterAt w bx L) (hlen : L.length ≤ 1099511627776) (most : Int) (hm : -9223372036854775808 ≤ most ∧ most ≤ 9223372036854775807) :
    Calls Try.prog 30 #[.func (.func 50) #[] #[.pointer (some ⟨bx, 0, none⟩)], .int .i64 most] w fun e w' =>
      ∃ v, e = .returned v ∧ w'.ownsRow w.heap.size 23 8 v (L.take most.toNat).length (flatB (vals (L.take most.toNat))) ∧ (L.take most.toNat = [] → v = .slice none 0 0) ∧ Below w.heap.size w w' := by
  have HI := hid hI
  have HL := hid hlen
  have hseq := eq_seq
  clear hI hlen
  refine (callsIn_wide (n := 3)).1 ?_
  refine callsIn_of_wp_marks Try.func30 rfl trivial ?_ rfl
  simp only [Try.ntmps30, List.size_toArray, List.length_cons, List.length_nil, Nat.reduceAdd, Nat.reduceSub, Array.replicate_succ, Array.replicate_zero, List.push_toArray, List.append_toArray, List.nil_append, List.cons_append]
  have ht : most < 1 → L.take most.toNat = [] := fun h => by rw [show most.toNat = 0 by omega]; rfl
  by_cases h1 : most < 1
  · have ht' := hid (ht h1)
    clear ht
    gi_wp2
    refine ⟨_, results_tmp rfl _ _ _, _, rfl, ?_, fun _ => rfl, ((Below.refl _ w).alloc (Nat.le_refl _) _).alloc (by simp) _⟩
    rw [ht'.out]
    exact World.ownsRow_nil _ _ _ _
  · clear ht
    gi_wp2
    have bM := (Boxed.new w 3 (.int .i64 most)).alloc (.cells #[.slice none 0 0] 52)
    have bL := Boxed.new (w.alloc (.cells #[.int .i64 most] 3)) 52 (.slice none 0 0)
    rw [World.size_alloc] at bL
    have hB0 : Below w.heap.size w ((w.alloc (.cells #[.int .i64 most] 3)).alloc (.cells #[.slice none 0 0] 52)) := ((Below.refl _ w).alloc (Nat.le_refl _) _).alloc (by simp) _
    have hsz : ((w.alloc (.cells #[.int .i64 most] 3)).alloc (.cells #[.slice none 0 0] 52)).heap.size = w.heap.size + 2 := by simp
    obtain ⟨W0, hW0⟩ : ∃ W0, (w.alloc (.cells #[.int .i64 most] 3)).alloc (.cells #[.slice none 0 0] 52) = W0 := ⟨_, rfl⟩
    rw [hW0] at bM bL hB0 hsz ⊢
    clear hW0
    obtain ⟨i0, hi, hz0, hz1, hz2⟩ := info_parts Try.infoId
    refine wpIn_rangeFunc_ownH (α := Id8) rfl (by omega) (gf := 50) (lb := #[.pointer (some ⟨bx, 0, none⟩)]) rfl trivial (enters_of Try.func50 (by kernel_rfl) rfl)
      (iter_stops (O := ownX (w.heap.size + 1)) (by omega) (HI.out.kept hB0) HL.out (ownX_of (by omega)) (fun k ⟨v, t, fr, h1, h2⟩ => by rw [bL] at h1; cases h1; cases h2)) (fun h k => h.trans k) (KO.put (ownX_of (by omega)) (Nat.le_refl _)) (Below.refl _ _) (fun _ => rfl)
      (fun pre W => ((∃ v, Boxed W (w.heap.size + 1) 52 v ∧ W.ownsRow w.heap.size 23 8 v pre.length (flatB (vals pre)) ∧ (pre = [] → v = .slice none 0 0)) ∧ Boxed W w.heap.size 3 (.int .i64 most)) ∧ Below w.heap.size w W ∧ (pre.length : Int) < most)
      (fun c pre W => c = .exit 0 ∧ ((∃ v, Boxed W (w.heap.size + 1) 52 v ∧ W.ownsRow w.heap.size 23 8 v pre.length (flatB (vals pre)) ∧ (pre = [] → v = .slice none 0 0)) ∧ Boxed W w.heap.size 3 (.int .i64 most)) ∧ Below w.heap.size w W ∧ (pre.length : Int) = most)
      (OwnFrom.and (OwnFrom.and (Own.from (holdsRow_own w.heap.size _ _ _ 8 List.length (fun pre => flatB (vals pre)) (fun pre v => pre = [] → v = .slice none 0 0)) _) (Own.from (boxed_own _ _ _) _)) (OwnFrom.and (ownFrom_below (Nat.le_refl _) (by omega)) (fun _ _ _ _ h _ _ => h)))
      (fun c => OwnFrom.and (fun _ _ _ _ h _ _ => h) (OwnFrom.and (OwnFrom.and (Own.from (holdsRow_own w.heap.size _ _ _ 8 List.length (fun pre => flatB (vals pre)) (fun pre v => pre = [] → v = .slice none 0 0)) _) (Own.from (boxed_own _ _ _) _)) (OwnFrom.and (ownFrom_below (Nat.le_refl _) (by omega)) (fun _ _ _ _ h _ _ => h))))
      ⟨⟨⟨_, bL, World.ownsRow_nil _ _ _ _, fun _ => rfl⟩, bM⟩, hB0, by simpa using (by omega : (0 : Int) < most)⟩
      (fun x a' W => ∃ Bx, w.heap.size + 1 < Bx ∧ W.heap[Bx]? = some (.cells (bys x.1) 23 (0, 0)) ∧ a' = { tmps := #[.func (.func 50) #[] #[.pointer (some ⟨bx, 0, none⟩)], .int .i64 most, undef, .pointer (some ⟨w.heap.size, 0, none⟩), .slice none 0 0, .pointer (some ⟨w.heap.size + 1, 0, none⟩), .pointer (some ⟨Bx, 0, none⟩), .func (.func 50) #[] #[.pointer (some ⟨bx, 0, none⟩)], .bool false, .bool false, .int .i64 most, .bool false, .bool false, .func (.func 50) #[] #[.pointer (some ⟨bx, 0, none⟩)], .agg (bys x.1), undef, undef, undef, undef, undef, undef, undef, undef, undef], defers := [] })
      (fun x a' _ X Y row hs hg hr => by obtain ⟨Bx, h1, h2, h3⟩ := hs; exact ⟨Bx, h1, (hg.block Bx (heap_lt h2) (fun e => by obtain ⟨_, o, ho, hc⟩ := hr Bx e.symm; rw [h2] at ho; cases ho; cases hc)).trans h2, h3⟩)
      ?assign ?body ?done ?stop
    case assign =>
      rintro l pre x W K ⟨⟨⟨v, bL1, hr1, hnl⟩, bM1⟩, hB1, hl1⟩ hK
      have HX8 : Hid ((bys x.1).size = 8) := hid (by rw [bys_size, x.2.1])
      have HI2 := hid (info_id x.1 x.2)
      gi_wp2_with (refine wpListIn_store_row rfl 23 _ _ rfl _ _ rfl rfl _ _ (heap_alloc_new _ _) HI2.out (by rw [HX8.out]; rfl) (Array.all_eq_true_iff_forall_mem.2 (fun v hv => bys_one _ v (by simpa using hv))) _ (setRow_alloc _ _ _ _) ?_)
      refine hK _ _ ((KeepsOthers.alloc _ _).from _) ⟨by simp, fun j cs fr hj _ => alloc_keep hj _, fun j hj hx => ownX_of (n := W.heap.size) bL1.lt W _ j (fun i hi => Below.heap_alloc _ _ _ hi) hx⟩ ⟨⟨⟨v, bL1.alloc _, hr1.alloc _, hnl⟩, bM1.alloc _⟩, hB1.alloc hB1.size _, hl1⟩ ⟨W.heap.size, bL1.lt, heap_alloc_new _ _, rfl⟩
    case body =>
      rintro l pre x a' W hl ⟨r, hr⟩ ⟨⟨⟨v, bL1, hr1, hnl⟩, bM1⟩, hB1, hl1⟩ ⟨Bx, hBx, bX, rfl⟩ hlt
      have cL := bL1.cell
      have cM := bM1.cell
      have HX8 : Hid ((bys x.1).size = 8) := hid (by rw [bys_size, x.2.1])
      have HI2 := hid (info_id x.1 x.2)
      have HR1 := hid hr1
      have HX := hid bX
      have HB1 := hid hB1
      have HLW := hid bL1
      have hLL := HL.out
      have hws := hB1.size
      clear hr hr1 bX hB1 bL1
      gi_wp2_with (first | (refine wpListIn_load_w rfl 23 _ rfl _ rfl _ _ _ _ HX.out Try.underlying23 rfl HI2.out ?_) | (refine wpListIn_build1 rfl 52 23 _ rfl _ rfl i0 _ Try.underlying52 hi hz0 (by rw [hz1, HX8.out]) (by rw [HX8.out]; decide) (by rw [HX8.out]; decide) ?_) | (gi_at_builtin; refine wpListIn_append_own_at rfl _ _ 52 rfl w.heap.size 23 i0 _ 8 8 Try.underlying52 hi hz0 hz1 hz2 rfl (by decide) _ _ _ rfl (HR1.out.alloc _) ⟨_, 0, none⟩ 1 1 (bys x.1).toList rfl (by rw [Array.length_toList, HX8.out]) (cells_at (heap_alloc_new _ _)) (bys_one x.1) (by unfold maxLen; omega) (by omega) (by simp; omega) ?_))
      intro v' w1 hown hgrow _ hat
      obtain ⟨g', cap', rfl⟩ := ownsRow_succ hown
      obtain ⟨hv1, hv2, hr2, hk2, hb2⟩ := HLW.out.appended (by decide) HR1.out HB1.out.size (by omega) hown hgrow
      have hc1 := hv1.cell
      have hf1 := hv1.frozen
      have bM2 : Boxed w1 w.heap.size 3 (.int .i64 most) := (bM1.alloc _).kept hgrow (bM1.not_row (by decide) HR1.out)
      have bM3 := bM2.other (B' := w.heap.size + 1) (by omega) (.slice (some ⟨g', 0, none⟩) (pre.length + 1) cap')
      have cM3 := bM3.cell
      have cL3 := hv2.cell
      have HKO : Hid (KO 23 (ownX (w.heap.size + 1)) W (w1.setCell ⟨w.heap.size + 1, 0, none⟩ (.slice (some ⟨g', 0, none⟩) (pre.length + 1) cap'))) := hid ⟨hk2.size, fun k cs fr hk ho => by
          have h1 : (W.alloc (.cells (bys x.1) 23)).heap[k]? = some (.cells cs 23 fr) := alloc_keep hk _
          have h2 := (hgrow.block k (heap_lt h1) (fun e => ho ⟨v, _, _, HLW.out, e.symm⟩)).trans h1
          rw [heap_setCell_ne (fun e => by subst e; have h3 : w1.heap[w.heap.size + 1]? = _ := hv1; rw [h2] at h3; cases h3)]; exact h2,
        fun k hk ⟨u, t, fr, h1, h2⟩ => by
          have h3 : (w1.setCell ⟨w.heap.size + 1, 0, none⟩ (.slice (some ⟨g', 0, none⟩) (pre.length + 1) cap')).heap[w.heap.size + 1]? = _ := hv2
          rw [h3] at h1
          cases h1
          rcases hat with e | e
          · exact ⟨v, _, _, HLW.out, e ▸ h2⟩
          · rw [e] at h2; cases h2; omega⟩
      have HV2 := hid hv2
      have HR2 : Hid _ := hid hr2
      have HK2 := hid hk2
      have HB2 := hid (HB1.out.trans hb2)
      have BM3 := hid bM3
      clear hown hgrow hat hv1 hv2 hr2 hk2 hb2 bM2 bM3 bM1 cM cL
      gi_wp2
      · rename_i he
        refine ⟨HK2.out.from _, rfl, ⟨⟨_, HV2.out, ?_, fun h => by simp at h⟩, BM3.out⟩, HB2.out, ?_⟩
        · rw [List.length_append, vals_snoc, flatB_snoc]; exact HR2.out
        · rw [List.length_append]; simpa using he
      · rename_i he
        refine ⟨HK2.out.from _, HKO.out, ⟨⟨_, HV2.out, ?_, fun h => by simp at h⟩, BM3.out⟩, HB2.out, ?_⟩
        · rw [List.length_append, vals_snoc, flatB_snoc]; exact HR2.out
        · have he' : ¬ ((pre.length : Int) + 1 = most) := by simpa using he
          rw [List.length_append]; simp; omega
    case done =>
      rintro D ys W hD rfl ⟨⟨⟨v, bL1, hr1, hnl⟩, bM1⟩, hB1, hl1⟩ hK
      have cL := bL1.cell
      have HR1 := hid hr1
      have HB1 := hid hB1
      have HI1 := hid (List.take_of_length_le (l := ys) (i := most.toNat) (by omega))
      obtain ⟨va, cap, rfl⟩ := ownsRow_shape hr1
      clear hr1 hB1
      gi_wp2
      refine ⟨by simp, .inl ⟨_, _, rfl, run_takeDeferred hK, ?_⟩⟩
      refine ⟨_, results_tmp rfl _ _ _, _, rfl, ?_, by rw [HI1.out]; exact hnl, HB1.out.trans (belowK_b (w := w) (Nat.le_refl _) W D _ _ (by omega) hK rfl rfl)⟩
      rw [HI1.out]
      exact ownsRow_putObj HR1.out _ hK rfl
    case stop =>
      rintro D c pre W hD hpre ⟨rfl, ⟨⟨v, bL1, hr1, hnl⟩, bM1⟩, hB1, hl1⟩ hK
      have cL := bL1.cell
      have HR1 := hid hr1
      have HB1 := hid hB1
      have HI1 : Hid (L.take most.toNat = pre) := hid (by
        have h := List.prefix_iff_eq_take.1 hpre
        rw [show most.toNat = pre.length by omega]; exact h.symm)
      obtain ⟨va, cap, rfl⟩ := ownsRow_shape hr1
      clear hr1 hB1 hpre
      gi_wp2
      refine ⟨by simp, .inl ⟨_, _, rfl, run_takeDeferred hK, ?_⟩⟩
      refine ⟨_, results_tmp rfl _ _ _, _, rfl, ?_, by rw [HI1.out]; exact hnl, HB1.out.trans (belowK_b (w := w) (Nat.le_refl _) W D _ _ (by omega) hK rfl rfl)⟩
      rw [HI1.out]
      exact ownsRow_putObj HR1.out _ hK rfl
end Go.Proofs.Ytaiepkombpjjgaa
