/- Riders: there, Known, Find. -/
import Derived.Test.YtkaalppmheikgaaFitK
namespace Go.Proofs.Ytkaalppmheikgaa
open Go.RowKit

theorem neq_mapW (a : Option Nat) (w : World) : (binOp .neq 66 (.map a) (.map none)).run Try.prog w = .ok (.bool a.isSome) w := by
  have hu := Try.underlying66
  have h0 : ∀ d, (Op.equalIn (d + 1) 66 (.map a) (.map none)).run Try.prog w = .ok a.isNone w := fun d => by
    unfold Op.equalIn
    rw [Sem.run_bind, run_underlying hu]
    cases a <;> rfl
  have h : (Op.equalIn Op.maxDepth 66 (.map a) (.map none)).run Try.prog w = .ok a.isNone w := h0 9999
  simp [binOp, Op.equal, h]
section
variable {w w' : World} {p : Nat} {B : RB} {R : RS} {H : List (Id8 × Int)} {l : List It} {came : Int}
set_option maxRecDepth 100000 in
theorem there_any (h : RdAt w p B R H l came) : Calls Try.prog 25 #[.pointer (some ⟨p, 0, none⟩)] w fun e w' => e = .returned (.bool true) ∧ w' = w := by
  have hc := h.c8
  have hem := fun w => neq_mapW (some B.b) w
  clear h
  go_enter Try.func25, Try.ntmps25
  go_wp2
  go_ret
  exact ⟨rfl, rfl⟩
theorem mem_vals {S : List Id8} {x : Id8} : x.1 ∈ vals8 S ↔ x ∈ S := by
  unfold vals8
  rw [List.mem_map]
  exact ⟨fun ⟨y, h1, h2⟩ => by rw [← Subtype.ext h2]; exact h1, fun h => ⟨x, h, rfl⟩⟩
theorem RdAt.has (h : RdAt w p B R H l came) (x : Id8) : Calls Try.prog 29 #[.pointer (some ⟨B.s, 0, none⟩), .agg (bys x.1)] w fun e w' => e = .returned (.bool (decide (x ∈ R.S))) ∧ Below w.heap.size w w' :=
  (has_any x.1 x.2 h.set.at).mono fun e w' ⟨h1, h2⟩ => ⟨by rw [h1]; congr 2; rw [decide_eq_decide]; exact mem_vals, h2⟩
theorem zero_wt (w : World) : (zeroValue 48).run Try.prog w = .ok (.agg (wtE wtZ)) w := by kernel_rfl
theorem RdAt.look (h : RdAt w p B R H l came) (x : Id8) : (Instr.lookup 66 (.map (some B.b)) (.agg (bys x.1)) true).run Try.prog w = .ok (.tuple #[.agg (wtE (wtOf R x)), .bool (lkp x R.T).isSome]) w := by
  have h1 := MapIs.ok keyId Try.underlying66 h.wm x (zero_wt w)
  have h2 : ((lkp x R.T).map wtV).getD (.agg (wtE wtZ)) = .agg (wtE (wtOf R x)) := by
    unfold wtOf; cases lkp x R.T <;> rfl
  rw [h2] at h1; exact h1
set_option maxRecDepth 100000 in
set_option maxHeartbeats 2000000 in
theorem known_any (h : RdAt w p B R H l came) (x : Id8) : Calls Try.prog 13 #[.pointer (some ⟨p, 0, none⟩), .agg (bys x.1)] w fun e w' => e = .returned (.bool (decide (x ∈ R.S))) ∧ Below w.heap.size w w' := by
  have HKI := hid (idV_info x)
  have HR := hid h
  have HB0 := hid ((Below.refl w.heap.size w).alloc (Nat.le_refl _) (.cells (bys x.1) 31))
  have HK0 := hid (heap_alloc_new w (.cells (bys x.1) 31))
  clear h
  go_enter Try.func13, Try.ntmps13
  go_wp2_with fail
  obtain ⟨W1, hW1⟩ : ∃ W1, W1 = (w.alloc (.cells (bys x.1) 31)).drew := ⟨_, rfl⟩
  have HB1 := hid (show Below w.heap.size w W1 by rw [hW1]; exact HB0.out.drew)
  have HK1 := hid (show W1.heap[w.heap.size]? = some (.cells (bys x.1) 31 (0, 0)) by rw [hW1]; exact HK0.out)
  have HR1 := hid (HR.out.kept HB1.out)
  have hc7 := HR1.out.c7
  have HTH := hid (there_any HR1.out)
  have HW1 := hid hW1
  clear hW1 HB0 HK0
  refine wp_region_tail 8 (by kernel_rfl) (by kernel_rfl) W1 HW1.out ?_
  simp only [List.take_succ_cons, List.take_zero, List.drop_succ_cons, List.drop_zero]
  still_step
  still_call (by go_at_call 25; exact HTH.out)
  iterate 5 still_step
  refine still_execg (by go_simp) (exec_load 31 _ rfl _ rfl HK1.out Try.underlying31 rfl HKI.out) ?_
  simp only [Act.put, List.setIfInBounds_toArray, List.set_cons_zero, List.set_cons_succ]
  refine wpStill_nil ?_
  have HHA := hid (HR1.out.has x)
  clear hc7
  go_wp2_with (go_at_call 29; (with_reducible refine HHA.out.mono ?_); rintro e w2 ⟨rfl, hb2⟩; have HB2 := hid (HB1.out.trans (hb2.mono HB1.out.size)); clear hb2)
  go_ret
  exact ⟨rfl, HB2.out⟩
end
/-- Two boxes: an id, one that waits. -/
structure BxS (w u : World) (p : Nat) (B : RB) (R : RS) (H : List (Id8 × Int)) (l : List It) (came : Int) (x : Id8) (y : Wt) : Prop where
  rd : RdAt u p B R H l came
  b1 : u.heap[w.heap.size]? = some (.cells (bys x.1) 31 (0, 0))
  b2 : u.heap[w.heap.size + 1]? = some (.cells (wtE y) 48 (0, 0))
  below : Below w.heap.size w u
  lt : ∀ k, ROwn p B k → k < w.heap.size
section
variable {w u u' : World} {p : Nat} {B : RB} {R : RS} {H : List (Id8 × Int)} {l : List It} {came : Int} {x : Id8} {y : Wt}
theorem BxS.start (h : RdAt w p B R H l came) (x : Id8) : BxS w ((w.alloc (.cells (bys x.1) 31)).alloc (.cells (wtE wtZ) 48)) p B R H l came x wtZ :=
  ⟨h.kept (((Below.refl _ w).alloc (Nat.le_refl _) _).alloc (by simp) _), heap2_old _ _ _ _, heap2_new _ _ _ _, ((Below.refl _ w).alloc (Nat.le_refl _) _).alloc (by simp) _, fun k hk => h.lt hk⟩
theorem BxS.kept (h : BxS w u p B R H l came x y) (hb : Below (w.heap.size + 2) u u') : BxS w u' p B R H l came x y := by
  exact ⟨h.rd.same fun k hk => hb.block k (by have := h.lt k hk; omega), (hb.block _ (by omega)).trans h.b1, (hb.block _ (by omega)).trans h.b2, h.below.trans (hb.mono (by omega)), h.lt⟩
end
section
variable {w : World} {p : Nat} {B : RB} {R : RS} {H : List (Id8 × Int)} {l : List It} {came : Int}
set_option maxRecDepth 100000 in
set_option maxHeartbeats 4000000 in
theorem find_any (h : RdAt w p B R H l came) (x : Id8) : Calls Try.prog 41 #[.pointer (some ⟨p, 0, none⟩), .agg (bys x.1)] w fun e w' => e = .returned (.tuple #[.agg (wtE (wtOf R x)), .bool (lkp x R.T).isSome]) ∧ Below w.heap.size w w' := by
  have HKI := hid (idV_info x)
  have HR := hid h
  have HTH := hid (there_any (BxS.start h x).rd)
  clear h
  go_enter Try.func41, Try.ntmps41
  have hem := hid True.intro
  go_wp2_with (go_at_call 25; refine HTH.out.mono ?_; rintro e w2 ⟨rfl, rfl⟩)
  clear HTH
  obtain ⟨W0, hW0⟩ : ∃ W0, W0 = ((w.alloc (.cells (bys x.1) 31)).alloc (.cells (wtE wtZ) 48)) := ⟨_, rfl⟩
  have hsame : ((w.alloc (.cells (bys x.1) 31)).alloc (.cells #[.int .u8 0, .int .u8 0, .int .u8 0, .int .u8 0, .int .u8 0, .int .u8 0, .int .u8 0, .int .u8 0, .int .i16 0, .int .i16 0, .int .i16 0, .int .i16 0, .int .u8 0, .int .u8 0, .int .i64 0, .int .i64 0, .int .i64 0, .int .i64 0] 48)) = W0 := hW0.symm
  first | rw [hsame] | rw [← hW0]
  clear hsame
  have HS1 := hid (show BxS w W0.drew p B R H l came x wtZ by rw [hW0]; exact (BxS.start HR.out x).kept (Below.refl _ _).drew)
  have HSZ := hid (show W0.drew.heap.size = w.heap.size + 2 by rw [hW0]; exact (by simp))
  clear hW0 hem
  refine wp_region_held_drew (S := fun u => BxS w u p B R H l came x wtZ) (by kernel_rfl) HS1.out ?_
  intro hHeld
  refine wpAnyH_take (i := 0) (oi := _) (v := ?_) rfl (by kernel_rfl) (by kernel_rfl) (by kernel_rfl) (fun _ _ _ h => h) (Or.inl ⟨by rfl, ?_⟩) (by assumption) ?_
  rotate_left
  · intro w hSw
    try dsimp only at hSw
    first | (go_simp; done) | (go_simp; with_reducible rfl)
  (try simp only [Act.put, List.getElem_toArray, List.getElem_cons_zero]); (try simp only [List.setIfInBounds_toArray]); (try simp only [List.set_cons_succ]); (try simp only [List.set_cons_zero])
  refine wpAnyH_take (i := 1) (oi := _) (v := ?_) rfl (by kernel_rfl) (by kernel_rfl) (by kernel_rfl) (fun _ _ _ h => h) (Or.inl ⟨by rfl, ?_⟩) (by assumption) ?_
  rotate_left
  · intro w hSw
    try dsimp only at hSw
    first | (go_simp; done) | (go_simp; with_reducible rfl)
  (try simp only [Act.put, List.getElem_toArray, List.getElem_cons_succ, List.getElem_cons_zero]); (try simp only [List.setIfInBounds_toArray]); (try simp only [List.set_cons_succ]); (try simp only [List.set_cons_zero])
  refine wpAnyH_take (i := 2) (oi := _) (v := ?_) rfl (by kernel_rfl) (by kernel_rfl) (by kernel_rfl) (fun _ _ _ h => h) (Or.inl ⟨by rfl, ?_⟩) (by assumption) ?_
  rotate_left
  · intro w hSw
    try dsimp only at hSw
    first | (go_simp; done) | (go_simp; with_reducible rfl)
  (try simp only [Act.put, List.getElem_toArray, List.getElem_cons_succ, List.getElem_cons_zero]); (try simp only [List.setIfInBounds_toArray]); (try simp only [List.set_cons_succ]); (try simp only [List.set_cons_zero])
  refine wpAnyH_take (i := 3) (oi := _) (v := (.map (some B.b))) rfl (by kernel_rfl) (by kernel_rfl) (by kernel_rfl) (fun _ _ _ h => h) (Or.inl ⟨by rfl, ?_⟩) (by assumption) ?_
  · intro w hSw
    have hc := hSw.rd.c8; (go_simp; done)
  (try simp only [Act.put, List.getElem_toArray, List.getElem_cons_succ, List.getElem_cons_zero]); (try simp only [List.setIfInBounds_toArray]); (try simp only [List.set_cons_succ]); (try simp only [List.set_cons_zero])
  refine wpAnyH_take (i := 4) (oi := _) (v := (.agg (bys x.1))) rfl (by kernel_rfl) (by kernel_rfl) (by kernel_rfl) (fun _ _ _ h => h) (Or.inl ⟨by rfl, ?_⟩) (by assumption) ?_
  · intro w hSw
    exact exec_load 31 _ rfl _ rfl hSw.b1 Try.underlying31 rfl HKI.out
  (try simp only [Act.put, List.getElem_toArray, List.getElem_cons_succ, List.getElem_cons_zero]); (try simp only [List.setIfInBounds_toArray]); (try simp only [List.set_cons_succ]); (try simp only [List.set_cons_zero])
  refine wpAnyH_take (i := 5) (oi := _) (v := (.tuple #[(.agg (wtE (wtOf R x))), .bool (lkp x R.T).isSome])) rfl (by kernel_rfl) (by kernel_rfl) (by kernel_rfl) (fun _ _ _ h => h) (Or.inl ⟨by rfl, ?_⟩) (by assumption) ?_
  · intro w hSw
    exact exec_lookup _ _ _ _ rfl rfl rfl (hSw.rd.look x)
  (try simp only [Act.put, List.getElem_toArray, List.getElem_cons_succ, List.getElem_cons_zero]); (try simp only [List.setIfInBounds_toArray]); (try simp only [List.set_cons_succ]); (try simp only [List.set_cons_zero])
  refine wpAnyH_take (i := 6) (oi := _) (v := ?_) rfl (by kernel_rfl) (by kernel_rfl) (by kernel_rfl) (fun _ _ _ h => h) (Or.inl ⟨by rfl, ?_⟩) (by assumption) ?_
  rotate_left
  · intro w hSw
    try dsimp only at hSw
    first | (go_simp; done) | (go_simp; with_reducible rfl)
  (try simp only [Act.put, List.getElem_toArray, List.getElem_cons_succ, List.getElem_cons_zero]); (try simp only [List.setIfInBounds_toArray]); (try simp only [List.set_cons_succ]); (try simp only [List.set_cons_zero])
  refine wpAnyH_take (i := 7) (oi := _) (v := ?_) rfl (by kernel_rfl) (by kernel_rfl) (by kernel_rfl) (fun _ _ _ h => h) (Or.inl ⟨by rfl, ?_⟩) (by assumption) ?_
  rotate_left
  · intro w hSw
    try dsimp only at hSw
    first | (go_simp; done) | (go_simp; with_reducible rfl)
  (try simp only [Act.put, List.getElem_toArray, List.getElem_cons_succ, List.getElem_cons_zero]); (try simp only [List.setIfInBounds_toArray]); (try simp only [List.set_cons_succ]); (try simp only [List.set_cons_zero])
  refine wpAnyH_take (i := 8) (oi := _) (v := ?_) rfl (by kernel_rfl) (by kernel_rfl) (by kernel_rfl) (fun _ _ _ h => h) (Or.inl ⟨by rfl, ?_⟩) (by assumption) ?_
  rotate_left
  · intro w hSw
    try dsimp only at hSw
    first | (go_simp; done) | (go_simp; with_reducible rfl)
  (try simp only [Act.put, List.getElem_toArray, List.getElem_cons_succ, List.getElem_cons_zero]); (try simp only [List.setIfInBounds_toArray]); (try simp only [List.set_cons_succ]); (try simp only [List.set_cons_zero])
  clear hHeld
  have hzz := zero_wt
  refine wpAnyH_ready (rs := [9]) (by kernel_rfl) (by simp) ?_
  refine AllReadyH.cons rfl (fun K hK => ?_) AllReadyH.nil
  go_simp
  refine hK.out _ _ ?_ (fun hHeld => ?_)
  · exact HS1.out.kept ((Below.refl _ _).alloc (by rw [HSZ.out]; omega) _)
  clear hK K
  (try simp only [Act.put, List.getElem_toArray, List.getElem_cons_succ, List.getElem_cons_zero]); (try simp only [List.setIfInBounds_toArray]); (try simp only [List.set_cons_succ]); (try simp only [List.set_cons_zero])
  clear hHeld
  refine wpAnyH_ready (rs := [10]) (by kernel_rfl) (by simp) ?_
  refine AllReadyH.cons rfl (fun K hK => ?_) AllReadyH.nil
  refine step_store_row rfl 48 _ _ rfl W0.drew.heap.size (wtE (wtOf R x)) rfl rfl 48 (wtE wtZ) (heap_alloc_new _ _) (wtE_info _) (by rw [wtE_size, wtE_size]) (wtE_ones _) ?_; rw [show (W0.alloc (.cells (wtE wtZ) 48)).drew.setRow W0.drew.heap.size (wtE (wtOf R x)) = W0.drew.alloc (.cells (wtE (wtOf R x)) 48) from (show (W0.drew.alloc (.cells (wtE wtZ) 48)).setRow W0.drew.heap.size (wtE (wtOf R x)) = W0.drew.alloc (.cells (wtE (wtOf R x)) 48) from setRow_alloc _ _ _ _)]
  refine hK.out _ _ ?_ (fun hHeld => ?_)
  · exact HS1.out.kept ((Below.refl _ _).alloc (by rw [HSZ.out]; omega) _)
  clear hK K
  (try simp only [Act.put, List.getElem_toArray, List.getElem_cons_succ, List.getElem_cons_zero]); (try simp only [List.setIfInBounds_toArray]); (try simp only [List.set_cons_succ]); (try simp only [List.set_cons_zero])
  refine wpAnyH_take (i := 11) (oi := _) (v := ?_) rfl (by kernel_rfl) (by kernel_rfl) (by kernel_rfl) (fun _ _ _ h => h) (Or.inl ⟨by rfl, ?_⟩) (by assumption) ?_
  rotate_left
  · intro w hSw
    try dsimp only at hSw
    first | (go_simp; done) | (go_simp; with_reducible rfl)
  (try simp only [Act.put, List.getElem_toArray, List.getElem_cons_succ, List.getElem_cons_zero]); (try simp only [List.setIfInBounds_toArray]); (try simp only [List.set_cons_succ]); (try simp only [List.set_cons_zero])
  clear hHeld hzz
  refine wpAnyH_done (by kernel_rfl) ?_ _
  obtain ⟨W2, hW2⟩ : ∃ W2, W2 = W0.drew.alloc (.cells (wtE (wtOf R x)) 48) := ⟨_, rfl⟩
  rw [← hW2, show W0.heap.size = w.heap.size + 2 from HSZ.out]
  have HS2 := hid (show BxS w W2 p B R H l came x wtZ by rw [hW2]; exact HS1.out.kept ((Below.refl _ _).alloc (by rw [HSZ.out]; omega) _))
  have HK3 := hid (show W2.heap[w.heap.size + 2]? = some (.cells (wtE (wtOf R x)) 48 (0, 0)) by rw [hW2, ← HSZ.out]; exact heap_alloc_new _ _)
  clear hW2 HS1 HSZ
  have hb3 := HS2.out.below.size
  go_wp2_with (first | (refine wpList_load_w rfl 48 _ rfl _ rfl _ _ _ _ HK3.out Try.underlying48 rfl (wtE_info _) ?_) | (refine wpList_store_row rfl 48 _ _ rfl _ rfl _ rfl _ _ HS2.out.b2 (by rw [wtE_size, wtE_size]) (wtE_ones _) (wtE_info _) _ rfl ?_))
  refine bodyPost_ret (results_row_tmp rfl _ _ _ _ _ _ _ rfl (setRow_at HS2.out.b2 _) Try.underlying48 rfl (wtE_info _)) rfl ?_
  exact ⟨rfl, below_setRow' HS2.out.below (by omega) _⟩
end
end Go.Proofs.Ytkaalppmheikgaa
