/- Riders: Take. -/
import Derived.Test.YtkaalppmheikgaaRdA
import Derived.Test.YtkaalppmheikgaaRdFt
import Derived.Test.YtkaalppmheikgaaHpDr
namespace Go.Proofs.Ytkaalppmheikgaa
open Go.RowKit

/-- What a call that takes in no block leaves. -/
def RdPostS (w w' : World) (p : Nat) (B : RB) (R2 : RS) : Prop := ∃ B' H' l' came', RdAt w' p B' R2 H' l' came' ∧ Kp (ROwn p B) w w' ∧ ∀ k, ROwn p B' k → ROwn p B k
theorem RdPostS.weak {w w' : World} {p : Nat} {B : RB} {R2 : RS} (h : RdPostS w w' p B R2) : RdPost w w' p B R2 := by
  obtain ⟨B', H', l', c', h1, h2, h3⟩ := h
  exact ⟨B', H', l', c', h1, h2, fun k hk => .inl (h3 k hk)⟩
/-- Three boxes: an id, one that waits, and another one. -/
structure TkS (w u : World) (p : Nat) (B0 B : RB) (R : RS) (H : List (Id8 × Int)) (l : List It) (came : Int) (x : Id8) (y : Wt) : Prop where
  rd : RdM u p B R H l came
  b1 : u.heap[w.heap.size]? = some (.cells (bys x.1) 31 (0, 0))
  b2 : u.heap[w.heap.size + 1]? = some (.cells (wtE wtZ) 48 (0, 0))
  b3 : u.heap[w.heap.size + 2]? = some (.cells (wtE y) 48 (0, 0))
  kp : Kp (ROwn p B0) w u
  lt : ∀ k, ROwn p B0 k → k < w.heap.size
section
variable {w u u' : World} {p : Nat} {B0 B B2 : RB} {R R2 : RS} {H H2 : List (Id8 × Int)} {l l2 : List It} {came came2 : Int} {x : Id8} {y : Wt}
theorem TkS.step (h : TkS w u p B0 B R H l came x y) (hr : RdM u' p B2 R2 H2 l2 came2) (hk : Kp (ROwn p B0) u u') : TkS w u'.drew p B0 B2 R2 H2 l2 came2 x y :=
  ⟨hr.kept (Below.refl _ _).drew, (hk.block _ (heap_lt h.b1) (fun q => by have := h.lt _ q; omega)).trans h.b1, (hk.block _ (heap_lt h.b2) (fun q => by have := h.lt _ q; omega)).trans h.b2, (hk.block _ (heap_lt h.b3) (fun q => by have := h.lt _ q; omega)).trans h.b3, (h.kp.trans hk (fun _ _ q => q)).drew, h.lt⟩
theorem TkS.drew (h : TkS w u p B0 B R H l came x y) : TkS w u.drew p B0 B R H l came x y := ⟨h.rd.kept (Below.refl _ _).drew, h.b1, h.b2, h.b3, h.kp.drew, h.lt⟩
end
section
variable {w : World} {p : Nat} {B : RB} {R : RS} {H : List (Id8 × Int)} {l : List It} {came : Int}
theorem lkp_keys {V : Type} {T : List (Id8 × V)} {x : Id8} {v : V} (h : lkp x T = some v) (hn : (Keys T).Nodup) : (x, v) ∈ T := (lkp_mem hn).1 h
set_option maxRecDepth 100000 in
set_option maxHeartbeats 8000000 in
theorem take_any (h : RdAt w p B R H l came) (hT : R.T.length ≤ 1048576) (x : Id8) : Calls Try.prog 21 #[.pointer (some ⟨p, 0, none⟩), .agg (bys x.1)] w fun e w' => e = .returned (.tuple #[.agg (wtE (wtOf R x)), .int .i64 (takE R x)]) ∧ RdPostS w w' p B (takR R x) := by
  have HKI := hid (idV_info x)
  have HR := hid h
  have HTH := hid (there_any (BxS.start h x).rd)
  have hll : l.length = R.T.length := h.rel.len
  clear h
  go_enter Try.func21, Try.ntmps21
  have hem := hid True.intro
  go_wp2_with (go_at_call 25; refine HTH.out.mono ?_; rintro e w2 ⟨rfl, rfl⟩)
  clear HTH
  obtain ⟨W0, hW0⟩ : ∃ W0, W0 = ((w.alloc (.cells (bys x.1) 31)).alloc (.cells (wtE wtZ) 48)) := ⟨_, rfl⟩
  have hsame : ((w.alloc (.cells (bys x.1) 31)).alloc (.cells #[.int .u8 0, .int .u8 0, .int .u8 0, .int .u8 0, .int .u8 0, .int .u8 0, .int .u8 0, .int .u8 0, .int .i16 0, .int .i16 0, .int .i16 0, .int .i16 0, .int .u8 0, .int .u8 0, .int .i64 0, .int .i64 0, .int .i64 0, .int .i64 0] 48)) = W0 := hW0.symm
  first | rw [hsame] | rw [← hW0]
  clear hsame
  have HS1 := hid (show BxS w W0.drew p B R H l came x wtZ by rw [hW0]; exact (BxS.start HR.out x).kept (Below.refl _ _).drew)
  have HSZ := hid (show W0.drew.heap.size = w.heap.size + 2 by rw [hW0]; exact (by simp))
  clear hW0 hem
  refine wp_region_held_drew (S := fun u => BxS w u p B R H l came x wtZ) (by kernel_rfl) HS1.out ?_
  intro hHeld
  refine wpAnyH_take (i := 0) (oi := _) (v := ?_) rfl (by kernel_rfl) (by kernel_rfl) (by kernel_rfl) (fun _ _ _ h => h) (Or.inl ⟨by rfl, ?_⟩) (by assumption) ?_
  rotate_left
  · intro w hSw
    try dsimp only at hSw
    first | (go_simp; done) | (go_simp; with_reducible rfl)
  (try simp only [Act.put, List.getElem_toArray, List.getElem_cons_zero]); (try simp only [List.setIfInBounds_toArray]); (try simp only [List.set_cons_succ]); (try simp only [List.set_cons_zero])
  refine wpAnyH_take (i := 1) (oi := _) (v := ?_) rfl (by kernel_rfl) (by kernel_rfl) (by kernel_rfl) (fun _ _ _ h => h) (Or.inl ⟨by rfl, ?_⟩) (by assumption) ?_
  rotate_left
  · intro w hSw
    try dsimp only at hSw
    first | (go_simp; done) | (go_simp; with_reducible rfl)
  (try simp only [Act.put, List.getElem_toArray, List.getElem_cons_succ, List.getElem_cons_zero]); (try simp only [List.setIfInBounds_toArray]); (try simp only [List.set_cons_succ]); (try simp only [List.set_cons_zero])
  refine wpAnyH_take (i := 2) (oi := _) (v := ?_) rfl (by kernel_rfl) (by kernel_rfl) (by kernel_rfl) (fun _ _ _ h => h) (Or.inl ⟨by rfl, ?_⟩) (by assumption) ?_
  rotate_left
  · intro w hSw
    try dsimp only at hSw
    first | (go_simp; done) | (go_simp; with_reducible rfl)
  (try simp only [Act.put, List.getElem_toArray, List.getElem_cons_succ, List.getElem_cons_zero]); (try simp only [List.setIfInBounds_toArray]); (try simp only [List.set_cons_succ]); (try simp only [List.set_cons_zero])
  refine wpAnyH_take (i := 3) (oi := _) (v := (.map (some B.b))) rfl (by kernel_rfl) (by kernel_rfl) (by kernel_rfl) (fun _ _ _ h => h) (Or.inl ⟨by rfl, ?_⟩) (by assumption) ?_
  · intro w hSw
    have hc := hSw.rd.c8; (go_simp; done)
  (try simp only [Act.put, List.getElem_toArray, List.getElem_cons_succ, List.getElem_cons_zero]); (try simp only [List.setIfInBounds_toArray]); (try simp only [List.set_cons_succ]); (try simp only [List.set_cons_zero])
  refine wpAnyH_take (i := 4) (oi := _) (v := (.agg (bys x.1))) rfl (by kernel_rfl) (by kernel_rfl) (by kernel_rfl) (fun _ _ _ h => h) (Or.inl ⟨by rfl, ?_⟩) (by assumption) ?_
  · intro w hSw
    exact exec_load 31 _ rfl _ rfl hSw.b1 Try.underlying31 rfl HKI.out
  (try simp only [Act.put, List.getElem_toArray, List.getElem_cons_succ, List.getElem_cons_zero]); (try simp only [List.setIfInBounds_toArray]); (try simp only [List.set_cons_succ]); (try simp only [List.set_cons_zero])
  refine wpAnyH_take (i := 5) (oi := _) (v := (.tuple #[(.agg (wtE (wtOf R x))), .bool (lkp x R.T).isSome])) rfl (by kernel_rfl) (by kernel_rfl) (by kernel_rfl) (fun _ _ _ h => h) (Or.inl ⟨by rfl, ?_⟩) (by assumption) ?_
  · intro w hSw
    exact exec_lookup _ _ _ _ rfl rfl rfl (hSw.rd.look x)
  (try simp only [Act.put, List.getElem_toArray, List.getElem_cons_succ, List.getElem_cons_zero]); (try simp only [List.setIfInBounds_toArray]); (try simp only [List.set_cons_succ]); (try simp only [List.set_cons_zero])
  refine wpAnyH_take (i := 6) (oi := _) (v := ?_) rfl (by kernel_rfl) (by kernel_rfl) (by kernel_rfl) (fun _ _ _ h => h) (Or.inl ⟨by rfl, ?_⟩) (by assumption) ?_
  rotate_left
  · intro w hSw
    try dsimp only at hSw
    first | (go_simp; done) | (go_simp; with_reducible rfl)
  (try simp only [Act.put, List.getElem_toArray, List.getElem_cons_succ, List.getElem_cons_zero]); (try simp only [List.setIfInBounds_toArray]); (try simp only [List.set_cons_succ]); (try simp only [List.set_cons_zero])
  refine wpAnyH_take (i := 7) (oi := _) (v := ?_) rfl (by kernel_rfl) (by kernel_rfl) (by kernel_rfl) (fun _ _ _ h => h) (Or.inl ⟨by rfl, ?_⟩) (by assumption) ?_
  rotate_left
  · intro w hSw
    try dsimp only at hSw
    first | (go_simp; done) | (go_simp; with_reducible rfl)
  (try simp only [Act.put, List.getElem_toArray, List.getElem_cons_succ, List.getElem_cons_zero]); (try simp only [List.setIfInBounds_toArray]); (try simp only [List.set_cons_succ]); (try simp only [List.set_cons_zero])
  refine wpAnyH_take (i := 8) (oi := _) (v := ?_) rfl (by kernel_rfl) (by kernel_rfl) (by kernel_rfl) (fun _ _ _ h => h) (Or.inl ⟨by rfl, ?_⟩) (by assumption) ?_
  rotate_left
  · intro w hSw
    try dsimp only at hSw
    first | (go_simp; done) | (go_simp; with_reducible rfl)
  (try simp only [Act.put, List.getElem_toArray, List.getElem_cons_succ, List.getElem_cons_zero]); (try simp only [List.setIfInBounds_toArray]); (try simp only [List.set_cons_succ]); (try simp only [List.set_cons_zero])
  clear hHeld
  have hzz := zero_wt
  refine wpAnyH_ready (rs := [9]) (by kernel_rfl) (by simp) ?_
  refine AllReadyH.cons rfl (fun K hK => ?_) AllReadyH.nil
  go_simp
  refine hK.out _ _ ?_ (fun hHeld => ?_)
  · exact HS1.out.kept ((Below.refl _ _).alloc (by rw [HSZ.out]; omega) _)
  clear hK K
  (try simp only [Act.put, List.getElem_toArray, List.getElem_cons_succ, List.getElem_cons_zero]); (try simp only [List.setIfInBounds_toArray]); (try simp only [List.set_cons_succ]); (try simp only [List.set_cons_zero])
  clear hHeld
  refine wpAnyH_ready (rs := [10]) (by kernel_rfl) (by simp) ?_
  refine AllReadyH.cons rfl (fun K hK => ?_) AllReadyH.nil
  refine step_store_row rfl 48 _ _ rfl W0.drew.heap.size (wtE (wtOf R x)) rfl rfl 48 (wtE wtZ) (heap_alloc_new _ _) (wtE_info _) (by rw [wtE_size, wtE_size]) (wtE_ones _) ?_; rw [show (W0.alloc (.cells (wtE wtZ) 48)).drew.setRow W0.drew.heap.size (wtE (wtOf R x)) = W0.drew.alloc (.cells (wtE (wtOf R x)) 48) from (show (W0.drew.alloc (.cells (wtE wtZ) 48)).setRow W0.drew.heap.size (wtE (wtOf R x)) = W0.drew.alloc (.cells (wtE (wtOf R x)) 48) from setRow_alloc _ _ _ _)]
  refine hK.out _ _ ?_ (fun hHeld => ?_)
  · exact HS1.out.kept ((Below.refl _ _).alloc (by rw [HSZ.out]; omega) _)
  clear hK K
  (try simp only [Act.put, List.getElem_toArray, List.getElem_cons_succ, List.getElem_cons_zero]); (try simp only [List.setIfInBounds_toArray]); (try simp only [List.set_cons_succ]); (try simp only [List.set_cons_zero])
  refine wpAnyH_take (i := 11) (oi := _) (v := ?_) rfl (by kernel_rfl) (by kernel_rfl) (by kernel_rfl) (fun _ _ _ h => h) (Or.inl ⟨by rfl, ?_⟩) (by assumption) ?_
  rotate_left
  · intro w hSw
    try dsimp only at hSw
    first | (go_simp; done) | (go_simp; with_reducible rfl)
  (try simp only [Act.put, List.getElem_toArray, List.getElem_cons_succ, List.getElem_cons_zero]); (try simp only [List.setIfInBounds_toArray]); (try simp only [List.set_cons_succ]); (try simp only [List.set_cons_zero])
  clear hHeld hzz
  refine wpAnyH_done (by kernel_rfl) ?_ _
  obtain ⟨W2, hW2⟩ : ∃ W2, W2 = W0.drew.alloc (.cells (wtE (wtOf R x)) 48) := ⟨_, rfl⟩
  rw [← hW2, show W0.heap.size = w.heap.size + 2 from HSZ.out]
  have HS2 := hid (show BxS w W2 p B R H l came x wtZ by rw [hW2]; exact HS1.out.kept ((Below.refl _ _).alloc (by rw [HSZ.out]; omega) _))
  have HK3 := hid (show W2.heap[w.heap.size + 2]? = some (.cells (wtE (wtOf R x)) 48 (0, 0)) by rw [hW2, ← HSZ.out]; exact heap_alloc_new _ _)
  clear hW2 HS1 HSZ
  rcases hl : lkp x R.T with _ | y
  · have HY : Hid (wtOf R x = wtZ) := hid (by unfold wtOf; rw [hl]; rfl)
    have HE : Hid (takE R x = 131) := hid (by unfold takE; rw [hl]; rfl)
    have HD : Hid (takR R x = R) := hid (by unfold takR; rw [delM_none (lkp_none.1 hl)])
    clear hl
    go_wp2_with (first | (refine wpList_load_w rfl 48 _ rfl _ rfl _ _ _ _ HK3.out Try.underlying48 rfl (wtE_info _) ?_) | (refine wpList_store_row rfl 48 _ _ rfl _ rfl _ rfl _ _ HS2.out.b2 (by rw [wtE_size, wtE_size]) (wtE_ones _) (wtE_info _) _ rfl ?_))
    refine bodyPost_ret (results_row_tmp rfl _ _ _ _ _ _ _ rfl (setRow_at HS2.out.b2 _) Try.underlying48 rfl (wtE_info _)) rfl ?_
    exact ⟨by rw [HE.out, HY.out]; rfl, by rw [HD.out]; exact ⟨B, H, l, came, HR.out.kept (below_setRow' HS2.out.below (by omega) _), (Kp.refl _ _).below (below_setRow' HS2.out.below (by omega) _), fun _ q => q⟩⟩
  · have HY : Hid (wtOf R x = y) := hid (by unfold wtOf; rw [hl]; rfl)
    have HE : Hid (takE R x = 0) := hid (by unfold takE; rw [hl]; rfl)
    obtain ⟨a, ham, hak, _, _⟩ := HR.out.rel.mem' (lkp_keys hl HR.out.wm.nodup)
    obtain ⟨i, hi⟩ := List.getElem?_of_mem ham
    dsimp only at hak
    subst hak
    have HI := hid hi
    have HND := hid HR.out.wm.nodup
    rw [HY.out] at HK3
    obtain ⟨W3, hW3⟩ : ∃ W3, W3 = W2.drew := ⟨_, rfl⟩
    have HS3 := hid (show TkS w W3 p B B R H l came a.key y by rw [hW3]; exact TkS.drew ⟨HS2.out.rd.toRdM, HS2.out.b1, HS2.out.b2, HK3.out, (Kp.refl _ w).below HS2.out.below, HS2.out.lt⟩)
    have HW3 := hid hW3
    clear hl ham hi hW3 HS2 HK3
    have hc8 := HS3.out.rd.c8
    obtain ⟨w4, hrun, hm4, hg4⟩ := MapIs.dele keyId Try.underlying66 HS3.out.rd.wm a.key 0 31
    obtain ⟨q1, q2⟩ := HS3.out.rd.turnW hm4 hg4
    have HS4 := hid (HS3.out.step q1 q2)
    clear hm4 hg4 q1 q2
    go_wp2_with fail
    refine wp_region_tail 5 (by kernel_rfl) (by kernel_rfl) W3 HW3.out ?_
    simp only [List.take_succ_cons, List.take_zero, List.drop_succ_cons, List.drop_zero]
    iterate 4 still_step
    refine still_exec rfl (exec_load 31 _ rfl _ rfl HS3.out.b1 Try.underlying31 rfl HKI.out) ?_
    simp only [Act.put, List.setIfInBounds_toArray, List.set_cons_zero, List.set_cons_succ]
    refine wpStill_nil ?_
    go_wp2_with fail
    obtain ⟨W5, hW5⟩ : ∃ W5, W5 = w4.drew := ⟨_, rfl⟩
    rw [← hW5] at HS4
    have HW5 := hid hW5
    clear hW5 hrun hc8 HS3 HW3
    have hc9 := HS4.out.rd.c9
    refine wp_region_tail 5 (by kernel_rfl) (by kernel_rfl) W5 HW5.out ?_
    simp only [List.take_succ_cons, List.take_zero, List.drop_succ_cons, List.drop_zero]
    iterate 4 still_step
    refine still_exec rfl (exec_load 31 _ rfl _ rfl HS4.out.b1 Try.underlying31 rfl HKI.out) ?_
    simp only [Act.put, List.setIfInBounds_toArray, List.set_cons_zero, List.set_cons_succ]
    refine wpStill_nil ?_
    have HDR := hid (drop_any HS4.out.rd.hp HR.out.hok HI.out (by omega))
    clear hc9
    go_wp2_with (go_at_call 40; (with_reducible refine HDR.out.mono ?_); rintro e w6 ⟨rfl, h6⟩; have H6 := hid h6; clear h6; refine stopper ?_)
    refine hid ?_
    obtain ⟨T', v', l', q1, q2, q3, q4, q5⟩ := H6.out
    obtain ⟨r1, r2⟩ := HS4.out.rd.turnH q1 q4
    have HB3 := hid ((r2.block _ (heap_lt HS4.out.b3) (fun q => by have := HS4.out.lt _ q; omega)).trans HS4.out.b3)
    have HB2 := hid ((r2.block _ (heap_lt HS4.out.b2) (fun q => by have := HS4.out.lt _ q; omega)).trans HS4.out.b2)
    have HRD := hid r1
    have HKP := hid (HS4.out.kp.trans r2 (fun _ _ q => q))
    have HREL : Hid (HRel (delM R.T a.key) l') := hid (HR.out.rel.drop HND.out q2)
    have HHO := hid q3
    have HVO := hid q5
    clear q1 q2 q3 q4 q5 r1 r2
    go_wp2_with (first | (refine wpList_load_w rfl 48 _ rfl _ rfl _ _ _ _ HB3.out Try.underlying48 rfl (wtE_info _) ?_) | (refine wpList_store_row rfl 48 _ _ rfl _ rfl _ rfl _ _ HB2.out (by rw [wtE_size, wtE_size]) (wtE_ones _) (wtE_info _) _ rfl ?_))
    refine bodyPost_ret (results_row_tmp rfl _ _ _ _ _ _ _ rfl (setRow_at HB2.out _) Try.underlying48 rfl (wtE_info _)) rfl ?_
    have hB := fun cs => below_setRow' (Below.refl w.heap.size w6) (show w.heap.size ≤ w.heap.size + 1 by omega) cs
    refine ⟨by rw [HE.out, HY.out]; rfl, _, T', l', came, ⟨HRD.out.same fun k hk => ?_, HHO.out, HREL.out, HR.out.cnt⟩, ?_, fun k hk => ?_⟩
    · have hlt : k < w.heap.size := HS4.out.lt k (by unfold ROwn HOwn at hk ⊢; rw [← HVO.out]; exact hk)
      exact (hB _).block k hlt
    · exact HKP.out.step rfl rfl rfl (hB _).size fun k hk _ => (hB _).block k hk
    · unfold ROwn HOwn at hk ⊢; rw [← HVO.out]; exact hk
end
end Go.Proofs.Ytkaalppmheikgaa
