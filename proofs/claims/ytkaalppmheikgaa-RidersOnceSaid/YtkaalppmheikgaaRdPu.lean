/- Riders: put. -/
import Derived.Test.YtkaalppmheikgaaRdA
import Derived.Test.YtkaalppmheikgaaStm
namespace Go.Proofs.Ytkaalppmheikgaa
open Go.RowKit

theorem rel_none {T : List (Id8 × Wt)} {l : List It} {H : List (Id8 × Int)} (h : HRel T l) (ha : AtOk H l) {k : Id8} (hk : k ∉ Keys T) : lkp k H = none := by
  cases e : lkp k H with
  | none => rfl
  | some i =>
    obtain ⟨j, a, _, h1, h2⟩ := (ha k i).1 e
    obtain ⟨q, hq, h3, _⟩ := h.mem (List.mem_of_getElem? h1)
    exact absurd (List.mem_map.2 ⟨q, hq, h3.trans h2⟩) hk
/-- What put leaves. -/
def PutR (w w' : World) (p : Nat) (B : RB) (R : RS) (x : Wt) (came : Int) : Prop :=
  ∃ B' H' l', RdAt w' p B' { R with T := (x.rq.id, x) :: R.T } H' l' (came + 1) ∧ Kp (ROwn p B) w w' ∧ ∀ k, ROwn p B' k → ROwn p B k ∨ w.heap.size ≤ k
/-- Two boxes: one that waits, its id. -/
structure PxS (w u : World) (p : Nat) (B : RB) (R : RS) (H : List (Id8 × Int)) (l : List It) (came : Int) (x : Wt) : Prop where
  rd : RdM u p B R H l came
  b1 : u.heap[w.heap.size]? = some (.cells (wtE x) 48 (0, 0))
  b2 : u.heap[w.heap.size + 1]? = some (.cells (bys x.rq.id.1) 31 (0, 0))
  kp : Kp (ROwn p B) w u
  lt : ∀ k, ROwn p B k → k < w.heap.size
section
variable {w u u' : World} {p : Nat} {B : RB} {R : RS} {H : List (Id8 × Int)} {l : List It} {came : Int} {x : Wt}
theorem PxS.start (h : RdM w p B R H l came) (x : Wt) : PxS w ((w.alloc (.cells (wtE x) 48)).alloc (.cells (bys x.rq.id.1) 31)).drew p B R H l came x :=
  have hb : Below w.heap.size w ((w.alloc (.cells (wtE x) 48)).alloc (.cells (bys x.rq.id.1) 31)).drew := (((Below.refl _ w).alloc (Nat.le_refl _) _).alloc (by simp) _).drew
  ⟨h.kept hb, heap2_old _ _ _ _, heap2_new _ _ _ _, (Kp.refl _ _).below hb, fun k hk => h.lt hk⟩
theorem PxS.turn (h : PxS w u p B R H l came x) {T2 : List (Id8 × Wt)} (hm : MapIs wtV u' B.b T2) (hg : u.grownBy u' (some B.b)) : PxS w u'.drew p B { R with T := T2 } H l came x := by
  obtain ⟨h1, h2⟩ := h.rd.turnW hm hg
  have hB : B.b < w.heap.size := h.lt _ (.inr (.inl rfl))
  refine ⟨h1.kept (Below.refl _ _).drew, ?_, ?_, (h.kp.trans h2 (fun _ _ q => q)).drew, h.lt⟩
  · show u'.heap[w.heap.size]? = _
    rw [hg.block _ (heap_lt h.b1) (fun e => by injection e with e; omega)]; exact h.b1
  · show u'.heap[w.heap.size + 1]? = _
    rw [hg.block _ (heap_lt h.b2) (fun e => by injection e with e; omega)]; exact h.b2
theorem PxS.cells (h : PxS w u p B R H l came x) : u.cell? ⟨w.heap.size, 16, none⟩ = some (.int .i64 x.since) ∧ u.cell? ⟨w.heap.size, 15, none⟩ = some (.int .i64 x.rq.ttl) ∧ u.cell? ⟨w.heap.size, 17, none⟩ = some (.int .i64 x.num) :=
  ⟨row_cell h.b1 16 _ (wtE_get x).2.1, row_cell h.b1 15 _ ((wtE_get x).1 15 _ (rqE_get x.rq).2.2.2.2), row_cell h.b1 17 _ (wtE_get x).2.2⟩
set_option maxRecDepth 100000 in
set_option maxHeartbeats 4000000 in
theorem rput_any (h : RdAt w p B R H l came) (x : Wt) (hk : x.rq.id ∉ Keys R.T) (he : 0 ≤ x.since ∧ x.since ≤ 1099511627776 ∧ 0 ≤ x.rq.ttl ∧ x.rq.ttl ≤ 1048576) (hc : came + 1 ≤ R.S.length) (hS : R.S.length ≤ 4611686018427387904) (hT : R.T.length ≤ 1048576) :
    Calls Try.prog 33 #[.pointer (some ⟨p, 0, none⟩), .agg (wtE x)] w fun e w' => e = .returned (.tuple #[]) ∧ PutR w w' p B R x came := by
  have HKI := hid (idV_info x.rq.id)
  have HX8 : Hid ((bys x.rq.id.1).size = 8) := hid (by rw [bys_size, x.rq.id.2.1])
  have HR := hid h
  have HC0 : Hid (CellsAt (w.alloc (.cells (wtE x) 48)) w.heap.size 0 (bys x.rq.id.1)) := hid (rq_id (wt_rq (box_cells (heap_alloc_new _ _))))
  have HS1 := hid (PxS.start h.toRdM x)
  have HNK := hid hk
  have HLN := hid (rel_none h.rel h.hp.ok hk)
  have hll : l.length = R.T.length := h.rel.len
  have hc0 := h.cnt.1
  clear h hk
  go_enter Try.func33, Try.ntmps33
  go_wp2_with (first | (refine wpList_load_cells rfl 31 _ rfl _ _ rfl _ _ HC0.out Try.underlying31 rfl HKI.out ?_) | (refine wpList_store_row rfl 31 _ _ rfl _ rfl _ rfl _ _ (heap2_new _ _ _ _) (by rw [HX8.out]; rfl) (bys_one _) HKI.out _ (setRow_alloc2n _ _ _ _ _) ?_))
  obtain ⟨W1, hW1⟩ : ∃ W1, W1 = ((w.alloc (.cells (wtE x) 48)).alloc (.cells (bys x.rq.id.1) 31)).drew := ⟨_, rfl⟩
  have HS2 := hid (show PxS w W1 p B R H l came x by rw [hW1]; exact HS1.out)
  have HW1 := hid hW1
  clear hW1 HS1 HC0
  have hc8 := HS2.out.rd.c8
  obtain ⟨w3, hrun, hm3, hg3⟩ := MapIs.put keyId Try.underlying66 HS2.out.rd.wm x.rq.id x
  have HS3 := hid (HS2.out.turn hm3 hg3)
  rw [show putM R.T x.rq.id x = (x.rq.id, x) :: R.T by unfold putM; rw [delM_none HNK.out]] at HS3
  have hrun2 : (Instr.mapUpdate 66 (.map (some B.b)) (.agg (bys x.rq.id.1)) (.agg (wtE x))).run Try.prog W1 = .ok () w3 := hrun
  clear hrun hm3 hg3
  refine wp_region_tail 6 (by kernel_rfl) (by kernel_rfl) W1 HW1.out ?_
  simp only [List.take_succ_cons, List.take_zero, List.drop_succ_cons, List.drop_zero]
  iterate 4 still_step
  refine still_exec rfl (exec_load 31 _ rfl _ rfl HS2.out.b2 Try.underlying31 rfl HKI.out) ?_
  simp only [Act.put, List.setIfInBounds_toArray, List.set_cons_zero, List.set_cons_succ]
  refine still_exec rfl (exec_load 48 _ rfl _ rfl HS2.out.b1 Try.underlying48 rfl (wtE_info x)) ?_
  simp only [Act.put, List.setIfInBounds_toArray, List.set_cons_zero, List.set_cons_succ]
  refine wpStill_nil ?_
  go_wp2_with fail
  obtain ⟨W4, hW4⟩ : ∃ W4, W4 = w3.drew := ⟨_, rfl⟩
  rw [← hW4] at HS3
  have HW4 := hid hW4
  clear hW4 hc8 hrun2
  have hc9 := HS3.out.rd.c9
  obtain ⟨hx1, hx2, hx3⟩ := HS3.out.cells
  have hwr := IntWalk.i64_in (x.since + x.rq.ttl) (by omega)
  refine wp_region_tail 14 (by kernel_rfl) (by kernel_rfl) W4 HW4.out ?_
  simp only [List.take_succ_cons, List.take_zero, List.drop_succ_cons, List.drop_zero]
  iterate 4 still_step
  refine still_exec rfl (exec_load 31 _ rfl _ rfl HS3.out.b2 Try.underlying31 rfl HKI.out) ?_
  simp only [Act.put, List.setIfInBounds_toArray, List.set_cons_zero, List.set_cons_succ]
  iterate 8 still_step
  first | still_step | (refine still_exec rfl (exec_build _ _ rfl (by simp only [List.map_toArray, List.map_cons, List.map_nil]; exact (by kernel_rfl : _ = Result.ok (Value.agg #[.int .i64 (x.since + x.rq.ttl), .int .i64 x.num]) W4))) ?_; simp only [Act.put, List.setIfInBounds_toArray, List.set_cons_zero, List.set_cons_succ])
  refine wpStill_nil ?_
  have HPU := hid (put_any HS3.out.rd.hp HR.out.hok ⟨x.rq.id, x.since + x.rq.ttl, x.num, 0⟩ HLN.out (by omega) (by omega) (by omega))
  unfold rkV at HPU
  clear hc9 hx1 hx2 hx3 hwr
  go_wp2_with (go_at_call 48; (with_reducible refine HPU.out.mono ?_); rintro e w5 ⟨rfl, h5⟩; have H5 := hid h5; clear h5)
  refine ⟨rfl, .tuple #[], ?_, rfl, ?_⟩
  · simp [results, Try.results33]
  obtain ⟨T', v', l', q1, q2, q3, q4, q5⟩ := H5.out
  obtain ⟨r1, r2⟩ := HS3.out.rd.turnH q1 q4
  refine ⟨_, T', l', ⟨r1, q3, ?_, ⟨by omega, hc⟩⟩, HS3.out.kp.trans r2 (fun _ _ q => q), fun k hk => ?_⟩
  · exact HR.out.rel.put x.rq.id x ⟨rfl, rfl, rfl⟩ q2
  · rcases hk with e | e | e | e | e | e | e
    · exact .inl (.inl e)
    · exact .inl (.inr (.inl e))
    · exact .inl (.inr (.inr (.inl e)))
    · exact .inl (.inr (.inr (.inr (.inl e))))
    · exact .inl (.inr (.inr (.inr (.inr (.inl e)))))
    · exact .inl (.inr (.inr (.inr (.inr (.inr (.inl e))))))
    · rcases q5 with q | q
      · exact .inl (.inr (.inr (.inr (.inr (.inr (.inr (by rw [← q]; exact e)))))))
      · have := q k e
        have := HS3.out.kp.size
        exact .inr (by omega)
end
end Go.Proofs.Ytkaalppmheikgaa
