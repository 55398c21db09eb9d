/- The heap's order between two of its items. -/
import Derived.Test.YtkaalppmheikgaaHpSt
import Derived.Test.YtkaalppmheikgaaQx
namespace Go.Proofs.Ytkaalppmheikgaa
open Go.RowKit

theorem exec_load_cells {P : Program} {ρ : Operand → Value} {o : Oper} {w : World} (ty : TypeId) (x : Operand) (ho : o.op = .load ty x) (g off : Nat) (hx : ρ x = .pointer (some ⟨g, off, none⟩)) {vs : Array Value} {d : TypeDesc} (hc : CellsAt w g off vs)
    (hu : P.underlying ty = some d) (hd : (match d with | .struct _ | .array _ _ => true | _ => false) = true) (hi : (P.info? ty).map (·.size) = some vs.size) : (execOp ρ o).run P w = .ok (.value (.agg vs)) w := by
  unfold execOp
  simp only [ho, hx, Instr.loadAt, Instr.sureAddr, Sem.run_bind, Sem.run_pure, Result.andThen_ok, run_loadVar_cells w g off d vs hc hu hd hi]
theorem zero_item (w : World) : ∃ z : It, (zeroValue 103).run Try.prog w = .ok (.agg (itE z)) w := ⟨⟨idZ, 0, 0, 0⟩, by kernel_rfl⟩
theorem step_store_row {P : Program} {w : World} {ops : Array Oper} {o : Oper} {a : Act} {K : Act → World → Prop} {Q : Exit → Act → World → Prop} {E : Prop} (hgd : o.guard = none) (ty : TypeId) (x y : Operand) (ho : o.op = .store ty x y)
    (g : Nat) (cells : Array Value) (hx : a.eval x = .pointer (some ⟨g, 0, none⟩)) (hy : a.eval y = .agg cells) (t : TypeId) (old : Array Value) (hg : w.heap[g]? = some (.cells old t (0, 0))) (hi : (P.info? ty).map (·.size) = some cells.size)
    (hold : old.size = cells.size) (h1 : ∀ v ∈ cells.toList, v.oneCell' = true) (h : K (a.put o.dst undef) (w.setRow g cells)) : if Region.wanted o (yielded ops a.tmps) = true then Oper.wp P o a w K Q else E := by
  have hw : Region.wanted o (yielded ops a.tmps) = true := by simp [Region.wanted, hgd]
  rw [if_pos hw]
  exact wp_store_row ty x y ho g cells hx hy t old hg hi hold (Array.all_eq_true_iff_forall_mem.2 (fun v hv => h1 v (by simpa using hv))) h
/-- What 'ahead' has laid. -/
structure AhS (w0 w : World) (h b : Nat) (T : List (Id8 × Int)) (v : Value) (l : List It) (came : Int) (x y : It) (p q : Nat) : Prop where
  hp : HpAt w h b T v l came
  one : w.heap[p]? = some (.cells (itE x) 103 (0, 0))
  two : w.heap[q]? = some (.cells (itE y) 103 (0, 0))
  bel : Below w0.heap.size w0 w
theorem AhS.kept {w0 w w' : World} {h b : Nat} {T : List (Id8 × Int)} {v : Value} {l : List It} {came : Int} {x y : It} {p q : Nat} (H : AhS w0 w h b T v l came x y p q) (hb : Below w.heap.size w w') : AhS w0 w' h b T v l came x y p q :=
  ⟨H.hp.kept hb, below_keep hb H.one, below_keep hb H.two, H.bel.trans (hb.mono H.bel.size)⟩
set_option maxRecDepth 100000 in
set_option maxHeartbeats 8000000 in
theorem ahead_any {w : World} {h b : Nat} {T : List (Id8 × Int)} {v : Value} {l : List It} {came : Int} (H : HpAt w h b T v l came) {i j : Nat} {x y : It} (hi : l[i]? = some x) (hj : l[j]? = some y) :
    Calls Try.prog 66 #[.pointer (some ⟨h, 0, none⟩), .int .i64 i, .int .i64 j] w fun e w' => e = .returned (.bool (itLt x y)) ∧ Below w.heap.size w w' := by
  obtain ⟨g, cap, rfl, hcap, hci⟩ := H.item hi
  obtain ⟨_, _, e1, _, hcj⟩ := H.item hj
  cases e1
  have hil := (List.getElem?_eq_some_iff.1 hi).1
  have hjl := (List.getElem?_eq_some_iff.1 hj).1
  have hilt : (i : Int) < (l.length : Int) := by omega
  have hjlt : (j : Int) < (l.length : Int) := by omega
  have HL := hid H
  obtain ⟨z, hz⟩ : ∃ z : It, ∀ w, (zeroValue 103).run Try.prog w = .ok (.agg (itE z)) w := ⟨⟨idZ, 0, 0, 0⟩, fun w => by kernel_rfl⟩
  have HI := hid hi
  have HJ := hid hj
  have HXI := hid (itE_info x)
  have HYI := hid (itE_info y)
  have HXS : Hid ((itE x).size = 11) := hid (itE_size x)
  have HYS : Hid ((itE y).size = 11) := hid (itE_size y)
  have HZS : Hid ((itE z).size = 11) := hid (itE_size z)
  have HS0 : ∀ w', HpAt w' h b T (.slice (some ⟨g, 0, none⟩) l.length cap) l came → (HpAt w' h b T (.slice (some ⟨g, 0, none⟩) l.length cap) l came ∧ w'.cell? ⟨h, 1, none⟩ = some (.slice (some ⟨g, 0, none⟩) l.length cap)) ∧ CellsAt w' g (i * 11) (itE x) ∧ CellsAt w' g (j * 11) (itE y) := fun w' h' => by
    obtain ⟨_, _, e1, _, h1⟩ := h'.item hi
    obtain ⟨_, _, e2, _, h2⟩ := h'.item hj
    cases e1; cases e2
    exact ⟨⟨h', h'.cell1⟩, h1, h2⟩
  have HS := hid HS0
  have hd0 : HpAt w.drew h b T (.slice (some ⟨g, 0, none⟩) l.length cap) l came := H.kept (Below.refl _ _).drew
  clear HS0 hi hj hci hcj H
  obtain ⟨R, hR⟩ : ∃ R, R = itLt x y := ⟨_, rfl⟩
  rw [← hR]
  have HRR := hid hR
  clear hR
  go_enter Try.func66, Try.ntmps66
  go_wp2_with fail
  refine wp_region_held_drew (S := (fun w' => (HpAt w' h b T (.slice (some ⟨g, 0, none⟩) l.length cap) l came ∧ w'.cell? ⟨h, 1, none⟩ = some (.slice (some ⟨g, 0, none⟩) l.length cap)) ∧ CellsAt w' g (i * 11) (itE x) ∧ CellsAt w' g (j * 11) (itE y))) (by kernel_rfl) (HS.out _ hd0) ?_
  intro hHeld
  refine wpAnyH_take (i := 0) (oi := _) (v := ?_) rfl (by kernel_rfl) (by kernel_rfl) (by kernel_rfl) (fun _ _ _ h => h) (Or.inl ⟨by rfl, ?_⟩) (by assumption) ?_
  rotate_left
  · intro w hSw
    try dsimp only at hSw
    first | (go_simp; done) | (go_simp; with_reducible rfl)
  (try simp only [Act.put, List.getElem_toArray, List.getElem_cons_zero]); (try simp only [List.setIfInBounds_toArray]); (try simp only [List.set_cons_succ]); (try simp only [List.set_cons_zero])
  refine wpAnyH_take (i := 1) (oi := _) (v := ?_) rfl (by kernel_rfl) (by kernel_rfl) (by kernel_rfl) (fun _ _ _ h => h) (Or.inl ⟨by rfl, ?_⟩) (by assumption) ?_
  rotate_left
  · intro w hSw
    try dsimp only at hSw
    first | (go_simp; done) | (go_simp; with_reducible rfl)
  (try simp only [Act.put, List.getElem_toArray, List.getElem_cons_succ, List.getElem_cons_zero]); (try simp only [List.setIfInBounds_toArray]); (try simp only [List.set_cons_succ]); (try simp only [List.set_cons_zero])
  refine wpAnyH_take (i := 2) (oi := _) (v := ?_) rfl (by kernel_rfl) (by kernel_rfl) (by kernel_rfl) (fun _ _ _ h => h) (Or.inl ⟨by rfl, ?_⟩) (by assumption) ?_
  rotate_left
  · intro w hSw
    try dsimp only at hSw
    first | (go_simp; done) | (go_simp; with_reducible rfl)
  (try simp only [Act.put, List.getElem_toArray, List.getElem_cons_succ, List.getElem_cons_zero]); (try simp only [List.setIfInBounds_toArray]); (try simp only [List.set_cons_succ]); (try simp only [List.set_cons_zero])
  refine wpAnyH_take (i := 3) (oi := _) (v := ?_) rfl (by kernel_rfl) (by kernel_rfl) (by kernel_rfl) (fun _ _ _ h => h) (Or.inl ⟨by rfl, ?_⟩) (by assumption) ?_
  rotate_left
  · intro w hSw
    try dsimp only at hSw
    first | (go_simp; done) | (go_simp; with_reducible rfl)
  (try simp only [Act.put, List.getElem_toArray, List.getElem_cons_succ, List.getElem_cons_zero]); (try simp only [List.setIfInBounds_toArray]); (try simp only [List.set_cons_succ]); (try simp only [List.set_cons_zero])
  refine wpAnyH_take (i := 4) (oi := _) (v := ?_) rfl (by kernel_rfl) (by kernel_rfl) (by kernel_rfl) (fun _ _ _ h => h) (Or.inl ⟨by rfl, ?_⟩) (by assumption) ?_
  rotate_left
  · intro w hSw
    try dsimp only at hSw
    first | (go_simp; done) | (go_simp; with_reducible rfl)
  (try simp only [Act.put, List.getElem_toArray, List.getElem_cons_succ, List.getElem_cons_zero]); (try simp only [List.setIfInBounds_toArray]); (try simp only [List.set_cons_succ]); (try simp only [List.set_cons_zero])
  refine wpAnyH_take (i := 5) (oi := _) (v := ?_) rfl (by kernel_rfl) (by kernel_rfl) (by kernel_rfl) (fun _ _ _ h => h) (Or.inl ⟨by rfl, ?_⟩) (by assumption) ?_
  rotate_left
  · intro w hSw
    try dsimp only at hSw
    first | (go_simp; done) | (go_simp; with_reducible rfl)
  (try simp only [Act.put, List.getElem_toArray, List.getElem_cons_succ, List.getElem_cons_zero]); (try simp only [List.setIfInBounds_toArray]); (try simp only [List.set_cons_succ]); (try simp only [List.set_cons_zero])
  refine wpAnyH_take (i := 6) (oi := _) (v := (.agg (itE x))) rfl (by kernel_rfl) (by kernel_rfl) (by kernel_rfl) (fun _ _ _ h => h) (Or.inl ⟨by rfl, ?_⟩) (by assumption) ?_
  · intro w hSw
    exact exec_load_cells 103 _ rfl _ _ rfl hSw.2.1 Try.underlying103 rfl HXI.out
  (try simp only [Act.put, List.getElem_toArray, List.getElem_cons_succ, List.getElem_cons_zero]); (try simp only [List.setIfInBounds_toArray]); (try simp only [List.set_cons_succ]); (try simp only [List.set_cons_zero])
  refine wpAnyH_take (i := 7) (oi := _) (v := ?_) rfl (by kernel_rfl) (by kernel_rfl) (by kernel_rfl) (fun _ _ _ h => h) (Or.inl ⟨by rfl, ?_⟩) (by assumption) ?_
  rotate_left
  · intro w hSw
    try dsimp only at hSw
    first | (go_simp; done) | (go_simp; with_reducible rfl)
  (try simp only [Act.put, List.getElem_toArray, List.getElem_cons_succ, List.getElem_cons_zero]); (try simp only [List.setIfInBounds_toArray]); (try simp only [List.set_cons_succ]); (try simp only [List.set_cons_zero])
  refine wpAnyH_take (i := 8) (oi := _) (v := ?_) rfl (by kernel_rfl) (by kernel_rfl) (by kernel_rfl) (fun _ _ _ h => h) (Or.inl ⟨by rfl, ?_⟩) (by assumption) ?_
  rotate_left
  · intro w hSw
    try dsimp only at hSw
    first | (go_simp; done) | (go_simp; with_reducible rfl)
  (try simp only [Act.put, List.getElem_toArray, List.getElem_cons_succ, List.getElem_cons_zero]); (try simp only [List.setIfInBounds_toArray]); (try simp only [List.set_cons_succ]); (try simp only [List.set_cons_zero])
  refine wpAnyH_take (i := 9) (oi := _) (v := ?_) rfl (by kernel_rfl) (by kernel_rfl) (by kernel_rfl) (fun _ _ _ h => h) (Or.inl ⟨by rfl, ?_⟩) (by assumption) ?_
  rotate_left
  · intro w hSw
    try dsimp only at hSw
    first | (go_simp; done) | (go_simp; with_reducible rfl)
  (try simp only [Act.put, List.getElem_toArray, List.getElem_cons_succ, List.getElem_cons_zero]); (try simp only [List.setIfInBounds_toArray]); (try simp only [List.set_cons_succ]); (try simp only [List.set_cons_zero])
  refine wpAnyH_take (i := 10) (oi := _) (v := ?_) rfl (by kernel_rfl) (by kernel_rfl) (by kernel_rfl) (fun _ _ _ h => h) (Or.inl ⟨by rfl, ?_⟩) (by assumption) ?_
  rotate_left
  · intro w hSw
    try dsimp only at hSw
    first | (go_simp; done) | (go_simp; with_reducible rfl)
  (try simp only [Act.put, List.getElem_toArray, List.getElem_cons_succ, List.getElem_cons_zero]); (try simp only [List.setIfInBounds_toArray]); (try simp only [List.set_cons_succ]); (try simp only [List.set_cons_zero])
  refine wpAnyH_take (i := 11) (oi := _) (v := ?_) rfl (by kernel_rfl) (by kernel_rfl) (by kernel_rfl) (fun _ _ _ h => h) (Or.inl ⟨by rfl, ?_⟩) (by assumption) ?_
  rotate_left
  · intro w hSw
    try dsimp only at hSw
    first | (go_simp; done) | (go_simp; with_reducible rfl)
  (try simp only [Act.put, List.getElem_toArray, List.getElem_cons_succ, List.getElem_cons_zero]); (try simp only [List.setIfInBounds_toArray]); (try simp only [List.set_cons_succ]); (try simp only [List.set_cons_zero])
  refine wpAnyH_take (i := 12) (oi := _) (v := ?_) rfl (by kernel_rfl) (by kernel_rfl) (by kernel_rfl) (fun _ _ _ h => h) (Or.inl ⟨by rfl, ?_⟩) (by assumption) ?_
  rotate_left
  · intro w hSw
    try dsimp only at hSw
    first | (go_simp; done) | (go_simp; with_reducible rfl)
  (try simp only [Act.put, List.getElem_toArray, List.getElem_cons_succ, List.getElem_cons_zero]); (try simp only [List.setIfInBounds_toArray]); (try simp only [List.set_cons_succ]); (try simp only [List.set_cons_zero])
  refine wpAnyH_take (i := 13) (oi := _) (v := (.agg (itE y))) rfl (by kernel_rfl) (by kernel_rfl) (by kernel_rfl) (fun _ _ _ h => h) (Or.inl ⟨by rfl, ?_⟩) (by assumption) ?_
  · intro w hSw
    exact exec_load_cells 103 _ rfl _ _ rfl hSw.2.2 Try.underlying103 rfl HYI.out
  (try simp only [Act.put, List.getElem_toArray, List.getElem_cons_succ, List.getElem_cons_zero]); (try simp only [List.setIfInBounds_toArray]); (try simp only [List.set_cons_succ]); (try simp only [List.set_cons_zero])
  refine wpAnyH_ready (rs := [14, 15]) (by kernel_rfl) (by simp) ?_
  refine AllReadyH.cons rfl (fun K hK => ?_) (AllReadyH.cons rfl (fun K hK => ?_) AllReadyH.nil)
  · clear hHeld
    go_simp
    refine hK.out _ _ ?_ (fun hHeld => ?_)
    · exact HS.out _ (HL.out.kept ((Below.refl _ w).alloc (Nat.le_refl _) _).drew)
    clear hK K hHeld
    (try simp only [Act.put, List.getElem_toArray, List.getElem_cons_succ, List.getElem_cons_zero]); (try simp only [List.setIfInBounds_toArray]); (try simp only [List.set_cons_succ]); (try simp only [List.set_cons_zero])
    refine wpAnyH_ready (rs := [15]) (by kernel_rfl) (by simp) ?_
    refine AllReadyH.cons rfl (fun K hK => ?_) AllReadyH.nil
    go_simp
    refine hK.out _ _ ?_ (fun hHeld => ?_)
    · exact HS.out _ (HL.out.kept (((Below.refl _ w).alloc (Nat.le_refl _) _).alloc (by simp) _).drew)
    clear hK K
    (try simp only [Act.put, List.getElem_toArray, List.getElem_cons_succ, List.getElem_cons_zero]); (try simp only [List.setIfInBounds_toArray]); (try simp only [List.set_cons_succ]); (try simp only [List.set_cons_zero])
    obtain ⟨W2, hW2⟩ : ∃ W2, W2 = ((w.alloc (.cells (itE z) 103)).alloc (.cells (itE z) 103)).drew := ⟨_, rfl⟩
    have HO1 := hid (show W2.heap[w.heap.size]? = some (.cells (itE z) 103 (0, 0)) by rw [hW2]; exact heap2_old _ _ _ _)
    have HO2 := hid (show W2.heap[w.heap.size + 1]? = some (.cells (itE z) 103 (0, 0)) by rw [hW2]; exact heap2_new _ _ _ _)
    have HB2 := hid (show Below w.heap.size w W2 by rw [hW2]; exact (((Below.refl _ w).alloc (Nat.le_refl _) _).alloc (by simp) _).drew)
    rw [← hW2]
    clear hW2 hHeld
    refine wpAnyH_ready (rs := [16]) (by kernel_rfl) (by simp) ?_
    refine AllReadyH.cons rfl (fun K hK => ?_) AllReadyH.nil
    refine step_store_row rfl 103 _ _ rfl w.heap.size (itE x) rfl rfl 103 (itE z) HO1.out HXI.out (by rw [HXS.out, HZS.out]) (itE_ones x) ?_
    refine hK.out _ _ ?_ (fun hHeld => ?_)
    · exact HS.out _ (HL.out.kept (below_setRow' HB2.out (by omega) _))
    clear hK K hHeld
    (try simp only [Act.put, List.getElem_toArray, List.getElem_cons_succ, List.getElem_cons_zero]); (try simp only [List.setIfInBounds_toArray]); (try simp only [List.set_cons_succ]); (try simp only [List.set_cons_zero])
    refine wpAnyH_ready (rs := [17]) (by kernel_rfl) (by simp) ?_
    refine AllReadyH.cons rfl (fun K hK => ?_) AllReadyH.nil
    refine step_store_row rfl 103 _ _ rfl (w.heap.size + 1) (itE y) rfl rfl 103 (itE z) (setRow_keep HO2.out _ _ (by omega)) HYI.out (by rw [HYS.out, HZS.out]) (itE_ones y) ?_
    refine hK.out _ _ ?_ (fun hHeld => ?_)
    · exact HS.out _ (HL.out.kept (below_setRow' (below_setRow' HB2.out (by omega) _) (by omega) _))
    clear hK K hHeld
    (try simp only [Act.put, List.getElem_toArray, List.getElem_cons_succ, List.getElem_cons_zero]); (try simp only [List.setIfInBounds_toArray]); (try simp only [List.set_cons_succ]); (try simp only [List.set_cons_zero])
    refine wpAnyH_done (by kernel_rfl) ?_ _
    have HZ := hid (show AhS w ((W2.setRow w.heap.size (itE x)).setRow (w.heap.size + 1) (itE y)) h b T (.slice (some ⟨g, 0, none⟩) l.length cap) l came x y w.heap.size (w.heap.size + 1) from ⟨HL.out.kept (below_setRow' (below_setRow' HB2.out (by omega) _) (by omega) _), setRow_keep (setRow_at HO1.out _) _ _ (by omega), setRow_at (setRow_keep HO2.out _ _ (by omega)) _, below_setRow' (below_setRow' HB2.out (by omega) _) (by omega) _⟩)
    generalize (W2.setRow w.heap.size (itE x)).setRow (w.heap.size + 1) (itE y) = wz at *
    obtain ⟨p7, hp7⟩ : ∃ p, p = w.heap.size := ⟨_, rfl⟩
    obtain ⟨p8, hp8⟩ : ∃ p, p = (w.heap.size + 1) := ⟨_, rfl⟩
    rw [← hp8, ← hp7] at HZ ⊢
    clear hp7 hp8 HO1 HO2 HB2 HS HL
    generalize Value.slice (some ⟨g, 0, none⟩) l.length cap = v at *
    have hc0 := HZ.out.hp.cell0
    have HR7 := hid (it_rank (box_cells HZ.out.one))
    have HR8 := hid (it_rank (box_cells HZ.out.two))
    have HL7 := hid (heap_lt HZ.out.one)
    have HL8 := hid (heap_lt HZ.out.two)
    have HX2 := hid (rkV_info x)
    have HY2 := hid (rkV_info y)
    have K1 := hid (fun X : Bw wz => less_any x y X.1)
    have HIT : Hid (R = (rkLt x y || (!rkLt y x && decide (x.came < y.came)))) := hid HRR.out
    obtain ⟨r1, hr1⟩ : ∃ R, R = rkLt x y := ⟨_, rfl⟩
    obtain ⟨r2, hr2⟩ : ∃ R, R = rkLt y x := ⟨_, rfl⟩
    rw [← hr1, ← hr2] at HIT
    rw [← hr1] at K1
    have HQ2 := hid hr2
    clear hr1 hr2
    go_wp2_with fail
    refine wp_region_bw (by kernel_rfl) (by kernel_rfl) ?_
    iterate 3 (first | go_big_quiet_step (fail) | (go_big_quiet_want; go_simp; go_big_quiet_on))
    (go_big_quiet_want; refine quiet_load_cell 85 _ rfl _ _ rfl _ (hc0) (fun w h => by go_simp) ?_; simp only [Act.put, List.setIfInBounds_toArray, List.set_cons_zero, List.set_cons_succ]; go_big_quiet_on)
    iterate 1 (first | go_big_quiet_step (fail) | (go_big_quiet_want; go_simp; go_big_quiet_on))
    (go_big_quiet_want; refine quiet_load_cells 79 _ rfl _ _ rfl _ _ (HR7.out) (HL7.out) Try.underlying79 rfl (HX2.out) ?_; simp only [Act.put, List.setIfInBounds_toArray, List.set_cons_zero, List.set_cons_succ]; go_big_quiet_on)
    iterate 1 (first | go_big_quiet_step (fail) | (go_big_quiet_want; go_simp; go_big_quiet_on))
    (go_big_quiet_want; refine quiet_load_cells 79 _ rfl _ _ rfl _ _ (HR8.out) (HL8.out) Try.underlying79 rfl (HY2.out) ?_; simp only [Act.put, List.setIfInBounds_toArray, List.set_cons_zero, List.set_cons_succ]; go_big_quiet_on)
    (go_big_quiet_want; go_big_quiet_op; go_big_quiet_call ((go_at_call 38; exact Calls.bw (K1.out _))))
    refine wpQuiet_nil ?_; rintro w' ⟨X, rfl⟩
    obtain ⟨w4, hw4⟩ : ∃ w4, w4 = X.1 := ⟨_, rfl⟩
    have HZ4 := hid (show AhS w w4 h b T v l came x y p7 p8 by rw [hw4]; exact HZ.out.kept X.2)
    rw [← hw4]
    clear hw4 X K1 HZ HR7 HR8 HL7 HL8 hc0
    cases r1 with
    | true =>
      go_wp2
      go_ret
      exact ⟨by rw [HIT.out]; rfl, HZ4.out.bel⟩
    | false =>
      have hc0 := HZ4.out.hp.cell0
      have HR7 := hid (it_rank (box_cells HZ4.out.one))
      have HR8 := hid (it_rank (box_cells HZ4.out.two))
      have HL7 := hid (heap_lt HZ4.out.one)
      have HL8 := hid (heap_lt HZ4.out.two)
      have hc7 := it_came (box_cells HZ4.out.one)
      have hc8 := it_came (box_cells HZ4.out.two)
      have K1 := hid (fun X : Bw w4 => less_any y x X.1)
      rw [← HQ2.out] at K1
      clear HQ2
      cases r2 with
      | true =>
        go_wp2_with fail
        refine wp_region_bw (by kernel_rfl) (by kernel_rfl) ?_
        iterate 3 (first | go_big_quiet_step (fail) | (go_big_quiet_want; go_simp; go_big_quiet_on))
        (go_big_quiet_want; refine quiet_load_cell 85 _ rfl _ _ rfl _ (hc0) (fun w h => by go_simp) ?_; simp only [Act.put, List.setIfInBounds_toArray, List.set_cons_zero, List.set_cons_succ]; go_big_quiet_on)
        iterate 1 (first | go_big_quiet_step (fail) | (go_big_quiet_want; go_simp; go_big_quiet_on))
        (go_big_quiet_want; refine quiet_load_cells 79 _ rfl _ _ rfl _ _ (HR8.out) (HL8.out) Try.underlying79 rfl (HY2.out) ?_; simp only [Act.put, List.setIfInBounds_toArray, List.set_cons_zero, List.set_cons_succ]; go_big_quiet_on)
        iterate 1 (first | go_big_quiet_step (fail) | (go_big_quiet_want; go_simp; go_big_quiet_on))
        (go_big_quiet_want; refine quiet_load_cells 79 _ rfl _ _ rfl _ _ (HR7.out) (HL7.out) Try.underlying79 rfl (HX2.out) ?_; simp only [Act.put, List.setIfInBounds_toArray, List.set_cons_zero, List.set_cons_succ]; go_big_quiet_on)
        (go_big_quiet_want; go_big_quiet_op; go_big_quiet_call ((go_at_call 38; exact Calls.bw (K1.out _))))
        iterate 9 (first | go_big_quiet_step (fail) | (go_big_quiet_want; go_simp; go_big_quiet_on))
        refine wpQuiet_nil ?_; rintro w' ⟨X, rfl⟩
        go_wp2
        go_ret
        exact ⟨by rw [HIT.out]; rfl, HZ4.out.bel.trans (X.2.mono HZ4.out.bel.size)⟩
      | false =>
        go_wp2_with fail
        refine wp_region_bw (by kernel_rfl) (by kernel_rfl) ?_
        iterate 3 (first | go_big_quiet_step (fail) | (go_big_quiet_want; go_simp; go_big_quiet_on))
        (go_big_quiet_want; refine quiet_load_cell 85 _ rfl _ _ rfl _ (hc0) (fun w h => by go_simp) ?_; simp only [Act.put, List.setIfInBounds_toArray, List.set_cons_zero, List.set_cons_succ]; go_big_quiet_on)
        iterate 1 (first | go_big_quiet_step (fail) | (go_big_quiet_want; go_simp; go_big_quiet_on))
        (go_big_quiet_want; refine quiet_load_cells 79 _ rfl _ _ rfl _ _ (HR8.out) (HL8.out) Try.underlying79 rfl (HY2.out) ?_; simp only [Act.put, List.setIfInBounds_toArray, List.set_cons_zero, List.set_cons_succ]; go_big_quiet_on)
        iterate 1 (first | go_big_quiet_step (fail) | (go_big_quiet_want; go_simp; go_big_quiet_on))
        (go_big_quiet_want; refine quiet_load_cells 79 _ rfl _ _ rfl _ _ (HR7.out) (HL7.out) Try.underlying79 rfl (HX2.out) ?_; simp only [Act.put, List.setIfInBounds_toArray, List.set_cons_zero, List.set_cons_succ]; go_big_quiet_on)
        (go_big_quiet_want; go_big_quiet_op; go_big_quiet_call ((go_at_call 38; exact Calls.bw (K1.out _))))
        iterate 3 (first | go_big_quiet_step (fail) | (go_big_quiet_want; go_simp; go_big_quiet_on))
        (go_big_quiet_want; refine quiet_load_cell 3 _ rfl _ _ rfl _ (hc7) (fun w h => by go_simp) ?_; simp only [Act.put, List.setIfInBounds_toArray, List.set_cons_zero, List.set_cons_succ]; go_big_quiet_on)
        iterate 1 (first | go_big_quiet_step (fail) | (go_big_quiet_want; go_simp; go_big_quiet_on))
        (go_big_quiet_want; refine quiet_load_cell 3 _ rfl _ _ rfl _ (hc8) (fun w h => by go_simp) ?_; simp only [Act.put, List.setIfInBounds_toArray, List.set_cons_zero, List.set_cons_succ]; go_big_quiet_on)
        iterate 3 (first | go_big_quiet_step (fail) | (go_big_quiet_want; go_simp; go_big_quiet_on))
        refine wpQuiet_nil ?_; rintro w' ⟨X, rfl⟩
        go_wp2
        go_ret
        exact ⟨by rw [HIT.out]; rfl, HZ4.out.bel.trans (X.2.mono HZ4.out.bel.size)⟩
  · clear hHeld
    go_simp
    refine hK.out _ _ ?_ (fun hHeld => ?_)
    · exact HS.out _ (HL.out.kept ((Below.refl _ w).alloc (Nat.le_refl _) _).drew)
    clear hK K hHeld
    (try simp only [Act.put, List.getElem_toArray, List.getElem_cons_succ, List.getElem_cons_zero]); (try simp only [List.setIfInBounds_toArray]); (try simp only [List.set_cons_succ]); (try simp only [List.set_cons_zero])
    refine wpAnyH_ready (rs := [14]) (by kernel_rfl) (by simp) ?_
    refine AllReadyH.cons rfl (fun K hK => ?_) AllReadyH.nil
    go_simp
    refine hK.out _ _ ?_ (fun hHeld => ?_)
    · exact HS.out _ (HL.out.kept (((Below.refl _ w).alloc (Nat.le_refl _) _).alloc (by simp) _).drew)
    clear hK K
    (try simp only [Act.put, List.getElem_toArray, List.getElem_cons_succ, List.getElem_cons_zero]); (try simp only [List.setIfInBounds_toArray]); (try simp only [List.set_cons_succ]); (try simp only [List.set_cons_zero])
    obtain ⟨W2, hW2⟩ : ∃ W2, W2 = ((w.alloc (.cells (itE z) 103)).alloc (.cells (itE z) 103)).drew := ⟨_, rfl⟩
    have HO1 := hid (show W2.heap[w.heap.size]? = some (.cells (itE z) 103 (0, 0)) by rw [hW2]; exact heap2_old _ _ _ _)
    have HO2 := hid (show W2.heap[w.heap.size + 1]? = some (.cells (itE z) 103 (0, 0)) by rw [hW2]; exact heap2_new _ _ _ _)
    have HB2 := hid (show Below w.heap.size w W2 by rw [hW2]; exact (((Below.refl _ w).alloc (Nat.le_refl _) _).alloc (by simp) _).drew)
    rw [← hW2]
    clear hW2 hHeld
    refine wpAnyH_ready (rs := [16]) (by kernel_rfl) (by simp) ?_
    refine AllReadyH.cons rfl (fun K hK => ?_) AllReadyH.nil
    refine step_store_row rfl 103 _ _ rfl (w.heap.size + 1) (itE x) rfl rfl 103 (itE z) HO2.out HXI.out (by rw [HXS.out, HZS.out]) (itE_ones x) ?_
    refine hK.out _ _ ?_ (fun hHeld => ?_)
    · exact HS.out _ (HL.out.kept (below_setRow' HB2.out (by omega) _))
    clear hK K hHeld
    (try simp only [Act.put, List.getElem_toArray, List.getElem_cons_succ, List.getElem_cons_zero]); (try simp only [List.setIfInBounds_toArray]); (try simp only [List.set_cons_succ]); (try simp only [List.set_cons_zero])
    refine wpAnyH_ready (rs := [17]) (by kernel_rfl) (by simp) ?_
    refine AllReadyH.cons rfl (fun K hK => ?_) AllReadyH.nil
    refine step_store_row rfl 103 _ _ rfl w.heap.size (itE y) rfl rfl 103 (itE z) (setRow_keep HO1.out _ _ (by omega)) HYI.out (by rw [HYS.out, HZS.out]) (itE_ones y) ?_
    refine hK.out _ _ ?_ (fun hHeld => ?_)
    · exact HS.out _ (HL.out.kept (below_setRow' (below_setRow' HB2.out (by omega) _) (by omega) _))
    clear hK K hHeld
    (try simp only [Act.put, List.getElem_toArray, List.getElem_cons_succ, List.getElem_cons_zero]); (try simp only [List.setIfInBounds_toArray]); (try simp only [List.set_cons_succ]); (try simp only [List.set_cons_zero])
    refine wpAnyH_done (by kernel_rfl) ?_ _
    have HZ := hid (show AhS w ((W2.setRow (w.heap.size + 1) (itE x)).setRow w.heap.size (itE y)) h b T (.slice (some ⟨g, 0, none⟩) l.length cap) l came x y (w.heap.size + 1) w.heap.size from ⟨HL.out.kept (below_setRow' (below_setRow' HB2.out (by omega) _) (by omega) _), setRow_keep (setRow_at HO2.out _) _ _ (by omega), setRow_at (setRow_keep HO1.out _ _ (by omega)) _, below_setRow' (below_setRow' HB2.out (by omega) _) (by omega) _⟩)
    generalize (W2.setRow (w.heap.size + 1) (itE x)).setRow w.heap.size (itE y) = wz at *
    obtain ⟨p7, hp7⟩ : ∃ p, p = (w.heap.size + 1) := ⟨_, rfl⟩
    obtain ⟨p8, hp8⟩ : ∃ p, p = w.heap.size := ⟨_, rfl⟩
    rw [← hp7, ← hp8] at HZ ⊢
    clear hp7 hp8 HO1 HO2 HB2 HS HL
    generalize Value.slice (some ⟨g, 0, none⟩) l.length cap = v at *
    have hc0 := HZ.out.hp.cell0
    have HR7 := hid (it_rank (box_cells HZ.out.one))
    have HR8 := hid (it_rank (box_cells HZ.out.two))
    have HL7 := hid (heap_lt HZ.out.one)
    have HL8 := hid (heap_lt HZ.out.two)
    have HX2 := hid (rkV_info x)
    have HY2 := hid (rkV_info y)
    have K1 := hid (fun X : Bw wz => less_any x y X.1)
    have HIT : Hid (R = (rkLt x y || (!rkLt y x && decide (x.came < y.came)))) := hid HRR.out
    obtain ⟨r1, hr1⟩ : ∃ R, R = rkLt x y := ⟨_, rfl⟩
    obtain ⟨r2, hr2⟩ : ∃ R, R = rkLt y x := ⟨_, rfl⟩
    rw [← hr1, ← hr2] at HIT
    rw [← hr1] at K1
    have HQ2 := hid hr2
    clear hr1 hr2
    go_wp2_with fail
    refine wp_region_bw (by kernel_rfl) (by kernel_rfl) ?_
    iterate 3 (first | go_big_quiet_step (fail) | (go_big_quiet_want; go_simp; go_big_quiet_on))
    (go_big_quiet_want; refine quiet_load_cell 85 _ rfl _ _ rfl _ (hc0) (fun w h => by go_simp) ?_; simp only [Act.put, List.setIfInBounds_toArray, List.set_cons_zero, List.set_cons_succ]; go_big_quiet_on)
    iterate 1 (first | go_big_quiet_step (fail) | (go_big_quiet_want; go_simp; go_big_quiet_on))
    (go_big_quiet_want; refine quiet_load_cells 79 _ rfl _ _ rfl _ _ (HR7.out) (HL7.out) Try.underlying79 rfl (HX2.out) ?_; simp only [Act.put, List.setIfInBounds_toArray, List.set_cons_zero, List.set_cons_succ]; go_big_quiet_on)
    iterate 1 (first | go_big_quiet_step (fail) | (go_big_quiet_want; go_simp; go_big_quiet_on))
    (go_big_quiet_want; refine quiet_load_cells 79 _ rfl _ _ rfl _ _ (HR8.out) (HL8.out) Try.underlying79 rfl (HY2.out) ?_; simp only [Act.put, List.setIfInBounds_toArray, List.set_cons_zero, List.set_cons_succ]; go_big_quiet_on)
    (go_big_quiet_want; go_big_quiet_op; go_big_quiet_call ((go_at_call 38; exact Calls.bw (K1.out _))))
    refine wpQuiet_nil ?_; rintro w' ⟨X, rfl⟩
    obtain ⟨w4, hw4⟩ : ∃ w4, w4 = X.1 := ⟨_, rfl⟩
    have HZ4 := hid (show AhS w w4 h b T v l came x y p7 p8 by rw [hw4]; exact HZ.out.kept X.2)
    rw [← hw4]
    clear hw4 X K1 HZ HR7 HR8 HL7 HL8 hc0
    cases r1 with
    | true =>
      go_wp2
      go_ret
      exact ⟨by rw [HIT.out]; rfl, HZ4.out.bel⟩
    | false =>
      have hc0 := HZ4.out.hp.cell0
      have HR7 := hid (it_rank (box_cells HZ4.out.one))
      have HR8 := hid (it_rank (box_cells HZ4.out.two))
      have HL7 := hid (heap_lt HZ4.out.one)
      have HL8 := hid (heap_lt HZ4.out.two)
      have hc7 := it_came (box_cells HZ4.out.one)
      have hc8 := it_came (box_cells HZ4.out.two)
      have K1 := hid (fun X : Bw w4 => less_any y x X.1)
      rw [← HQ2.out] at K1
      clear HQ2
      cases r2 with
      | true =>
        go_wp2_with fail
        refine wp_region_bw (by kernel_rfl) (by kernel_rfl) ?_
        iterate 3 (first | go_big_quiet_step (fail) | (go_big_quiet_want; go_simp; go_big_quiet_on))
        (go_big_quiet_want; refine quiet_load_cell 85 _ rfl _ _ rfl _ (hc0) (fun w h => by go_simp) ?_; simp only [Act.put, List.setIfInBounds_toArray, List.set_cons_zero, List.set_cons_succ]; go_big_quiet_on)
        iterate 1 (first | go_big_quiet_step (fail) | (go_big_quiet_want; go_simp; go_big_quiet_on))
        (go_big_quiet_want; refine quiet_load_cells 79 _ rfl _ _ rfl _ _ (HR8.out) (HL8.out) Try.underlying79 rfl (HY2.out) ?_; simp only [Act.put, List.setIfInBounds_toArray, List.set_cons_zero, List.set_cons_succ]; go_big_quiet_on)
        iterate 1 (first | go_big_quiet_step (fail) | (go_big_quiet_want; go_simp; go_big_quiet_on))
        (go_big_quiet_want; refine quiet_load_cells 79 _ rfl _ _ rfl _ _ (HR7.out) (HL7.out) Try.underlying79 rfl (HX2.out) ?_; simp only [Act.put, List.setIfInBounds_toArray, List.set_cons_zero, List.set_cons_succ]; go_big_quiet_on)
        (go_big_quiet_want; go_big_quiet_op; go_big_quiet_call ((go_at_call 38; exact Calls.bw (K1.out _))))
        iterate 9 (first | go_big_quiet_step (fail) | (go_big_quiet_want; go_simp; go_big_quiet_on))
        refine wpQuiet_nil ?_; rintro w' ⟨X, rfl⟩
        go_wp2
        go_ret
        exact ⟨by rw [HIT.out]; rfl, HZ4.out.bel.trans (X.2.mono HZ4.out.bel.size)⟩
      | false =>
        go_wp2_with fail
        refine wp_region_bw (by kernel_rfl) (by kernel_rfl) ?_
        iterate 3 (first | go_big_quiet_step (fail) | (go_big_quiet_want; go_simp; go_big_quiet_on))
        (go_big_quiet_want; refine quiet_load_cell 85 _ rfl _ _ rfl _ (hc0) (fun w h => by go_simp) ?_; simp only [Act.put, List.setIfInBounds_toArray, List.set_cons_zero, List.set_cons_succ]; go_big_quiet_on)
        iterate 1 (first | go_big_quiet_step (fail) | (go_big_quiet_want; go_simp; go_big_quiet_on))
        (go_big_quiet_want; refine quiet_load_cells 79 _ rfl _ _ rfl _ _ (HR8.out) (HL8.out) Try.underlying79 rfl (HY2.out) ?_; simp only [Act.put, List.setIfInBounds_toArray, List.set_cons_zero, List.set_cons_succ]; go_big_quiet_on)
        iterate 1 (first | go_big_quiet_step (fail) | (go_big_quiet_want; go_simp; go_big_quiet_on))
        (go_big_quiet_want; refine quiet_load_cells 79 _ rfl _ _ rfl _ _ (HR7.out) (HL7.out) Try.underlying79 rfl (HX2.out) ?_; simp only [Act.put, List.setIfInBounds_toArray, List.set_cons_zero, List.set_cons_succ]; go_big_quiet_on)
        (go_big_quiet_want; go_big_quiet_op; go_big_quiet_call ((go_at_call 38; exact Calls.bw (K1.out _))))
        iterate 3 (first | go_big_quiet_step (fail) | (go_big_quiet_want; go_simp; go_big_quiet_on))
        (go_big_quiet_want; refine quiet_load_cell 3 _ rfl _ _ rfl _ (hc7) (fun w h => by go_simp) ?_; simp only [Act.put, List.setIfInBounds_toArray, List.set_cons_zero, List.set_cons_succ]; go_big_quiet_on)
        iterate 1 (first | go_big_quiet_step (fail) | (go_big_quiet_want; go_simp; go_big_quiet_on))
        (go_big_quiet_want; refine quiet_load_cell 3 _ rfl _ _ rfl _ (hc8) (fun w h => by go_simp) ?_; simp only [Act.put, List.setIfInBounds_toArray, List.set_cons_zero, List.set_cons_succ]; go_big_quiet_on)
        iterate 3 (first | go_big_quiet_step (fail) | (go_big_quiet_want; go_simp; go_big_quiet_on))
        refine wpQuiet_nil ?_; rintro w' ⟨X, rfl⟩
        go_wp2
        go_ret
        exact ⟨by rw [HIT.out]; rfl, HZ4.out.bel.trans (X.2.mono HZ4.out.bel.size)⟩
end Go.Proofs.Ytkaalppmheikgaa
