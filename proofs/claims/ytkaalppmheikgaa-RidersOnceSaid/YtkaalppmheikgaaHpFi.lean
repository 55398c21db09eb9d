/- The heap: which one comes first. -/
import Derived.Test.YtkaalppmheikgaaHpSw
namespace Go.Proofs.Ytkaalppmheikgaa
open Go.RowKit

theorem exec_load {P : Program} {ρ : Operand → Value} {o : Oper} {w : World} (ty : TypeId) (x : Operand) (ho : o.op = .load ty x) (g : Nat) (hx : ρ x = .pointer (some ⟨g, 0, none⟩)) {t : TypeId} {cs : Array Value} {fr : Nat × Nat} {d : TypeDesc} (hg : w.heap[g]? = some (.cells cs t fr))
    (hu : P.underlying ty = some d) (hd : (match d with | .struct _ | .array _ _ => true | _ => false) = true) (hi : (P.info? ty).map (·.size) = some cs.size) : (execOp ρ o).run P w = .ok (.value (.agg cs)) w := by
  unfold execOp
  simp only [ho, hx, Instr.loadAt, Instr.sureAddr, Sem.run_bind, Sem.run_pure, Result.andThen_ok, run_loadVar_row w g t ty cs fr d hg hu hd hi]
/-- Three results, two of them in rows of memory. -/
theorem results_row_row_tmp {P : Program} {fn : Func} {p q u : Tmp} {tp tq : TypeId} (h : fn.results = #[.cell p tp, .cell q tq, .tmp u]) (tmps : Array Value) (w : World) (g k : Nat) (t t2 : TypeId) (cs cs2 : Array Value) (fr fr2 : Nat × Nat) (d d2 : TypeDesc)
    (hp : tmps.getD p undef = .pointer (some ⟨g, 0, none⟩)) (hq : tmps.getD q undef = .pointer (some ⟨k, 0, none⟩)) (hg : w.heap[g]? = some (.cells cs t fr)) (hk : w.heap[k]? = some (.cells cs2 t2 fr2))
    (hu : P.underlying tp = some d) (hd : (match d with | .struct _ | .array _ _ => true | _ => false) = true) (hi : (P.info? tp).map (·.size) = some cs.size)
    (hu2 : P.underlying tq = some d2) (hd2 : (match d2 with | .struct _ | .array _ _ => true | _ => false) = true) (hi2 : (P.info? tq).map (·.size) = some cs2.size) :
    (results fn tmps).run P w = .ok (.tuple #[.agg cs, .agg cs2, tmps.getD u undef]) w := by
  have hp' : tmps[p]?.getD undef = .pointer (some ⟨g, 0, none⟩) := by simpa using hp
  have hq' : tmps[q]?.getD undef = .pointer (some ⟨k, 0, none⟩) := by simpa using hq
  simp [results, h, hp', hq', asAddr, run_loadVar_row w g t tp cs fr d hg hu hd hi, run_loadVar_row w k t2 tq cs2 fr2 d2 hk hu2 hd2 hi2]
theorem zero_end (w : World) : (zeroValue 79).run Try.prog w = .ok (.agg #[.int .i64 0, .int .i64 0]) w := by kernel_rfl
set_option maxRecDepth 100000 in
set_option maxHeartbeats 4000000 in
theorem first_some {w : World} {h b : Nat} {T : List (Id8 × Int)} {v : Value} {l : List It} {came : Int} (H : HpAt w h b T v l came) {a : It} (ha : l[0]? = some a) (hlen : l.length ≤ 4611686018427387904) :
    Calls Try.prog 34 #[.pointer (some ⟨h, 0, none⟩)] w fun e w' => e = .returned (.tuple #[.agg (bys a.key.1), .agg (rkV a), .bool true]) ∧ Below w.heap.size w w' := by
  obtain ⟨g, cap, rfl, hcap, hci⟩ := H.item ha
  have hil := (List.getElem?_eq_some_iff.1 ha).1
  have HL := hid H
  have hli : ((l.length : Int) == 0) = false := by simp; intro e; rw [e] at hil; simp at hil
  have hl0 : (0 : Int) < (l.length : Int) := by omega
  have hl1 : (l.length == 0) = false := by simp; intro e; rw [e] at hil; simp at hil
  have KL := hid (fun (u : World) (hb : Below w.heap.size w u) => hlen_any (H.kept hb))
  have HKI := hid (idV_info a.key)
  have HRI := hid (rkV_info a)
  have HS := hid (fun (u : World) (hb : Below w.heap.size w u) => (show u.cell? ⟨h, 1, none⟩ = some (.slice (some ⟨g, 0, none⟩) l.length cap) ∧ CellsAt u g 0 (bys a.key.1) ∧ CellsAt u g 8 (rkV a) from by
    obtain ⟨_, _, e1, _, h1⟩ := (H.kept hb).item ha
    cases e1
    rw [Nat.zero_mul] at h1
    have h2 := it_rank h1
    rw [Nat.zero_add] at h2
    exact ⟨(H.kept hb).cell1, it_key h1, h2⟩))
  clear hci H ha
  go_enter Try.func34, Try.ntmps34
  go_wp2_with (go_at_call 49; (with_reducible refine (KL.out _ (((Below.refl _ w).alloc (Nat.le_refl _) _).alloc (by simp) _)).mono ?_); rintro e w2 ⟨rfl, rfl⟩; have Hz := hid True.intro)
  obtain ⟨W0, hW0⟩ : ∃ W0, W0 = (w.alloc (.cells (bys (zs 8)) 31)).alloc (.cells #[.int .i64 0, .int .i64 0] 79) := ⟨_, rfl⟩
  have HO1 := hid (show W0.drew.heap[w.heap.size]? = some (.cells (bys (zs 8)) 31 (0, 0)) by rw [hW0]; exact heap2_old _ _ _ _)
  have HO2 := hid (show W0.drew.heap[w.heap.size + 1]? = some (.cells #[.int .i64 0, .int .i64 0] 79 (0, 0)) by rw [hW0]; exact heap2_new _ _ _ _)
  have HB0 := hid (show Below w.heap.size w W0.drew by rw [hW0]; exact (((Below.refl _ w).alloc (Nat.le_refl _) _).alloc (by simp) _).drew)
  have HZ8 : Hid ((bys (zs 8)).size = (bys a.key.1).size) := hid (by rw [bys_size, bys_size, a.key.2.1]; rfl)
  have hsame : (w.alloc (.cells #[.int .u8 0, .int .u8 0, .int .u8 0, .int .u8 0, .int .u8 0, .int .u8 0, .int .u8 0, .int .u8 0] 31)).alloc (.cells #[.int .i64 0, .int .i64 0] 79) = W0 := hW0.symm
  rw [hsame]
  clear hsame hW0 Hz
  have hs0 := HS.out _ HB0.out
  refine wp_region_held_drew (S := (fun u => u.cell? ⟨h, 1, none⟩ = some (.slice (some ⟨g, 0, none⟩) l.length cap) ∧ CellsAt u g 0 (bys a.key.1) ∧ CellsAt u g 8 (rkV a))) (by kernel_rfl) hs0 ?_
  intro hHeld
  refine wpAnyH_take (i := 0) (oi := _) (v := ?_) rfl (by kernel_rfl) (by kernel_rfl) (by kernel_rfl) (fun _ _ _ h => h) (Or.inl ⟨by rfl, ?_⟩) (by assumption) ?_
  rotate_left
  · intro w hSw
    try dsimp only at hSw
    first | (go_simp; done) | (go_simp; with_reducible rfl)
  (try simp only [Act.put, List.getElem_toArray, List.getElem_cons_zero]); (try simp only [List.setIfInBounds_toArray]); (try simp only [List.set_cons_succ]); (try simp only [List.set_cons_zero])
  refine wpAnyH_take (i := 1) (oi := _) (v := ?_) rfl (by kernel_rfl) (by kernel_rfl) (by kernel_rfl) (fun _ _ _ h => h) (Or.inl ⟨by rfl, ?_⟩) (by assumption) ?_
  rotate_left
  · intro w hSw
    try dsimp only at hSw
    first | (go_simp; done) | (go_simp; with_reducible rfl)
  (try simp only [Act.put, List.getElem_toArray, List.getElem_cons_succ, List.getElem_cons_zero]); (try simp only [List.setIfInBounds_toArray]); (try simp only [List.set_cons_succ]); (try simp only [List.set_cons_zero])
  refine wpAnyH_take (i := 2) (oi := _) (v := ?_) rfl (by kernel_rfl) (by kernel_rfl) (by kernel_rfl) (fun _ _ _ h => h) (Or.inl ⟨by rfl, ?_⟩) (by assumption) ?_
  rotate_left
  · intro w hSw
    try dsimp only at hSw
    first | (go_simp; done) | (go_simp; with_reducible rfl)
  (try simp only [Act.put, List.getElem_toArray, List.getElem_cons_succ, List.getElem_cons_zero]); (try simp only [List.setIfInBounds_toArray]); (try simp only [List.set_cons_succ]); (try simp only [List.set_cons_zero])
  refine wpAnyH_take (i := 3) (oi := _) (v := ?_) rfl (by kernel_rfl) (by kernel_rfl) (by kernel_rfl) (fun _ _ _ h => h) (Or.inl ⟨by rfl, ?_⟩) (by assumption) ?_
  rotate_left
  · intro w hSw
    try dsimp only at hSw
    first | (go_simp; done) | (go_simp; with_reducible rfl)
  (try simp only [Act.put, List.getElem_toArray, List.getElem_cons_succ, List.getElem_cons_zero]); (try simp only [List.setIfInBounds_toArray]); (try simp only [List.set_cons_succ]); (try simp only [List.set_cons_zero])
  refine wpAnyH_take (i := 4) (oi := _) (v := ?_) rfl (by kernel_rfl) (by kernel_rfl) (by kernel_rfl) (fun _ _ _ h => h) (Or.inl ⟨by rfl, ?_⟩) (by assumption) ?_
  rotate_left
  · intro w hSw
    try dsimp only at hSw
    first | (go_simp; done) | (go_simp; with_reducible rfl)
  (try simp only [Act.put, List.getElem_toArray, List.getElem_cons_succ, List.getElem_cons_zero]); (try simp only [List.setIfInBounds_toArray]); (try simp only [List.set_cons_succ]); (try simp only [List.set_cons_zero])
  refine wpAnyH_take (i := 5) (oi := _) (v := ?_) rfl (by kernel_rfl) (by kernel_rfl) (by kernel_rfl) (fun _ _ _ h => h) (Or.inl ⟨by rfl, ?_⟩) (by assumption) ?_
  rotate_left
  · intro w hSw
    try dsimp only at hSw
    first | (go_simp; done) | (go_simp; with_reducible rfl)
  (try simp only [Act.put, List.getElem_toArray, List.getElem_cons_succ, List.getElem_cons_zero]); (try simp only [List.setIfInBounds_toArray]); (try simp only [List.set_cons_succ]); (try simp only [List.set_cons_zero])
  refine wpAnyH_take (i := 6) (oi := _) (v := (.agg (bys a.key.1))) rfl (by kernel_rfl) (by kernel_rfl) (by kernel_rfl) (fun _ _ _ h => h) (Or.inl ⟨by rfl, ?_⟩) (by assumption) ?_
  · intro w hSw
    exact exec_load_cells 31 _ rfl _ _ rfl hSw.2.1 Try.underlying31 rfl HKI.out
  (try simp only [Act.put, List.getElem_toArray, List.getElem_cons_succ, List.getElem_cons_zero]); (try simp only [List.setIfInBounds_toArray]); (try simp only [List.set_cons_succ]); (try simp only [List.set_cons_zero])
  refine wpAnyH_take (i := 7) (oi := _) (v := ?_) rfl (by kernel_rfl) (by kernel_rfl) (by kernel_rfl) (fun _ _ _ h => h) (Or.inl ⟨by rfl, ?_⟩) (by assumption) ?_
  rotate_left
  · intro w hSw
    try dsimp only at hSw
    first | (go_simp; done) | (go_simp; with_reducible rfl)
  (try simp only [Act.put, List.getElem_toArray, List.getElem_cons_succ, List.getElem_cons_zero]); (try simp only [List.setIfInBounds_toArray]); (try simp only [List.set_cons_succ]); (try simp only [List.set_cons_zero])
  refine wpAnyH_take (i := 8) (oi := _) (v := ?_) rfl (by kernel_rfl) (by kernel_rfl) (by kernel_rfl) (fun _ _ _ h => h) (Or.inl ⟨by rfl, ?_⟩) (by assumption) ?_
  rotate_left
  · intro w hSw
    try dsimp only at hSw
    first | (go_simp; done) | (go_simp; with_reducible rfl)
  (try simp only [Act.put, List.getElem_toArray, List.getElem_cons_succ, List.getElem_cons_zero]); (try simp only [List.setIfInBounds_toArray]); (try simp only [List.set_cons_succ]); (try simp only [List.set_cons_zero])
  refine wpAnyH_take (i := 9) (oi := _) (v := ?_) rfl (by kernel_rfl) (by kernel_rfl) (by kernel_rfl) (fun _ _ _ h => h) (Or.inl ⟨by rfl, ?_⟩) (by assumption) ?_
  rotate_left
  · intro w hSw
    try dsimp only at hSw
    first | (go_simp; done) | (go_simp; with_reducible rfl)
  (try simp only [Act.put, List.getElem_toArray, List.getElem_cons_succ, List.getElem_cons_zero]); (try simp only [List.setIfInBounds_toArray]); (try simp only [List.set_cons_succ]); (try simp only [List.set_cons_zero])
  refine wpAnyH_take (i := 10) (oi := _) (v := ?_) rfl (by kernel_rfl) (by kernel_rfl) (by kernel_rfl) (fun _ _ _ h => h) (Or.inl ⟨by rfl, ?_⟩) (by assumption) ?_
  rotate_left
  · intro w hSw
    try dsimp only at hSw
    first | (go_simp; done) | (go_simp; with_reducible rfl)
  (try simp only [Act.put, List.getElem_toArray, List.getElem_cons_succ, List.getElem_cons_zero]); (try simp only [List.setIfInBounds_toArray]); (try simp only [List.set_cons_succ]); (try simp only [List.set_cons_zero])
  refine wpAnyH_take (i := 11) (oi := _) (v := ?_) rfl (by kernel_rfl) (by kernel_rfl) (by kernel_rfl) (fun _ _ _ h => h) (Or.inl ⟨by rfl, ?_⟩) (by assumption) ?_
  rotate_left
  · intro w hSw
    try dsimp only at hSw
    first | (go_simp; done) | (go_simp; with_reducible rfl)
  (try simp only [Act.put, List.getElem_toArray, List.getElem_cons_succ, List.getElem_cons_zero]); (try simp only [List.setIfInBounds_toArray]); (try simp only [List.set_cons_succ]); (try simp only [List.set_cons_zero])
  refine wpAnyH_take (i := 12) (oi := _) (v := ?_) rfl (by kernel_rfl) (by kernel_rfl) (by kernel_rfl) (fun _ _ _ h => h) (Or.inl ⟨by rfl, ?_⟩) (by assumption) ?_
  rotate_left
  · intro w hSw
    try dsimp only at hSw
    first | (go_simp; done) | (go_simp; with_reducible rfl)
  (try simp only [Act.put, List.getElem_toArray, List.getElem_cons_succ, List.getElem_cons_zero]); (try simp only [List.setIfInBounds_toArray]); (try simp only [List.set_cons_succ]); (try simp only [List.set_cons_zero])
  refine wpAnyH_take (i := 13) (oi := _) (v := (.agg (rkV a))) rfl (by kernel_rfl) (by kernel_rfl) (by kernel_rfl) (fun _ _ _ h => h) (Or.inl ⟨by rfl, ?_⟩) (by assumption) ?_
  · intro w hSw
    exact exec_load_cells 79 _ rfl _ _ rfl hSw.2.2 Try.underlying79 rfl HRI.out
  (try simp only [Act.put, List.getElem_toArray, List.getElem_cons_succ, List.getElem_cons_zero]); (try simp only [List.setIfInBounds_toArray]); (try simp only [List.set_cons_succ]); (try simp only [List.set_cons_zero])
  clear hHeld
  refine wpAnyH_ready (rs := [14]) (by kernel_rfl) (by simp) ?_
  refine AllReadyH.cons rfl (fun K hK => ?_) AllReadyH.nil
  refine step_store_row rfl 31 _ _ rfl w.heap.size (bys a.key.1) rfl rfl 31 _ HO1.out HKI.out HZ8.out (bys_one _) ?_
  refine hK.out _ _ ?_ (fun hHeld => ?_)
  · exact HS.out _ (below_setRow' HB0.out (Nat.le_refl _) _)
  clear hK K
  (try simp only [Act.put, List.getElem_toArray, List.getElem_cons_succ, List.getElem_cons_zero]); (try simp only [List.setIfInBounds_toArray]); (try simp only [List.set_cons_succ]); (try simp only [List.set_cons_zero])
  clear hHeld
  refine wpAnyH_ready (rs := [15]) (by kernel_rfl) (by simp) ?_
  refine AllReadyH.cons rfl (fun K hK => ?_) AllReadyH.nil
  refine step_store_row rfl 79 _ _ rfl (w.heap.size + 1) (rkV a) rfl rfl 79 _ (setRow_keep HO2.out _ _ (by omega)) HRI.out rfl (by intro v hv; simp [rkV] at hv; rcases hv with rfl | rfl <;> rfl) ?_
  refine hK.out _ _ ?_ (fun hHeld => ?_)
  · exact HS.out _ (below_setRow' (below_setRow' HB0.out (Nat.le_refl _) _) (by omega) _)
  clear hK K
  (try simp only [Act.put, List.getElem_toArray, List.getElem_cons_succ, List.getElem_cons_zero]); (try simp only [List.setIfInBounds_toArray]); (try simp only [List.set_cons_succ]); (try simp only [List.set_cons_zero])
  clear hHeld
  refine wpAnyH_ready (rs := [16]) (by kernel_rfl) (by simp) ?_
  refine AllReadyH.cons rfl (fun K hK => ?_) AllReadyH.nil
  go_simp
  refine hK.out _ _ ?_ (fun hHeld => ?_)
  · exact HS.out _ (below_setRow' (below_setRow' HB0.out (Nat.le_refl _) _) (by omega) _)
  clear hK K
  (try simp only [Act.put, List.getElem_toArray, List.getElem_cons_succ, List.getElem_cons_zero]); (try simp only [List.setIfInBounds_toArray]); (try simp only [List.set_cons_succ]); (try simp only [List.set_cons_zero])
  clear hHeld
  refine wpAnyH_done (by kernel_rfl) ?_ _
  go_wp2
  refine bodyPost_ret (results_row_row_tmp rfl _ _ _ _ _ _ _ _ _ _ _ _ rfl rfl (setRow_keep (setRow_at HO1.out _) _ _ (by omega)) (setRow_at (setRow_keep HO2.out _ _ (by omega)) _) Try.underlying31 rfl HKI.out Try.underlying79 rfl HRI.out) rfl ⟨rfl, below_setRow' (below_setRow' HB0.out (Nat.le_refl _) _) (by omega) _⟩
set_option maxRecDepth 100000 in
set_option maxHeartbeats 4000000 in
theorem first_none {w : World} {h b : Nat} {T : List (Id8 × Int)} {v : Value} {came : Int} (H : HpAt w h b T v [] came) :
    Calls Try.prog 34 #[.pointer (some ⟨h, 0, none⟩)] w fun e w' => e = .returned (.tuple #[.agg (bys (zs 8)), .agg #[.int .i64 0, .int .i64 0], .bool false]) ∧ Below w.heap.size w w' := by
  have KL := hid (fun (u : World) (hb : Below w.heap.size w u) => hlen_any (H.kept hb))
  clear H
  go_enter Try.func34, Try.ntmps34
  go_wp2_with (go_at_call 49; (with_reducible refine (KL.out _ (((Below.refl _ w).alloc (Nat.le_refl _) _).alloc (by simp) _)).mono ?_); rintro e w2 ⟨rfl, rfl⟩; have Hz := hid True.intro)
  obtain ⟨W0, hW0⟩ : ∃ W0, W0 = (w.alloc (.cells (bys (zs 8)) 31)).alloc (.cells #[.int .i64 0, .int .i64 0] 79) := ⟨_, rfl⟩
  have ho1 : W0.drew.heap[w.heap.size]? = some (.cells (bys (zs 8)) 31 (0, 0)) := by rw [hW0]; exact heap2_old _ _ _ _
  have ho2 : W0.drew.heap[w.heap.size + 1]? = some (.cells #[.int .i64 0, .int .i64 0] 79 (0, 0)) := by rw [hW0]; exact heap2_new _ _ _ _
  have HB0 := hid (show Below w.heap.size w W0.drew by rw [hW0]; exact (((Below.refl _ w).alloc (Nat.le_refl _) _).alloc (by simp) _).drew)
  have hsame : (w.alloc (.cells #[.int .u8 0, .int .u8 0, .int .u8 0, .int .u8 0, .int .u8 0, .int .u8 0, .int .u8 0, .int .u8 0] 31)).alloc (.cells #[.int .i64 0, .int .i64 0] 79) = W0 := hW0.symm
  rw [hsame]
  clear hsame hW0 Hz
  have HS0 := hid (And.intro ho1 ho2)
  have HI8 : Hid ((Try.prog.info? 31).map (·.size) = some (bys (zs 8)).size) := hid (by kernel_rfl)
  have HI2 : Hid ((Try.prog.info? 79).map (·.size) = some (#[.int .i64 0, .int .i64 0] : Array Value).size) := hid (by kernel_rfl)
  clear ho1 ho2
  refine wp_region_held_drew (S := (fun u => u.heap[w.heap.size]? = some (.cells (bys (zs 8)) 31 (0, 0)) ∧ u.heap[w.heap.size + 1]? = some (.cells #[.int .i64 0, .int .i64 0] 79 (0, 0)))) (by kernel_rfl) HS0.out ?_
  intro hHeld
  refine wpAnyH_take (i := 0) (oi := _) (v := (.agg (bys (zs 8)))) rfl (by kernel_rfl) (by kernel_rfl) (by kernel_rfl) (fun _ _ _ h => h) (Or.inl ⟨by rfl, ?_⟩) (by assumption) ?_
  · intro w hSw
    exact exec_load 31 _ rfl _ rfl hSw.1 Try.underlying31 rfl HI8.out
  (try simp only [Act.put, List.getElem_toArray, List.getElem_cons_zero]); (try simp only [List.setIfInBounds_toArray]); (try simp only [List.set_cons_succ]); (try simp only [List.set_cons_zero])
  refine wpAnyH_take (i := 1) (oi := _) (v := (.agg #[.int .i64 0, .int .i64 0])) rfl (by kernel_rfl) (by kernel_rfl) (by kernel_rfl) (fun _ _ _ h => h) (Or.inl ⟨by rfl, ?_⟩) (by assumption) ?_
  · intro w hSw
    exact exec_load 79 _ rfl _ rfl hSw.2 Try.underlying79 rfl HI2.out
  (try simp only [Act.put, List.getElem_toArray, List.getElem_cons_succ, List.getElem_cons_zero]); (try simp only [List.setIfInBounds_toArray]); (try simp only [List.set_cons_succ]); (try simp only [List.set_cons_zero])
  clear hHeld
  refine wpAnyH_ready (rs := [2]) (by kernel_rfl) (by simp) ?_
  refine AllReadyH.cons rfl (fun K hK => ?_) AllReadyH.nil
  refine step_store_row rfl 31 _ _ rfl w.heap.size (bys (zs 8)) rfl rfl 31 _ HS0.out.1 HI8.out rfl (bys_one _) ?_
  refine hK.out _ _ ?_ (fun hHeld => ?_)
  · exact ⟨setRow_at HS0.out.1 _, setRow_keep HS0.out.2 _ _ (by omega)⟩
  clear hK K
  (try simp only [Act.put, List.getElem_toArray, List.getElem_cons_succ, List.getElem_cons_zero]); (try simp only [List.setIfInBounds_toArray]); (try simp only [List.set_cons_succ]); (try simp only [List.set_cons_zero])
  clear hHeld
  refine wpAnyH_ready (rs := [3]) (by kernel_rfl) (by simp) ?_
  refine AllReadyH.cons rfl (fun K hK => ?_) AllReadyH.nil
  refine step_store_row rfl 79 _ _ rfl (w.heap.size + 1) #[.int .i64 0, .int .i64 0] rfl rfl 79 _ (setRow_keep HS0.out.2 _ _ (by omega)) HI2.out rfl (by intro v hv; simp at hv; rw [hv]; rfl) ?_
  refine hK.out _ _ ?_ (fun hHeld => ?_)
  · exact ⟨setRow_keep (setRow_at HS0.out.1 _) _ _ (by omega), setRow_at (setRow_keep HS0.out.2 _ _ (by omega)) _⟩
  clear hK K
  (try simp only [Act.put, List.getElem_toArray, List.getElem_cons_succ, List.getElem_cons_zero]); (try simp only [List.setIfInBounds_toArray]); (try simp only [List.set_cons_succ]); (try simp only [List.set_cons_zero])
  clear hHeld
  refine wpAnyH_ready (rs := [4]) (by kernel_rfl) (by simp) ?_
  refine AllReadyH.cons rfl (fun K hK => ?_) AllReadyH.nil
  go_simp
  refine hK.out _ _ ?_ (fun hHeld => ?_)
  · exact ⟨setRow_keep (setRow_at HS0.out.1 _) _ _ (by omega), setRow_at (setRow_keep HS0.out.2 _ _ (by omega)) _⟩
  clear hK K
  (try simp only [Act.put, List.getElem_toArray, List.getElem_cons_succ, List.getElem_cons_zero]); (try simp only [List.setIfInBounds_toArray]); (try simp only [List.set_cons_succ]); (try simp only [List.set_cons_zero])
  clear hHeld
  refine wpAnyH_done (by kernel_rfl) ?_ _
  go_wp2
  refine bodyPost_ret (results_row_row_tmp rfl _ _ _ _ _ _ _ _ _ _ _ _ rfl rfl (setRow_keep (setRow_at HS0.out.1 _) _ _ (by omega)) (setRow_at (setRow_keep HS0.out.2 _ _ (by omega)) _) Try.underlying31 rfl HI8.out Try.underlying79 rfl HI2.out) rfl ⟨rfl, below_setRow' (below_setRow' HB0.out (Nat.le_refl _) _) (by omega) _⟩
end Go.Proofs.Ytkaalppmheikgaa
