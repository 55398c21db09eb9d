/- Ids: equality, order: what every chapter's walks want of them. -/
import Derived.Test.YtkaalppmheikgaaRows
import Derived.Test.YtkaalppmheikgaaKit
import Derived.Test.YtkaalppmheikgaaIdPl
import Derived.Lib.BytesEntry
namespace Go.Proofs.Ytkaalppmheikgaa
open Go.RowKit

theorem info_id (l : List Int) (hl : B8 l) : (Try.prog.info? 31).map (·.size) = some (bys l).size := by
  rw [bys_size, hl.1]; kernel_rfl
theorem bys_one (l : List Int) : ∀ v ∈ (bys l).toList, v.oneCell' = true := by
  intro v hv
  simp only [bys, List.mem_map] at hv
  obtain ⟨b, _, rfl⟩ := hv
  rfl
def zs (k : Nat) : List Int := List.replicate k 0
theorem bys_of (l : List Int) : bys l = (l.map (Value.int .u8)).toArray := rfl
theorem bys_set (l : List Int) (k : Nat) (b : Int) : (bys l).setIfInBounds k (.int .u8 b) = bys (l.set k b) := by
  simp [bys, List.map_set]


theorem heap2_new (w : World) (A : Obj) (cs : Array Value) (t : TypeId) : ((w.alloc A).alloc (.cells cs t)).heap[w.heap.size + 1]? = some (.cells cs t (0, 0)) := heap_alloc2_new _ _ _
theorem heap2_old (w : World) (cs : Array Value) (t : TypeId) (B : Obj) : ((w.alloc (.cells cs t)).alloc B).heap[w.heap.size]? = some (.cells cs t (0, 0)) := heap_alloc2_old _ _ _
theorem zs_B8 : B8 (zs 8) := by refine ⟨rfl, ?_⟩; decide

theorem eq_ids (l m : List Int) (hl : B8 l) (hm : B8 m) (w : World) : (Op.equalIn 10000 31 (.agg (bys l)) (.agg (bys m))).run Try.prog w = .ok (decide (l = m)) w :=
  run_equalIn_ints Try.underlying31 Try.underlying5 (by kernel_rfl) (by kernel_rfl) 9998 l m hl.1 hm.1 w


theorem bys_cell (w : World) (b : Nat) (l : List Int) (t : TypeId) (fr : Nat × Nat) (h : w.heap[b]? = some (.cells (bys l) t fr)) (j : Nat) (x : Int) (hj : l[j]? = some x) : w.cell? ((⟨b, 0, none⟩ : Addr).add j) = some (.int .u8 x) := by
  have e : (⟨b, 0, none⟩ : Addr).add j = ⟨b, j, none⟩ := by unfold Addr.add; split <;> simp_all
  rw [e, cell_of_row w b j _ t fr h]
  simp [bys, hj]

theorem run_compare8 {P : Program} (w : World) (b c n m : Nat) (l k : List Int) (t u : TypeId) (fr fr' : Nat × Nat) (hb : w.heap[b]? = some (.cells (bys l) t fr)) (hc : w.heap[c]? = some (.cells (bys k) u fr')) (hl : B8 l) (hk : B8 k) :
    (Extern.BytealgCompare.compare #[.slice (some ⟨b, 0, none⟩) 8 n, .slice (some ⟨c, 0, none⟩) 8 m]).run P w = .ok (.int .i64 (cmpN (num l) (num k))) w := by
  have h1 := Lib.run_loadBytesX (P := P) w l ⟨b, 0, none⟩ .empty (fun j x hj => bys_cell w b l t fr hb j x hj)
  have h2 := Lib.run_loadBytesX (P := P) w k ⟨c, 0, none⟩ .empty (fun j x hj => bys_cell w c k u fr' hc j x hj)
  rw [hl.1] at h1
  rw [hk.1] at h2
  have e : ∀ xs : List Int, (⟨ByteArray.empty.data ++ (Lib.bytesOf xs).toArray⟩ : ByteArray).data.toList = Lib.bytesOf xs := by
    intro xs
    show ((#[] : Array UInt8) ++ (Lib.bytesOf xs).toArray).toList = _
    simp
  change Sem.run P (do pure (goInt (Extern.BytealgCompare.cmp (← Extern.Bytes.bytesOf (.slice (some ⟨b, 0, none⟩) 8 n)) (← Extern.Bytes.bytesOf (.slice (some ⟨c, 0, none⟩) 8 m))))) w = _
  simp only [Extern.Bytes.bytesOf, Sem.run_bind, Sem.run_pure, h1, h2, Result.andThen]
  rw [Lib.cmp_eq, e, e, cmp_bytes l k (by rw [hl.1, hk.1]) hl.2 hk.2]
  rfl

set_option maxRecDepth 100000 in
theorem compare_any (w : World) (b c : Nat) (l k : List Int) (t u : TypeId) (fr fr' : Nat × Nat) (hb : w.heap[b]? = some (.cells (bys l) t fr)) (hc : w.heap[c]? = some (.cells (bys k) u fr')) (hl : B8 l) (hk : B8 k) :
    Calls Try.prog 50 #[.slice (some ⟨b, 0, none⟩) 8 8, .slice (some ⟨c, 0, none⟩) 8 8] w fun e w' => e = .returned (.int .i64 (cmpN (num l) (num k))) ∧ w' = w := by
  have H := hid (run_compare8 (P := Try.prog) w b c 8 8 l k t u fr fr' hb hc hl hk)
  clear hb hc hl hk
  go_enter Try.func50, Try.ntmps50
  go_wp2
  rw [run_callFunc_extern Try.func65 (by kernel_rfl) (by kernel_rfl) (by kernel_rfl) (e := Extern.BytealgCompare.compare) (by kernel_rfl), H.out]
  simp only [Result.andThen]
  rw [Oper.upon_value]
  go_wp2
  go_ret
  exact ⟨rfl, rfl⟩

set_option maxRecDepth 100000 in
theorem cmp_any (l k : List Int) (hl : B8 l) (hk : B8 k) (w : World) :
    Calls Try.prog 39 #[.agg (bys l), .agg (bys k)] w fun e w' => e = .returned (.int .i64 (cmpN (num l) (num k))) ∧ Below w.heap.size w w' := by
  have HL := hid (info_id l hl)
  have HK := hid (info_id k hk)
  have heq := fun w => eq_ids l k hl hk w
  have HC := hid (fun n => compare_any (((w.alloc (.cells (bys l) 31)).alloc (.cells (bys k) 31)).drewN n) w.heap.size (w.heap.size + 1) l k _ _ _ _ (heap2_old w (bys l) _ _) (heap2_new w _ (bys k) _) hl hk)
  clear hl hk
  go_enter Try.func39, Try.ntmps39
  go_wp2_with (first | (refine wpList_load_row rfl 31 _ rfl _ rfl 31 _ _ _ (heap2_old _ _ _ _) Try.underlying31 rfl HL.out ?_) | (refine wpList_load_row rfl 31 _ rfl _ rfl 31 _ _ _ (heap2_new _ _ _ _) Try.underlying31 rfl HK.out ?_))
  · rename_i h
    have e : num l = num k := by rw [h]
    go_ret
    exact ⟨by rw [e]; simp [cmpN], ((Below.refl _ _).alloc (Nat.le_refl _) _).alloc (by simp) _⟩
  · go_quiet ((go_at_call 50; exact Calls.quiet_of_same (HC.out _)))
    go_wp2
    go_ret
    exact ⟨rfl, below_drewN (((Below.refl _ _).alloc (Nat.le_refl _) _).alloc (by simp) _) _⟩


theorem below_row {W w1 : World} (hb : Below W.heap.size W w1) (b : Nat) (cs : Array Value) (t : TypeId) (fr : Nat × Nat) (h : W.heap[b]? = some (.cells cs t fr)) : w1.heap[b]? = some (.cells cs t fr) := by
  have hlt : b < W.heap.size := by
    by_cases e : b < W.heap.size
    · exact e
    · simp [Array.getElem?_eq_none (Nat.le_of_not_lt e)] at h
  rw [hb.block b hlt]; exact h
end Go.Proofs.Ytkaalppmheikgaa
