/- The ledger's walk: Accounts. -/
import Derived.Test.YtnapfjgokeloeaaLedQ
import Derived.Test.YtnapfjgokeloeaaMapRg
import Derived.Test.YtnapfjgokeloeaaSrt
import Derived.Test.YtnapfjgokeloeaaSmID
namespace Go.Proofs.Ytnapfjgokeloeaa
open Go.RowKit

theorem own_not {w : World} {base size n r : Nat} {e : TypeId} {v : Value} {xs : List Value} {o : Obj} (h : w.ownsRow base e size v n xs) (hr : w.heap[r]? = some o) (ho : Obj.isCells o = false) : some r ≠ v.ownBlock := by
  rcases h.2 with ⟨rfl, _⟩ | ⟨g, cap, cur, rfl, _, hgb, _⟩
  · simp [Value.ownBlock]
  · intro e'
    obtain rfl : r = g := by simpa [Value.ownBlock] using e'
    rw [hgb] at hr; cases hr; cases ho
theorem own_base {w : World} {base size n k : Nat} {e : TypeId} {v : Value} {xs : List Value} (h : w.ownsRow base e size v n xs) (hk : v.ownBlock = some k) : base ≤ k := by
  rcases h.2 with ⟨rfl, _⟩ | ⟨g, cap, cur, rfl, hb, _⟩
  · simp [Value.ownBlock] at hk
  · obtain rfl : g = k := by simpa [Value.ownBlock] using hk
    exact hb
theorem own_walk {w w' : World} {base size n r : Nat} {e : TypeId} {v : Value} {xs : List Value} {o : Obj} (h : w.ownsRow base e size v n xs) (hg : w.grownBy w' (some r)) (hr : w.heap[r]? = some o) (ho : o.isCells = false) : w'.ownsRow base e size v n xs := by
  refine h.kept hg ?_
  rcases h.2 with ⟨rfl, _⟩ | ⟨g, cap, cur, rfl, _, hgb, _⟩
  · exact .inl rfl
  · refine .inr fun e' => ?_
    obtain rfl : g = r := by simpa [Value.ownBlock] using e'
    rw [hgb] at hr; cases hr; cases ho
theorem sortB_eq {l k : List (List Int)} (h : l.Perm k) (hB : ∀ x ∈ l, B8 x) : sortB l = sortB k := by
  have tr : ∀ a b c : List Int, decide (num a ≤ num b) = true → decide (num b ≤ num c) = true → decide (num a ≤ num c) = true := fun a b c h1 h2 => by simp at *; omega
  have to : ∀ a b : List Int, (decide (num a ≤ num b) || decide (num b ≤ num a)) = true := fun a b => by simp; omega
  refine List.Perm.eq_of_pairwise (le := fun a b => decide (num a ≤ num b) = true) ?_ (List.pairwise_mergeSort tr to l) (List.pairwise_mergeSort tr to k) ((sortB_perm l).trans (h.trans (sortB_perm k).symm))
  intro a b ha hb h1 h2
  simp at h1 h2
  exact num_inj8 (hB a (sortB_mem.1 ha)) (hB b (h.mem_iff.2 (sortB_mem.1 hb))) (by omega)
theorem flatB_snoc (l : List (List Int)) (x : List Int) : flatB (l ++ [x]) = flatB l ++ (bys x).toList := by unfold flatB; simp
theorem infoIdA : (Try.prog.info? 33).map (fun i => (i.zero, i.size, i.bytes)) = some (some (.agg (bys (zs 8))), 8, 8) := by kernel_rfl
/-- Ids in order. -/
def sortI (l : List Id8) : List Id8 := l.mergeSort fun x y => !(ltOf cfId) y x
theorem sortI_vals (l : List Id8) : (sortI l).map Subtype.val = sortB (l.map Subtype.val) := sort_map l
theorem sortI_perm (l : List Id8) : (sortI l).Perm l := List.mergeSort_perm _ _
theorem sortI_len (l : List Id8) : (sortI l).length = l.length := (sortI_perm l).length_eq
theorem sortI_mem {l : List Id8} {x : Id8} : x ∈ sortI l ↔ x ∈ l := (sortI_perm l).mem_iff
theorem fl_flatB (l : List Id8) : flatB (l.map Subtype.val) = fl idE l := by unfold flatB fl; rw [List.flatMap_map]; rfl

set_option maxRecDepth 100000 in
set_option maxHeartbeats 4000000 in
theorem accounts_nil (w : World) : Calls Try.prog 11 #[.pointer none] w fun e w' => e = .returned (.slice none 0 0) ∧ w' = w := by
  go_enter Try.func11, Try.ntmps11
  go_wp2
  go_ret
  exact ⟨rfl, rfl⟩
set_option maxRecDepth 100000 in
set_option maxHeartbeats 4000000 in
theorem accounts_any {w : World} {p b : Nat} {T : List (Id8 × Ac)} {v : Value} {E : List En} (h : LedAt w p b T v E) (hlen : T.length ≤ 8796093022208) :
    Calls Try.prog 11 #[.pointer (some ⟨p, 0, none⟩)] w fun e w' => ∃ v, e = .returned v ∧ w'.ownsRow w.heap.size 33 8 v (sortI (Keys T)).length (fl idE (sortI (Keys T))) ∧ Below w.heap.size w w' := by
  have hpc := h.cell0
  obtain ⟨m, clk, U, hm, hUT, hid', hval, hnd, hbn, hlt⟩ := h.acc
  have hB : ∀ e ∈ m, B8 e.id := fun e he => by
    have h1 : e.id ∈ m.map Ent.id := List.mem_map_of_mem he
    rw [hid'] at h1
    obtain ⟨q, _, hq⟩ := List.mem_map.1 h1
    rw [← hq]; exact q.1.2
  have hml : m.length = T.length := by rw [← hUT.length_eq, ← List.length_map (f := Ent.id), hid', List.length_map]
  have hsort : ∀ got : List Ent, got.Perm m → flatB (sortB (got.map Ent.id)) = fl idE (sortI (Keys T)) ∧ got.length = (sortI (Keys T)).length := fun got hp => by
    rw [← fl_flatB, sortI_vals, sortI_len]
    have h1 : (got.map Ent.id).Perm ((Keys T).map Subtype.val) := by
      refine (hp.map _).trans ?_
      rw [hid']
      have h2 := (hUT.map (fun p : Id8 × Ac => p.1)).map Subtype.val
      rw [List.map_map] at h2
      exact h2
    refine ⟨by rw [sortB_eq h1]; intro x hx; obtain ⟨e, he, rfl⟩ := List.mem_map.1 hx; exact hB e (hp.mem_iff.1 he), ?_⟩
    rw [hp.length_eq, hml]; unfold Keys; rw [List.length_map]
  have HSO := hid hsort
  have HHB := hid hB
  have HML := hid hml
  obtain ⟨i0, hi, hz0, hz1, hz2⟩ := info_parts infoIdA
  clear h hid' hval hnd hUT hsort hB hml
  go_enter Try.func11, Try.ntmps11
  go_wp2_with (at_range; refine wpList_range_ids rfl _ rfl Try.underlying56 b m clk rfl hm hbn hlt ?_)
  intro w2 hrg hg2 hs2
  have B2 : Hid (Below w.heap.size w w2) := hid ((Below.refl _ _).grown hg2 (Nat.le_refl _) (fun _ e => by cases e))
  have HR := hid hrg
  have HM := hid (And.intro hm (And.intro hbn hlt))
  clear hrg hg2 hs2 hpc hm hbn hlt
  go_wp2_with fail
  obtain ⟨kr, hkr⟩ : ∃ kr, kr = w.heap.size := ⟨_, rfl⟩
  have HKR := hid hkr
  rw [← hkr] at HR ⊢
  clear hkr
  go_loopw [3] (fun v wr => ∃ got : List Ent, Hid (RgAt wr .u8 b kr m clk got) ∧ Hid (wr.ownsRow w.heap.size 33 8 v got.length (flatB (got.map Ent.id))) ∧ Hid (Below w.heap.size w wr)) (fun _ wr => wr.rangeLeft b kr)
  case atStart => exact ⟨[], HR, hid (World.ownsRow_nil _ _ _ _), B2⟩
  case round =>
    obtain ⟨got, hR, hO, hB⟩ := hrel
    obtain ⟨va, cap, rfl⟩ := ownsRow_shape hO.out
    have HGL : Hid (got.length ≤ 8796093022208) := hid (by
      have h1 := hR.out.nd.length_le_of_subset hR.out.sub
      have := HML.out
      omega)
    go_wp2_with (at_next; refine wpList_next_ids rfl _ rfl b kr m got clk rfl hR.out ?_ ?_)
    · intro hall
      have hperm := hR.out.all hall
      have hGB : ∀ x ∈ got.map Ent.id, B8 x := fun x hx => by obtain ⟨e, he, rfl⟩ := List.mem_map.1 hx; exact HHB.out e (hR.out.sub e he)
      have HC := hid (sortIds_any (got.map Ent.id) hGB (by simp; have := HGL.out; omega) (by simp) wr hO.out)
      have HP := hid (HSO.out got hperm)
      clear hperm hall hGB
      go_wp2_with (go_at_call 29; refine HC.out.mono ?_; rintro e' w3 ⟨rfl, ho3, hk3⟩; have HO3 := hid ho3; have HK3 := hid hk3; clear ho3 hk3)
      go_ret
      refine ⟨_, rfl, ?_, hB.out.trans (HK3.out.toBelow hB.out.size (fun k _ hk => own_base hO.out hk))⟩
      rw [← HP.out.1, ← HP.out.2]; exact HO3.out
    · intro e w3 he hne hR3 hg3 hs3 hl3 hent
      rw [keyV_bys'] at hent ⊢
      have hO3 : Hid (w3.ownsRow w.heap.size 33 8 (.slice va got.length cap) got.length (flatB (got.map Ent.id))) := hid (by obtain ⟨_, _, _, h1, _⟩ := hR.out.it; exact own_walk hO.out hg3 h1 rfl)
      have hB3 : Hid (Below w.heap.size w w3) := hid (hB.out.grown hg3 hB.out.size (fun k e => by cases e; have := HKR.out; omega))
      have hgl := HGL.out
      have HXB := hid (HHB.out e he)
      have HX := hid (info_id e.id HXB.out)
      have HX8 : Hid ((bys e.id).size = 8) := hid (by rw [bys_size, HXB.out.1])
      have HR3 := hid hR3
      have HL3 := hid (And.intro hs3 hl3)
      have hbl := hB3.out.size
      clear hs3 hl3 hg3 hR3 he hne
      go_wp2_with (first | (refine wpList_store_row rfl 33 _ _ rfl _ rfl _ rfl _ _ (heap_alloc_new _ _) (by rw [HX8.out]; rfl) (bys_one _) HX.out _ (setRow_alloc _ _ _ _) ?_) | (refine wpList_load_w rfl 33 _ rfl _ rfl _ _ _ _ (heap_alloc_new _ _) Try.underlying33 rfl HX.out ?_) | (refine wpList_build1 rfl 29 33 _ rfl _ rfl i0 _ Try.underlying29 hi hz0 (by rw [hz1, HX8.out]) (by rw [HX8.out]; decide) (by rw [HX8.out]; decide) ?_) | (at_builtin; refine wpList_append_own_at _ rfl _ _ 29 rfl w.heap.size 33 i0 _ 8 8 Try.underlying29 hi hz0 hz1 hz2 rfl (by decide) _ _ _ rfl ((hO3.out.alloc _).alloc _) ⟨_, 0, none⟩ 1 1 (bys e.id).toList rfl (by rw [Array.length_toList, HX8.out]) (cells_at (heap_alloc_new _ _)) (bys_one e.id) (by unfold maxLen; omega) (by omega) (by simp; omega) ?_))
      intro v' w4 ho4 hg4 hnil4 hat4
      go_wp2
      have hB4 : Below w.heap.size w w4 := ((hB3.out.alloc hB3.out.size _).alloc (by have := hB3.out.size; simp; omega) _).grown hg4 (by have := hB3.out.size; simp; omega) (fun k e => own_base hO3.out e)
      have hr3 : ∃ s n c, w3.heap[kr]? = some (.mapIter (some b) s n c) := by obtain ⟨s, n, c, h1, _⟩ := HR3.out.it; exact ⟨s, n, c, h1⟩
      have k4 : ∀ (j : Nat) (o : Obj), w3.heap[j]? = some o → o.isCells = false → w4.heap[j]? = w3.heap[j]? := fun j (o : Obj) hj ho => (hg4.block j (by have := heap_lt hj; simp; omega) (own_not hO3.out hj ho)).trans ((Below.heap_alloc _ _ _ (by have := heap_lt hj; simp; omega)).trans (Below.heap_alloc _ _ _ (heap_lt hj)))
      have kb : w4.heap[b]? = w3.heap[b]? := k4 b _ HR3.out.mp rfl
      have kr' : w4.heap[kr]? = w3.heap[kr]? := by obtain ⟨s, n, c, h1⟩ := hr3; exact k4 _ _ h1 rfl
      refine ⟨⟨got ++ [e], hid (HR3.out.kept kb kr'), hid ?_, hid hB4⟩, ?_⟩
      · rw [List.map_append, List.map_cons, List.map_nil, flatB_snoc, List.length_append]; exact ho4
      · rw [rangeLeft_same kb kr']; exact HL3.out.2
end Go.Proofs.Ytnapfjgokeloeaa
