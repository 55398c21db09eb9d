/- Riders: List. -/
import Derived.Test.YtkaalppmheikgaaRdA
import Derived.Test.YtkaalppmheikgaaRdEx
import Derived.Test.YtkaalppmheikgaaSrtW
namespace Go.Proofs.Ytkaalppmheikgaa
open Go.RowKit

theorem own_not {w : World} {base size n r : Nat} {e : TypeId} {v : Value} {xs : List Value} {o : Obj} (h : w.ownsRow base e size v n xs) (hr : w.heap[r]? = some o) (ho : Obj.isCells o = false) : some r ≠ v.ownBlock := by
  rcases h.2 with ⟨rfl, _⟩ | ⟨g, cap, cur, rfl, _, hgb, _⟩
  · simp [Value.ownBlock]
  · intro e'
    obtain rfl : r = g := by simpa [Value.ownBlock] using e'
    rw [hgb] at hr; cases hr; cases ho
theorem own_walk {w w' : World} {base size n r : Nat} {e : TypeId} {v : Value} {xs : List Value} {o : Obj} (h : w.ownsRow base e size v n xs) (hg : w.grownBy w' (some r)) (hr : w.heap[r]? = some o) (ho : o.isCells = false) : w'.ownsRow base e size v n xs := by
  refine h.kept hg ?_
  rcases h.2 with ⟨rfl, _⟩ | ⟨g, cap, cur, rfl, _, hgb, _⟩
  · exact .inl rfl
  · refine .inr fun e' => ?_
    obtain rfl : g = r := by simpa [Value.ownBlock] using e'
    rw [hgb] at hr; cases hr; cases ho
theorem wtE_inj {x y : Wt} (h : wtE x = wtE y) : x = y := by
  obtain ⟨⟨⟨i, hi⟩, a1, a2, a3, a4, a5, a6, a7, a8⟩, a9, a10⟩ := x
  obtain ⟨⟨⟨j, hj⟩, b1, b2, b3, b4, b5, b6, b7, b8⟩, b9, b10⟩ := y
  have h1 := congrArg Array.toList h
  unfold wtE rqE bys at h1
  dsimp only at h1
  rw [Array.toList_append, Array.toList_append, Array.toList_append, Array.toList_append, List.append_assoc, List.append_assoc] at h1
  obtain ⟨h2, h3⟩ := List.append_inj h1 (by simp [hi.1, hj.1])
  have h4 : i = j := by
    have h5 : i.map (Value.int .u8) = j.map (Value.int .u8) := by simpa using h2
    exact (List.map_inj_right (fun a b e => by cases e; rfl)).1 h5
  subst h4
  simp at h3
  obtain ⟨r1, r2, r3, r4, r5, r6, r7, r8, r9, r10⟩ := h3
  subst r1 r2 r3 r4 r5 r6 r7 r8 r9 r10
  rfl
/-- Who waits in a value. -/
noncomputable def unW (v : Value) : Wt := open Classical in if h : ∃ x, wtV x = v then Classical.choose h else wtZ
theorem unW_wtV (x : Wt) : unW (wtV x) = x := by
  unfold unW
  rw [dif_pos ⟨x, rfl⟩]
  have h := Classical.choose_spec (p := fun y => wtV y = wtV x) ⟨x, rfl⟩
  unfold wtV at h
  exact wtE_inj (by injection h)
theorem lst_eq {T : List (Id8 × Wt)} {k : List Wt} (h : k.Perm (T.map (·.2))) (hn : (T.map fun p => p.2.num).Nodup) : (k.mergeSort fun a b => decide (a.num ≤ b.num)) = lstOf T := by
  have tr : ∀ a b c : Wt, decide (a.num ≤ b.num) = true → decide (b.num ≤ c.num) = true → decide (a.num ≤ c.num) = true := fun a b c h1 h2 => by simp at *; omega
  have to : ∀ a b : Wt, (decide (a.num ≤ b.num) || decide (b.num ≤ a.num)) = true := fun a b => by simp; omega
  refine List.Perm.eq_of_pairwise (le := fun a b => decide (a.num ≤ b.num) = true) ?_ (List.pairwise_mergeSort tr to k) (lst_sorted T) ((List.mergeSort_perm k _).trans (h.trans (lst_perm T).symm))
  intro a b ha hb h1 h2
  simp at h1 h2
  have hk : (k.map Wt.num).Nodup := ((h.map Wt.num).nodup_iff).2 (by rw [List.map_map]; exact hn)
  exact inj_of_nodup hk (List.mem_mergeSort.1 ha) (h.mem_iff.2 ((lst_perm T).mem_iff.1 hb)) (by omega)
section
variable {w : World} {p : Nat} {B : RB} {R : RS} {H : List (Id8 × Int)} {l : List It} {came : Int}
set_option maxRecDepth 100000 in
set_option maxHeartbeats 8000000 in
theorem list_any (h : RdAt w p B R H l came) (hlow : ∀ q ∈ R.T, 0 ≤ q.2.num ∧ q.2.num ≤ 4611686018427387904) (hnums : (R.T.map fun q => q.2.num).Nodup) (hT : R.T.length ≤ 1048576) :
    Calls Try.prog 11 #[.pointer (some ⟨p, 0, none⟩)] w fun e w' => ∃ v, e = .returned v ∧ w'.ownsRow w.heap.size 48 18 v (lstOf R.T).length (fl wtE (lstOf R.T)) ∧ Below w.heap.size w w' := by
  have HTH := hid (there_any h)
  have hc8 := h.c8
  obtain ⟨m, clk, U, hm, hUT, hid', hval, hnd, hbn, hlt⟩ := h.wm
  have hml : m.length = R.T.length := by rw [← hUT.length_eq, ← List.length_map (f := Ent.id), hid', List.length_map]
  have HVAL : Hid (∀ e ∈ m, ∃ y, e.val = .agg (wtE y) ∧ unW e.val = y) := hid (fun e he => by
    have h1 : e.val ∈ m.map Ent.val := List.mem_map_of_mem he
    rw [hval] at h1
    obtain ⟨q, _, hq⟩ := List.mem_map.1 h1
    exact ⟨q.2, hq.symm, by rw [← hq]; exact unW_wtV q.2⟩)
  have HPERM : Hid (∀ got : List Ent, got.Perm m → (got.map fun e => unW e.val).Perm (R.T.map (·.2))) := hid (fun got hp => by
    have h1 : (got.map Ent.val).Perm (R.T.map fun q => wtV q.2) := by
      refine (hp.map _).trans ?_
      rw [hval]
      exact hUT.map _
    have h2 := h1.map unW
    rw [List.map_map, List.map_map] at h2
    refine h2.trans (List.Perm.of_eq ?_)
    apply List.map_congr_left
    intro q _
    exact unW_wtV q.2)
  have HML := hid hml
  have HLOW := hid hlow
  have HNUMS := hid hnums
  have HLL := hid (lst_len R.T)
  obtain ⟨i0, hi, hz0, hz1, hz2⟩ := info_parts wtE_table
  clear h hid' hval hnd hUT hml hlow hnums
  go_enter Try.func11, Try.ntmps11
  go_wp2_with (first | (go_at_call 25; (with_reducible refine HTH.out.mono ?_); rintro e w2 ⟨rfl, hw2⟩; rw [hw2]; clear hw2) | (at_range; refine wpList_range_ids rfl _ rfl Try.underlying66 B.b m clk rfl hm hbn hlt ?_))
  intro w2 hrg hg2 hs2
  have B2 : Hid (Below w.heap.size w w2) := hid ((Below.refl _ _).grown hg2 (Nat.le_refl _) (fun _ e => by cases e))
  have HR := hid hrg
  have HM := hid (And.intro hm (And.intro hbn hlt))
  clear hrg hg2 hs2 hc8 hm hbn hlt
  go_wp2_with fail
  obtain ⟨kr, hkr⟩ : ∃ kr, kr = w.heap.size := ⟨_, rfl⟩
  have HKR := hid hkr
  rw [← hkr] at HR ⊢
  clear hkr
  go_loopw [3] (fun v wr => ∃ got : List Ent, Hid (RgAt wr .u8 B.b kr m clk got) ∧ Hid (wr.ownsRow w.heap.size 48 18 v got.length (fl wtE (got.map fun e => unW e.val))) ∧ Hid (Below w.heap.size w wr)) (fun _ wr => wr.rangeLeft B.b kr)
  case atStart => exact ⟨[], HR, hid (World.ownsRow_nil _ _ _ _), B2⟩
  case round =>
    obtain ⟨got, hR, hO, hB⟩ := hrel
    obtain ⟨va, cap, rfl⟩ := ownsRow_shape hO.out
    have HGL : Hid (got.length ≤ 1048576) := hid (by
      have h1 := hR.out.nd.length_le_of_subset hR.out.sub
      have := HML.out
      omega)
    go_wp2_with (at_next; refine wpList_next_ids rfl _ rfl B.b kr m got clk rfl hR.out ?_ ?_)
    · intro hall
      have hperm := HPERM.out got (hR.out.all hall)
      have hgn : ((got.map fun e => unW e.val).map Wt.num).Nodup := ((hperm.map Wt.num).nodup_iff).2 (by rw [List.map_map]; exact HNUMS.out)
      have hgb : ∀ x ∈ (got.map fun e => unW e.val), 0 ≤ x.num ∧ x.num ≤ 4611686018427387904 := fun x hx => by
        obtain ⟨q, hq, rfl⟩ := List.mem_map.1 (hperm.mem_iff.1 hx)
        exact HLOW.out q hq
      have HC := hid (sortWts_any (got.map fun e => unW e.val) hgb hgn (by simp; have := HGL.out; omega) (by simp) wr hO.out)
      rw [lst_eq hperm HNUMS.out] at HC
      have HGE : Hid (got.length = (lstOf R.T).length) := hid (by rw [HLL.out]; have := hperm.length_eq; simpa using this)
      clear hperm hall hgn hgb
      go_wp2_with (go_at_call 26; (with_reducible refine HC.out.mono ?_); rintro e' w3 ⟨rfl, ho3, hk3⟩; have HO3 := hid ho3; have HK3 := hid hk3; clear ho3 hk3)
      go_ret
      refine ⟨_, rfl, ?_, hB.out.trans (HK3.out.toBelow hB.out.size (fun k _ hk => own_base' hO.out hk))⟩
      rw [← HGE.out]; exact HO3.out
    · intro e w3 he hne hR3 hg3 hs3 hl3 hent
      obtain ⟨y, hy1, hy2⟩ := HVAL.out e he
      rw [hy1] at hent ⊢
      have hO3 : Hid (w3.ownsRow w.heap.size 48 18 (.slice va got.length cap) got.length (fl wtE (got.map fun e => unW e.val))) := hid (by obtain ⟨_, _, _, h1, _⟩ := hR.out.it; exact own_walk hO.out hg3 h1 rfl)
      have hB3 : Hid (Below w.heap.size w w3) := hid (hB.out.grown hg3 hB.out.size (fun k e => by cases e; have := HKR.out; omega))
      have hgl := HGL.out
      have HX := hid (wtE_info y)
      have HX18 : Hid ((wtE y).size = 18) := hid (wtE_size y)
      have HY2 := hid hy2
      have HR3 := hid hR3
      have HL3 := hid (And.intro hs3 hl3)
      have hbl := hB3.out.size
      clear hs3 hl3 hg3 hR3 he hne hy1 hy2
      go_wp2_with (first | (refine wpList_store_row rfl 48 _ _ rfl _ rfl _ rfl _ _ (heap_alloc_new _ _) (by rw [HX18.out]; rfl) (wtE_ones _) HX.out _ (setRow_alloc _ _ _ _) ?_) | (refine wpList_load_w rfl 48 _ rfl _ rfl _ _ _ _ (heap_alloc_new _ _) Try.underlying48 rfl HX.out ?_) | (refine wpList_build1 rfl 38 48 _ rfl _ rfl i0 _ Try.underlying38 hi hz0 (by rw [hz1, HX18.out]) (by rw [HX18.out]; decide) (by rw [HX18.out]; decide) ?_) | (at_builtin; refine wpList_append_own_at _ rfl _ _ 38 rfl w.heap.size 48 i0 _ 18 56 Try.underlying38 hi hz0 hz1 hz2 rfl (by decide) _ _ _ rfl ((hO3.out.alloc _).alloc _) ⟨_, 0, none⟩ 1 1 (wtE y).toList rfl (by rw [Array.length_toList, HX18.out]) (cells_at (heap_alloc_new _ _)) (wtE_ones y) (by unfold maxLen; omega) (by omega) (by simp; omega) ?_))
      intro v' w4 ho4 hg4 hnil4 hat4
      go_wp2
      have hB4 : Below w.heap.size w w4 := ((hB3.out.alloc hB3.out.size _).alloc (by have := hB3.out.size; simp; omega) _).grown hg4 (by have := hB3.out.size; simp; omega) (fun k e => own_base' hO3.out e)
      have hr3 : ∃ s n c, w3.heap[kr]? = some (.mapIter (some B.b) s n c) := by obtain ⟨s, n, c, h1, _⟩ := HR3.out.it; exact ⟨s, n, c, h1⟩
      have k4 : ∀ (j : Nat) (o : Obj), w3.heap[j]? = some o → o.isCells = false → w4.heap[j]? = w3.heap[j]? := fun j (o : Obj) hj ho => (hg4.block j (by have := heap_lt hj; simp; omega) (own_not hO3.out hj ho)).trans ((Below.heap_alloc _ _ _ (by have := heap_lt hj; simp; omega)).trans (Below.heap_alloc _ _ _ (heap_lt hj)))
      have kb : w4.heap[B.b]? = w3.heap[B.b]? := k4 B.b _ HR3.out.mp rfl
      have kr' : w4.heap[kr]? = w3.heap[kr]? := by obtain ⟨s, n, c, h1⟩ := hr3; exact k4 _ _ h1 rfl
      refine ⟨⟨got ++ [e], hid (HR3.out.kept kb kr'), hid ?_, hid hB4⟩, ?_⟩
      · rw [List.map_append, List.map_cons, List.map_nil, fl_append, fl_one, List.length_append, HY2.out]; exact ho4
      · rw [rangeLeft_same kb kr']; exact HL3.out.2
end
end Go.Proofs.Ytkaalppmheikgaa
