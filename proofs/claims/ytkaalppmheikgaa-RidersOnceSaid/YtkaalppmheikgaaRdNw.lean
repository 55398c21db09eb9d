/- Riders: New. -/
import Derived.Test.YtkaalppmheikgaaRdFt
import Derived.Test.YtkaalppmheikgaaRdA
import Derived.Test.YtkaalppmheikgaaHpNw
namespace Go.Proofs.Ytkaalppmheikgaa
open Go.RowKit

def newE (c : Cf) (s b : Nat) (h : Option Addr) : Array Value := cfE c ++ #[.int .i64 0, .int .i64 0, .pointer (some ⟨s, 0, none⟩), .map (some b), .pointer h]
theorem build_new (c : Cf) (s b : Nat) (w : World) : (Instr.build 69 #[(0, .agg (cfE c)), (3, .pointer (some ⟨s, 0, none⟩)), (4, .map (some b))]).run Try.prog w = .ok (.agg (newE c s b none)) w := by kernel_rfl
theorem new_inv {c : Cf} (hc : cfOk c = true) : RInv ⟨c, 0, 0, [], []⟩ := by
  refine ⟨hc, rfl, ⟨Int.le_refl 0, (by decide : (0 : Int) ≤ 1099511627776)⟩, List.nodup_nil, List.nodup_nil, by simp, by simp, by simp, by simp, List.nodup_nil, ?_⟩
  unfold cfOk at hc
  simp only [Bool.and_eq_true] at hc
  have := (amg_iff.1 hc.1.1.1.1).1
  show ((0 : Nat) : Int) ≤ c.q
  omega
theorem new_fin {w wa wb : World} {c : Cf} {s sb b p : Nat} (hc : cfOk c = true) (hs : SetIs wa s sb []) (hm : MapIs wtV wa b []) (hp : wa.heap[p]? = some (.cells (newE c s b none) 69 (0, 0))) (h1 : w.heap.size ≤ s ∧ w.heap.size ≤ sb ∧ w.heap.size ≤ b ∧ w.heap.size ≤ p) (hne : b ≠ sb)
    (hB : Below w.heap.size w wa) (hh : HpAt wb (wa.heap.size + 1) wa.heap.size [] (.slice none 0 0) [] 0) (hb : Below wa.heap.size wa wb) : Rd w (wb.setCell ⟨p, 9, none⟩ (.pointer (some ⟨wa.heap.size + 1, 0, none⟩))) p ⟨c, 0, 0, [], []⟩ := by
  have hpl := heap_lt hp
  have hbl := hm.lt
  obtain ⟨⟨cs, fr, hs1⟩, o, hs2, hs3⟩ := hs.blocks
  have hsl := heap_lt hs1
  have hsbl := heap_lt hs2
  have hps : s ≠ p := fun e => by rw [e, hp] at hs1; cases hs1
  have hpsb : sb ≠ p := fun e => by rw [e, hp] at hs2; cases hs2; cases hs3
  have hpb : b ≠ p := fun e => by obtain ⟨o2, q1, q2⟩ := hm.obj; rw [e, hp] at q1; cases q1; cases q2
  refine ⟨⟨b, s, sb, wa.heap.size + 1, wa.heap.size, .slice none 0 0⟩, [], [], 0, ⟨⟨?_, ?_, ?_, ?_, hne, ?_, ?_⟩, ?_, HRel.nil, ⟨by decide, by simp⟩⟩, (hB.trans (hb.mono hB.size)).setCell (p := ⟨p, 9, none⟩) h1.2.2.2 _, ?_, new_inv hc⟩
  · rw [row_setCell ((hb.block p hpl).trans hp)]; rfl
  · exact (hs.kept hb).same (heap_setCell_ne hps) (heap_setCell_ne hpsb)
  · exact (hm.kept hb).same (heap_setCell_ne hpb)
  · refine hh.same fun k hk => heap_setCell_ne fun e => ?_
    rcases hk with q | q | q
    · omega
    · omega
    · cases q
  · show b ≠ wa.heap.size; omega
  · show sb ≠ wa.heap.size; omega
  · intro k; unfold okAt; intro a b' h2 h3; simp at h3
  · have hsz := hB.size
    rintro k (rfl | rfl | rfl | rfl | rfl | rfl | q)
    · exact h1.2.2.2
    · exact h1.2.2.1
    · exact h1.1
    · exact h1.2.1
    · show w.heap.size ≤ wa.heap.size + 1; omega
    · exact hsz
    · cases q
set_option maxRecDepth 100000 in
theorem new_no {c : Cf} (hc : cfOk c = false) (w : World) : Calls Try.prog 17 #[.agg (cfE c)] w fun e w' => e = .returned (.tuple #[.pointer none, .int .i64 160]) ∧ Below w.heap.size w w' := by
  have HC : Hid (∀ u, Calls Try.prog 35 #[.agg (cfE c)] u fun r w' => r = .returned (.int .i64 160) ∧ Below u.heap.size u w') := hid (fun u => by have h := config_is c hc u; simpa using h)
  have HCI := hid (cfE_info c)
  have HB0 := hid ((Below.refl w.heap.size w).alloc (Nat.le_refl _) (.cells (cfE c) 23))
  clear hc
  go_enter Try.func17, Try.ntmps17
  go_wp2_with (first | (refine wpList_load_w rfl 23 _ rfl _ rfl _ _ _ _ (heap_alloc_new _ _) Try.underlying23 rfl HCI.out ?_) | (go_at_call 35; (with_reducible refine (HC.out _).mono ?_); rintro r w2 ⟨rfl, hq⟩; have HB2 := hid (HB0.out.trans (hq.mono HB0.out.size)); clear hq))
  go_ret2
  exact ⟨rfl, HB2.out⟩
set_option maxRecDepth 100000 in
set_option maxHeartbeats 8000000 in
theorem new_any {c : Cf} (hc : cfOk c = true) (w : World) : Calls Try.prog 17 #[.agg (cfE c)] w fun e w' => ∃ p, e = .returned (.tuple #[.pointer (some ⟨p, 0, none⟩), .int .i64 0]) ∧ Rd w w' p ⟨c, 0, 0, [], []⟩ := by
  have HC : Hid (∀ u, Calls Try.prog 35 #[.agg (cfE c)] u fun r w' => r = .returned (.int .i64 0) ∧ Below u.heap.size u w') := hid (fun u => by have h := config_is c hc u; simpa using h)
  have HCI := hid (cfE_info c)
  have HCO := hid hc
  have HB0 := hid ((Below.refl w.heap.size w).alloc (Nat.le_refl _) (.cells (cfE c) 23))
  have HK0 := hid (heap_alloc_new w (.cells (cfE c) 23))
  have HNS := hid (fun u => newSet_any none 0 [] (by simp) (by simp) u (.inl rfl))
  have hmm := @run_makeMap Try.prog
  clear hc
  go_enter Try.func17, Try.ntmps17
  go_wp2_with (first | (refine wpList_load_w rfl 23 _ rfl _ rfl _ _ _ _ (heap_alloc_new _ _) Try.underlying23 rfl HCI.out ?_) | (go_at_call 35; (with_reducible refine (HC.out _).mono ?_); rintro r w2 ⟨rfl, hq⟩; have HB2 := hid (HB0.out.trans (hq.mono HB0.out.size)); have HK2 := hid (below_keep hq HK0.out); clear hq))
  obtain ⟨W1, hW1⟩ : ∃ W1, W1 = w2.drew := ⟨_, rfl⟩
  have HB3 := hid (show Below w.heap.size w W1 by rw [hW1]; exact HB2.out.drew)
  have HK3 := hid (show W1.heap[w.heap.size]? = some (.cells (cfE c) 23 (0, 0)) by rw [hW1]; exact HK2.out)
  clear HB2 HK2 HC
  refine wp_region_held_drew (S := fun u => u.heap[w.heap.size]? = some (.cells (cfE c) 23 (0, 0))) (by kernel_rfl) (show w2.drew.heap[w.heap.size]? = _ by rw [← hW1]; exact HK3.out) ?_
  intro hHeld
  rw [← hW1]
  clear hW1
  refine wpAnyH_take (i := 0) (oi := _) (v := (.agg (cfE c))) rfl (by kernel_rfl) (by kernel_rfl) (by kernel_rfl) (fun _ _ _ h => h) (Or.inl ⟨by rfl, ?_⟩) (by assumption) ?_
  · intro w hSw
    exact exec_load 23 _ rfl _ rfl hSw Try.underlying23 rfl HCI.out
  (try simp only [Act.put, List.getElem_toArray, List.getElem_cons_zero]); (try simp only [List.setIfInBounds_toArray]); (try simp only [List.set_cons_zero])
  refine wpAnyH_ready (rs := [1, 2]) (by kernel_rfl) (by simp) ?_
  refine AllReadyH.cons rfl (fun K hK => ?_) (AllReadyH.cons rfl (fun K hK => ?_) AllReadyH.nil)
  · go_simp
    refine (HNS.out W1).mono ?_
    rintro e w4 ⟨s, sb, rfl, h4, l1, l2, hb4⟩
    have hbq := hb4
    refine hK.out _ _ ?_ (fun hHeld => ?_)
    · exact (hbq.block _ (heap_lt HK3.out)).trans HK3.out
    clear hK K
    (try simp only [Act.put, List.getElem_toArray, List.getElem_cons_succ, List.getElem_cons_zero]); (try simp only [List.setIfInBounds_toArray]); (try simp only [List.set_cons_succ]); (try simp only [List.set_cons_zero])
    have HS4 := hid h4
    have hW := HB3.out.size
    refine wpAnyH_ready (rs := [2]) (by kernel_rfl) (by simp) ?_
    refine AllReadyH.cons rfl (fun K hK => ?_) AllReadyH.nil
    go_simp
    have hbq2 := hbq.trans (((Below.refl w4.heap.size w4).alloc (Nat.le_refl _) (.map #[] 0)).mono hbq.size)
    refine hK.out _ _ ?_ (fun hHeld => ?_)
    · exact (hbq2.block _ (heap_lt HK3.out)).trans HK3.out
    clear hK K
    (try simp only [Act.put, List.getElem_toArray, List.getElem_cons_succ, List.getElem_cons_zero]); (try simp only [List.setIfInBounds_toArray]); (try simp only [List.set_cons_succ]); (try simp only [List.set_cons_zero])
    obtain ⟨b, hb⟩ : ∃ b, b = w4.heap.size := ⟨_, rfl⟩
    have HSET := hid ((h4.kept ((Below.refl _ _).alloc (Nat.le_refl _) (.map #[] 0))))
    have HMAP := hid (show MapIs wtV (w4.alloc (.map #[] 0)) b [] by rw [hb]; exact MapIs.new w4)
    have HLOW := hid (show w.heap.size ≤ s ∧ w.heap.size ≤ sb ∧ w.heap.size ≤ b by have := hbq.size; omega)
    have HNE := hid (show b ≠ sb by obtain ⟨_, _, q, _⟩ := h4.blocks; have := heap_lt q; omega)
    have HBX := hid (HB3.out.trans (hbq2.mono hW))
    have HSX := hid ((hbq2.block _ (heap_lt HK3.out)).trans HK3.out)
    rw [← hb]
    clear h4 HS4 hbq hbq2 hb4 l1 l2 hW hb
    generalize w4.alloc (.map #[] 0) = wx at *
    refine wpAnyH_take (i := 3) (oi := _) (v := (.agg (newE c s b none))) rfl (by kernel_rfl) (by kernel_rfl) (by kernel_rfl) (fun _ _ _ h => h) (Or.inl ⟨by rfl, ?_⟩) (by assumption) ?_
    · intro w hSw
      refine exec_build _ _ rfl ?_
      simp only [List.map_toArray, List.map_cons, List.map_nil]
      exact build_new c s b w
    (try simp only [Act.put, List.getElem_toArray, List.getElem_cons_succ, List.getElem_cons_zero]); (try simp only [List.setIfInBounds_toArray]); (try simp only [List.set_cons_succ]); (try simp only [List.set_cons_zero])
    refine wpAnyH_ready (rs := [4]) (by kernel_rfl) (by simp) ?_
    refine AllReadyH.cons rfl (fun K hK => ?_) AllReadyH.nil
    go_simp
    refine hK.out _ _ ?_ (fun hHeld => ?_)
    · exact ((Below.heap_alloc _ _ _ (heap_lt HSX.out))).trans HSX.out
    clear hK K
    (try simp only [Act.put, List.getElem_toArray, List.getElem_cons_succ, List.getElem_cons_zero]); (try simp only [List.setIfInBounds_toArray]); (try simp only [List.set_cons_succ]); (try simp only [List.set_cons_zero])
    refine wpAnyH_take (i := 5) (oi := _) (v := ?_) rfl (by kernel_rfl) (by kernel_rfl) (by kernel_rfl) (fun _ _ _ h => h) (Or.inl ⟨by rfl, ?_⟩) (by assumption) ?_
    rotate_left
    · intro w hSw
      try dsimp only at hSw
      first | (go_simp; done) | (go_simp; with_reducible rfl)
    (try simp only [Act.put, List.getElem_toArray, List.getElem_cons_succ, List.getElem_cons_zero]); (try simp only [List.setIfInBounds_toArray]); (try simp only [List.set_cons_succ]); (try simp only [List.set_cons_zero])
    clear hHeld
    refine wpAnyH_done (by kernel_rfl) ?_ _
    have HPP := hid (heap_alloc_new wx (.cells (newE c s b none) 69))
    have hbx := (Below.refl wx.heap.size wx).alloc (Nat.le_refl _) (.cells (newE c s b none) 69)
    have HFIN := hid (fun wb hh hb => new_fin (w := w) (wa := wx.alloc (.cells (newE c s b none) 69)) (wb := wb) HCO.out (HSET.out.kept hbx) (HMAP.out.kept hbx) HPP.out ⟨HLOW.out.1, HLOW.out.2.1, HLOW.out.2.2, HBX.out.size⟩ HNE.out (HBX.out.trans (hbx.mono HBX.out.size)) hh hb)
    generalize hpp : wx.heap.size = pp at *
    generalize wx.alloc (.cells (newE c s b none) 69) = wa at *
    clear hbx hpp
    go_wp2_with (go_at_call 37; (with_reducible refine (hnew_any _).mono ?_); rintro e wb ⟨rfl, hh, hb⟩; have hcell : wb.cell? ⟨pp, 9, none⟩ = some (.pointer none) := row_cell ((hb.block _ (heap_lt HPP.out)).trans HPP.out) 9 _ rfl; have hfr : wb.frozen? ⟨pp, 9, none⟩ = false := free_row ((hb.block _ (heap_lt HPP.out)).trans HPP.out) 9; have HF2 := hid (HFIN.out wb hh hb); clear hh hb)
    go_ret2
    exact ⟨_, rfl, HF2.out⟩
  · go_simp
    have hbq := (Below.refl W1.heap.size W1).alloc (Nat.le_refl _) (.map #[] 0)
    refine hK.out _ _ ?_ (fun hHeld => ?_)
    · exact (hbq.block _ (heap_lt HK3.out)).trans HK3.out
    clear hK K
    (try simp only [Act.put, List.getElem_toArray, List.getElem_cons_succ, List.getElem_cons_zero]); (try simp only [List.setIfInBounds_toArray]); (try simp only [List.set_cons_succ]); (try simp only [List.set_cons_zero])
    refine wpAnyH_ready (rs := [1]) (by kernel_rfl) (by simp) ?_
    refine AllReadyH.cons rfl (fun K hK => ?_) AllReadyH.nil
    go_simp
    refine (HNS.out (W1.alloc (.map #[] 0))).mono ?_
    rintro e wx ⟨s, sb, rfl, h4, l1, l2, hb4⟩
    have hbq2 := hbq.trans (hb4.mono hbq.size)
    refine hK.out _ _ ?_ (fun hHeld => ?_)
    · exact (hbq2.block _ (heap_lt HK3.out)).trans HK3.out
    clear hK K
    (try simp only [Act.put, List.getElem_toArray, List.getElem_cons_succ, List.getElem_cons_zero]); (try simp only [List.setIfInBounds_toArray]); (try simp only [List.set_cons_succ]); (try simp only [List.set_cons_zero])
    obtain ⟨b, hb⟩ : ∃ b, b = W1.heap.size := ⟨_, rfl⟩
    rw [← hb]
    have hW := HB3.out.size
    rw [alloc_size] at l1 l2
    have HSET := hid h4
    have HMAP := hid (show MapIs wtV wx b [] by rw [hb]; exact (MapIs.new W1).kept hb4)
    have HLOW := hid (show w.heap.size ≤ s ∧ w.heap.size ≤ sb ∧ w.heap.size ≤ b by omega)
    have HNE := hid (show b ≠ sb by omega)
    have HBX := hid (HB3.out.trans (hbq2.mono hW))
    have HSX := hid ((hbq2.block _ (heap_lt HK3.out)).trans HK3.out)
    clear h4 hbq hbq2 hb4 l1 l2 hW hb
    refine wpAnyH_take (i := 3) (oi := _) (v := (.agg (newE c s b none))) rfl (by kernel_rfl) (by kernel_rfl) (by kernel_rfl) (fun _ _ _ h => h) (Or.inl ⟨by rfl, ?_⟩) (by assumption) ?_
    · intro w hSw
      refine exec_build _ _ rfl ?_
      simp only [List.map_toArray, List.map_cons, List.map_nil]
      exact build_new c s b w
    (try simp only [Act.put, List.getElem_toArray, List.getElem_cons_succ, List.getElem_cons_zero]); (try simp only [List.setIfInBounds_toArray]); (try simp only [List.set_cons_succ]); (try simp only [List.set_cons_zero])
    refine wpAnyH_ready (rs := [4]) (by kernel_rfl) (by simp) ?_
    refine AllReadyH.cons rfl (fun K hK => ?_) AllReadyH.nil
    go_simp
    refine hK.out _ _ ?_ (fun hHeld => ?_)
    · exact ((Below.heap_alloc _ _ _ (heap_lt HSX.out))).trans HSX.out
    clear hK K
    (try simp only [Act.put, List.getElem_toArray, List.getElem_cons_succ, List.getElem_cons_zero]); (try simp only [List.setIfInBounds_toArray]); (try simp only [List.set_cons_succ]); (try simp only [List.set_cons_zero])
    refine wpAnyH_take (i := 5) (oi := _) (v := ?_) rfl (by kernel_rfl) (by kernel_rfl) (by kernel_rfl) (fun _ _ _ h => h) (Or.inl ⟨by rfl, ?_⟩) (by assumption) ?_
    rotate_left
    · intro w hSw
      try dsimp only at hSw
      first | (go_simp; done) | (go_simp; with_reducible rfl)
    (try simp only [Act.put, List.getElem_toArray, List.getElem_cons_succ, List.getElem_cons_zero]); (try simp only [List.setIfInBounds_toArray]); (try simp only [List.set_cons_succ]); (try simp only [List.set_cons_zero])
    clear hHeld
    refine wpAnyH_done (by kernel_rfl) ?_ _
    have HPP := hid (heap_alloc_new wx (.cells (newE c s b none) 69))
    have hbx := (Below.refl wx.heap.size wx).alloc (Nat.le_refl _) (.cells (newE c s b none) 69)
    have HFIN := hid (fun wb hh hb => new_fin (w := w) (wa := wx.alloc (.cells (newE c s b none) 69)) (wb := wb) HCO.out (HSET.out.kept hbx) (HMAP.out.kept hbx) HPP.out ⟨HLOW.out.1, HLOW.out.2.1, HLOW.out.2.2, HBX.out.size⟩ HNE.out (HBX.out.trans (hbx.mono HBX.out.size)) hh hb)
    generalize hpp : wx.heap.size = pp at *
    generalize wx.alloc (.cells (newE c s b none) 69) = wa at *
    clear hbx hpp
    go_wp2_with (go_at_call 37; (with_reducible refine (hnew_any _).mono ?_); rintro e wb ⟨rfl, hh, hb⟩; have hcell : wb.cell? ⟨pp, 9, none⟩ = some (.pointer none) := row_cell ((hb.block _ (heap_lt HPP.out)).trans HPP.out) 9 _ rfl; have hfr : wb.frozen? ⟨pp, 9, none⟩ = false := free_row ((hb.block _ (heap_lt HPP.out)).trans HPP.out) 9; have HF2 := hid (HFIN.out wb hh hb); clear hh hb)
    go_ret2
    exact ⟨_, rfl, HF2.out⟩
end Go.Proofs.Ytkaalppmheikgaa
