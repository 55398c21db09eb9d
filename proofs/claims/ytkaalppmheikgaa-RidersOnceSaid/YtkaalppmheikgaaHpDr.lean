/- The heap: a key dropped. -/
import Derived.Test.YtkaalppmheikgaaStl
namespace Go.Proofs.Ytkaalppmheikgaa
open Go.RowKit

theorem HpAt.look {w : World} {h b : Nat} {T : List (Id8 × Int)} {v : Value} {l : List It} {came : Int} (H : HpAt w h b T v l came) {i : Nat} {x : It} (hi : l[i]? = some x) :
    (Instr.lookup 105 (.map (some b)) (.agg (bys x.key.1)) true).run Try.prog w = .ok (.tuple #[.int .i64 i, .bool true]) w := by
  have h1 := MapIs.ok keyId Try.underlying105 H.at' x.key (z := .int .i64 0) (by kernel_rfl)
  rw [(H.ok x.key i).2 ⟨i, x, rfl, hi, rfl⟩] at h1; exact h1
/-- Behind the swap and the cut. -/
theorem HpAt.cutd {w : World} {h b : Nat} {T : List (Id8 × Int)} {g cap : Nat} {l : List It} {came : Int} {n : Nat} (hn : n = l.length) (H : HpAt w h b T (.slice (some ⟨g, 0, none⟩) n cap) l came) (hcap : n ≤ cap) {x : It} (hx : l[l.length - 1]? = some x) (ty : TypeId) :
    ∃ w', (Builtin.delete_ #[105, 31] ty #[.map (some b), .agg (bys x.key.1)]).run Try.prog (w.setCell ⟨h, 1, none⟩ (.slice (some ⟨g, 0, none⟩) (n - 1) cap)).drew = .ok (.tuple #[]) w' ∧
      HpAt w' h b (delM T x.key) (.slice (some ⟨g, 0, none⟩) (n - 1) cap) (l.take (n - 1)) came ∧ Kp (HOwn h b (.slice (some ⟨g, 0, none⟩) n cap)) w w' := by
  subst hn
  have hpos := (List.getElem?_eq_some_iff.1 hx).1
  have hhb := H.ne
  obtain ⟨hgh, hgb⟩ := H.row_ne (g := g) rfl
  have hW : MapIs numI (w.setCell ⟨h, 1, none⟩ (.slice (some ⟨g, 0, none⟩) (l.length - 1) cap)).drew b T := H.at'.same (show (w.setCell ⟨h, 1, none⟩ _).heap[b]? = _ from heap_setCell_ne hhb.symm)
  obtain ⟨w', hrun, hm, hg⟩ := MapIs.dele keyId Try.underlying105 hW x.key ty 31
  have hblk : (w.setCell ⟨h, 1, none⟩ (.slice (some ⟨g, 0, none⟩) (l.length - 1) cap)).drew.heap[h]? = some (.cells #[lessV, .slice (some ⟨g, 0, none⟩) (l.length - 1) cap, .map (some b), .int .i64 came] 107 (0, 0)) := by
    show (w.setCell ⟨h, 1, none⟩ _).heap[h]? = _
    rw [row_setCell H.blk]; rfl
  refine ⟨w', hrun, ⟨?_, hm, ?_, H.ok.cut hx⟩, (((Kp.refl _ w).setCell (.inl (.inl rfl)) 1 _).drew).grown hg fun k e => by cases e; exact .inl (.inr (.inl rfl))⟩
  · rw [hg.block h (heap_lt hblk) (fun e => hhb (by cases e; rfl))]; exact hblk
  · have h1 := H.row.cut (m := l.length - 1) (c := cap) (by omega) (by omega) (Nat.le_refl _) (fun e => by cases e)
    rw [show (fl itE l).take ((l.length - 1) * 11) = fl itE (l.take (l.length - 1)) from fl_take itE_size l (by omega)] at h1
    rw [List.length_take, Nat.min_eq_left (by omega)]
    refine h1.other fun k hk => ?_
    cases hk
    have hgl : g < (w.setCell ⟨h, 1, none⟩ (.slice (some ⟨g, 0, none⟩) (l.length - 1) cap)).drew.heap.size := by
      show g < (w.setCell ⟨h, 1, none⟩ _).heap.size
      rw [setCell_size]; exact H.row.lt rfl
    exact (hg.block g hgl (fun e => hgb (by cases e; rfl))).trans (heap_setCell_ne hgh)
set_option maxRecDepth 100000 in
set_option maxHeartbeats 8000000 in
theorem drop_any {w : World} {h b : Nat} {T : List (Id8 × Int)} {v : Value} {l : List It} {came : Int} (H : HpAt w h b T v l came) (hp : HeapOk l) {i : Nat} {x : It} (hi : l[i]? = some x) (hlen : l.length ≤ 1048576) :
    Calls Try.prog 40 #[.pointer (some ⟨h, 0, none⟩), .agg (bys x.key.1)] w fun e w' => e = .returned (.bool true) ∧ DrpAns w h b v came l x w' := by
  obtain ⟨g, cap, rfl, hcap, _⟩ := H.item hi
  have hil := (List.getElem?_eq_some_iff.1 hi).1
  obtain ⟨y, hy⟩ : ∃ y, l[l.length - 1]? = some y := ⟨l[l.length - 1]'(by omega), List.getElem?_eq_getElem _⟩
  have HB0 := hid ((Below.refl w.heap.size w).alloc (Nat.le_refl _) (.cells (bys x.key.1) 31))
  have HK0 := hid (heap_alloc_new w (.cells (bys x.key.1) 31))
  have HKI := hid (idV_info x.key)
  have HP := hid hp
  have HI := hid hi
  have HY := hid hy
  obtain ⟨n, hn⟩ : ∃ n : Nat, n = l.length := ⟨_, rfl⟩
  have HN := hid hn
  rw [← hn] at hcap hlen hil
  have HH := hid (show HpAt w h b T (.slice (some ⟨g, 0, none⟩) n cap) l came by rw [hn]; exact H)
  rw [← hn]
  clear H hp hi hy hn
  go_enter Try.func40, Try.ntmps40
  go_wp2_with fail
  obtain ⟨W1, hW1⟩ : ∃ W1, W1 = (w.alloc (.cells (bys x.key.1) 31)).drew := ⟨_, rfl⟩
  have HB1 := hid (show Below w.heap.size w W1 by rw [hW1]; exact HB0.out.drew)
  have HK1 := hid (show W1.heap[w.heap.size]? = some (.cells (bys x.key.1) 31 (0, 0)) by rw [hW1]; exact HK0.out)
  have HH1 := hid (HH.out.kept HB1.out)
  have hc2 := HH1.out.cell2
  have hlook := HH1.out.look HI.out
  have HW1 := hid hW1
  clear hW1 HB0 HK0
  refine wp_region_tail 10 (by kernel_rfl) (by kernel_rfl) W1 HW1.out ?_
  simp only [List.take_succ_cons, List.take_zero, List.drop_succ_cons, List.drop_zero]
  iterate 4 still_step
  refine still_exec rfl (exec_load 31 _ rfl _ rfl HK1.out Try.underlying31 rfl HKI.out) ?_
  simp only [Act.put, List.setIfInBounds_toArray, List.set_cons_zero, List.set_cons_succ]
  refine still_exec rfl (exec_lookup _ _ _ _ rfl rfl rfl hlook) ?_
  simp only [Act.put, List.setIfInBounds_toArray, List.set_cons_zero, List.set_cons_succ]
  iterate 4 still_step
  refine wpStill_nil ?_
  have hc1 := HH1.out.cell1
  have hwr := IntWalk.i64_in ((n : Int) - 1) (by omega)
  have HSW := hid (swap_int HH1.out HI.out HY.out (ii := i) (jj := (n : Int) - 1) rfl (by have := HN.out; omega))
  clear hlook hc2
  go_wp2_with (go_at_call 51; (with_reducible refine HSW.out.mono ?_); rintro e w3 ⟨rfl, h3, k3⟩; have HH3 := hid h3; have HK3 := hid (((Kp.refl (HOwn h b (.slice (some ⟨g, 0, none⟩) n cap)) w).below HB1.out).trans k3 (fun _ _ h => h)); have HX3 := hid ((k3.block _ (heap_lt HK1.out) (fun hk => by have := HH.out.lt hk; omega)).trans HK1.out); have hc3 := HH3.out.cell1; have hf3 : w3.frozen? ⟨h, 1, none⟩ = false := free_row HH3.out.blk 1; clear h3 k3 hc1; refine stopper ?_)
  refine hid ?_
  go_wp2_with fail
  have hn0 : n = l.length := HN.out
  obtain ⟨W5, hW5⟩ : ∃ W5, W5 = (w3.setCell ⟨h, 1, none⟩ (.slice (some ⟨g, 0, none⟩) (n - 1) cap)).drew := ⟨_, rfl⟩
  obtain ⟨w6, hrun, hH6, hK6⟩ := HH3.out.cutd (n := n) (by rw [swp_len]; exact hn0) hcap (swp_end HI.out HY.out) 0
  rw [← hW5] at hrun
  have HH6 := hid (show HpAt w6 h b (delM (putM (putM T y.key i) x.key (l.length - 1 : Nat)) x.key) (.slice (some ⟨g, 0, none⟩) (n - 1) cap) ((l.take (l.length - 1)).set i y) came by
    rw [← swp_last HI.out HY.out]
    rw [hn0] at hH6 ⊢; exact hH6)
  have HK6 := hid (HK3.out.trans hK6 (fun _ _ h => h))
  have HPM := hid (swp_drop HI.out HY.out)
  rw [swp_last HI.out HY.out] at HPM
  have hw0 : w.heap.size ≠ h := fun e => by have := HH.out.lt (k := h) (.inl rfl); omega
  have HX5 := hid (show W5.heap[w.heap.size]? = some (.cells (bys x.key.1) 31 (0, 0)) by rw [hW5]; exact (heap_setCell_ne hw0).trans HX3.out)
  have hc5 : W5.cell? ⟨h, 2, none⟩ = some (.map (some b)) := by rw [hW5]; show (w3.setCell ⟨h, 1, none⟩ _).cell? ⟨h, 2, none⟩ = _; rw [cell_of_row _ _ _ _ _ _ (by rw [row_setCell HH3.out.blk])]; rfl
  have HW5 := hid hW5
  clear hW5 hH6 hK6 hn0 hw0 hc3 hf3 hwr
  refine wp_region_tail 5 (by kernel_rfl) (by kernel_rfl) W5 HW5.out ?_
  simp only [List.take_succ_cons, List.take_zero, List.drop_succ_cons, List.drop_zero]
  iterate 4 still_step
  refine still_exec rfl (exec_load 31 _ rfl _ rfl HX5.out Try.underlying31 rfl HKI.out) ?_
  simp only [Act.put, List.setIfInBounds_toArray, List.set_cons_zero, List.set_cons_succ]
  refine wpStill_nil ?_
  have HSET : Hid (HeapOk (l.take (l.length - 1))) := hid (heap_take HP.out _)
  by_cases hlt : i < n - 1
  · have hlti : (i : Int) < (n : Int) - 1 := by omega
    have hil2 : i < ((l.take (l.length - 1)).set i y).length := by rw [List.length_set, List.length_take, ← HN.out]; omega
    have hll : ((l.take (l.length - 1)).set i y).length ≤ 1048576 := by rw [List.length_set, List.length_take, ← HN.out]; omega
    have HUP := hid (up_any HH6.out hil2 (hole_set HSET.out i y) (by omega))
    go_wp2_with (first | (go_at_call 53; (with_reducible refine HUP.out.mono ?_); rintro e w7 ⟨l', j, rfl, h7, hj, hh, hok⟩; have H7 := hid h7; have HDN := hid (down_any (l0 := l') (i := j) ⟨h7.ex, List.Perm.refl _, Kp.refl _ _⟩ hj hh hok (by rw [h7.perm.length_eq]; omega)); clear h7 hh hok)
                              | (go_at_call 52; (with_reducible refine HDN.out.mono ?_); rintro e w8 ⟨l2, rfl, h8, hp2⟩; have H8 := hid h8; have HP2 := hid hp2; clear h8 hp2))
    go_ret
    obtain ⟨T', hT⟩ := H8.out.ex
    refine ⟨rfl, T', _, l2, hT, HPM.out.trans (List.Perm.cons _ (H8.out.perm.trans H7.out.perm).symm), HP2.out, (HK6.out.trans H7.out.kp (fun _ _ q => q)).trans H8.out.kp (fun _ _ q => q), rfl⟩
  · have hlti : ¬ ((i : Int) < (n : Int) - 1) := by omega
    go_wp2_with fail
    go_ret
    have he : (l.take (l.length - 1)).set i y = l.take (l.length - 1) := by
      apply List.set_eq_of_length_le
      rw [List.length_take, ← HN.out]; omega
    refine ⟨rfl, _, _, _, HH6.out, HPM.out, ?_, HK6.out, rfl⟩
    rw [he]; exact HSET.out
end Go.Proofs.Ytkaalppmheikgaa
