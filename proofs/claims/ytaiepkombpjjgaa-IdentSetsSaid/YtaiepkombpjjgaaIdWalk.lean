/- The walks of layer 4's functions on single ids: Number, Of, Cmp, Next, of the program and of the reference. -/
import Derived.Test.YtaiepkombpjjgaaRows
import Derived.Test.YtaiepkombpjjgaaKit
import Derived.Test.YtaiepkombpjjgaaIdPl
import Derived.Lib.BytesEntry
namespace Go.Proofs.Ytaiepkombpjjgaa
open Go.RowKit

theorem info_id (l : List Int) (hl : B8 l) : (Try.prog.info? 23).map (·.size) = some (bys l).size := by
  rw [bys_size, hl.1]; kernel_rfl

theorem id_byte (l : List Int) (hl : B8 l) : ∀ (k : Nat), k < 8 → ∃ b : Int, 0 ≤ b ∧ b ≤ 255 ∧ num (l.take (k + 1)) = num (l.take k) * 256 + b ∧ (bys l)[k]? = some (.int .u8 b) ∧ ∀ w : World, (Instr.index 23 (.agg (bys l)) (.int .i64 k)).run Try.prog w = .ok (.int .u8 b) w :=
  fun k hk => ⟨l[k]'(by rw [hl.1]; exact hk), (hl.2 _ (List.getElem_mem _)).1, (hl.2 _ (List.getElem_mem _)).2, num_snoc l k _, by simp [bys], fun w => run_index_arr _ Try.underlying23 Try.underlying5 rfl (by kernel_rfl) (by kernel_rfl) k hk (by simp [bys]) w⟩

theorem ret_u64 {a b : Int} (h : a = b) : Ending.returned (.int .u64 a) = .returned (.int .u64 b) := by rw [h]

set_option maxRecDepth 100000 in
theorem number_any (l : List Int) (hl : B8 l) (w : World) :
    Calls Try.prog 14 #[.agg (bys l)] w fun e w' => e = .returned (.int .u64 (num l)) ∧ Below w.heap.size w w' := by
  have HI8 := hid (info_id l hl)
  have HIX := hid (id_byte l hl)
  have HB := hid hl
  clear hl
  go_enter Try.func14, Try.ntmps14
  go_wp2_with (refine wpList_load_row rfl 23 _ rfl _ rfl 23 _ _ _ (heap_alloc_new _ _) Try.underlying23 rfl HI8.out ?_)
  go_loop [2, 6] (fun n i => ∃ k : Nat, k ≤ 8 ∧ i = .int .i64 k ∧ n = .int .u64 (num (l.take k))) (fun _ i => 8 - (intOf i).toNat)
  case atStart => exact ⟨0, by omega, rfl, rfl⟩
  case round =>
    obtain ⟨k, hk, rfl, rfl⟩ := hrel
    by_cases hlt : k < 8
    · obtain ⟨b, hb0, hb1, hn, _, h1⟩ := HIX.out k hlt
      have HN := hid hn
      clear hn
      go_wp2
      go_round
      case rel => exact ⟨k + 1, by omega, by go_num, by rw [HN.out, or_byte _ _ (num_take_bd HB.out k (by omega)) ⟨hb0, hb1⟩]⟩
      case measure => simp [intOf]; omega
    · go_wp2
      go_ret
      exact ⟨ret_u64 (by rw [List.take_of_length_le (by rw [HB.out.1]; omega)]), (Below.refl _ _).alloc (Nat.le_refl _) _⟩

set_option maxRecDepth 100000 in
theorem refNumber_any (l : List Int) (hl : B8 l) (w : World) :
    Calls Try.prog 15 #[.agg (bys l)] w fun e w' => e = .returned (.int .u64 (num l)) ∧ Below w.heap.size w w' := by
  have HIX := hid (id_byte l hl)
  have HB := hid hl
  have hsz : (bys l).size = 8 := by rw [bys_size, hl.1]
  clear hl
  go_enter Try.func15, Try.ntmps15
  go_wp2
  go_loop [3, 4] (fun n i => ∃ k : Nat, k ≤ 8 ∧ i = .int .i64 k ∧ n = .int .u64 (num (l.take k))) (fun _ i => 8 - (intOf i).toNat)
  case atStart => exact ⟨0, by omega, rfl, rfl⟩
  case round =>
    obtain ⟨k, hk, rfl, rfl⟩ := hrel
    by_cases hlt : k < 8
    · obtain ⟨b, hb0, hb1, hn, hc, _⟩ := HIX.out k hlt
      have h1 := num_take_bd HB.out k (by omega)
      obtain ⟨h1, h2⟩ := h1
      have hcell : (w.alloc (.cells (bys l) 23)).cell? ⟨w.heap.size, k, none⟩ = some (.int .u8 b) := by
        rw [cell_of_row _ _ _ _ _ _ (heap_alloc_new _ _)]; exact hc
      have HN := hid hn
      clear hn
      go_wp2
      go_round
      case rel => exact ⟨k + 1, by omega, by go_num, by rw [HN.out]⟩
      case measure => simp [intOf]; omega
    · go_wp2
      go_ret
      exact ⟨ret_u64 (by rw [List.take_of_length_le (by rw [HB.out.1]; omega)]), (Below.refl _ _).alloc (Nat.le_refl _) _⟩


/-! ### Of -/
theorem bys_one (l : List Int) : ∀ v ∈ (bys l).toList, v.oneCell' = true := by
  intro v hv
  simp only [bys, List.mem_map] at hv
  obtain ⟨b, _, rfl⟩ := hv
  rfl
def zs (k : Nat) : List Int := List.replicate k 0
theorem bys_of (l : List Int) : bys l = (l.map (Value.int .u8)).toArray := rfl
theorem bys_set (l : List Int) (k : Nat) (b : Int) : (bys l).setIfInBounds k (.int .u8 b) = bys (l.set k b) := by
  simp [bys, List.map_set]
/-- The cells behind j rounds. -/
def ofJ (n : Int) (j : Nat) : List Int := zs (8 - j) ++ ofK j n
theorem ofJ_length (n : Int) (j : Nat) (h : j ≤ 8) : (ofJ n j).length = 8 := by
  simp [ofJ, zs, ofK_length]; omega
theorem ofJ_set (n : Int) (j : Nat) (h : j < 8) : (ofJ n j).set (7 - j) (n / 256 ^ j % 256) = ofJ n (j + 1) := by
  have e : 8 - j = (7 - j) + 1 := by omega
  have e2 : 8 - (j + 1) = 7 - j := by omega
  unfold ofJ zs
  rw [e, e2, List.replicate_succ', List.append_assoc, List.set_append_right _ _ (by simp)]
  simp [ofK]

set_option maxRecDepth 100000 in
theorem of_any (n : Int) (h0 : 0 ≤ n) (h1 : n < 18446744073709551616) (w : World) :
    Calls Try.prog 12 #[.int .u64 n] w fun e w' => e = .returned (.agg (bys (ofK 8 n))) ∧ Below w.heap.size w w' := by
  go_enter Try.func12, Try.ntmps12
  go_wp2
  go_loopw [0, 3] (fun m i wr => ∃ j : Nat, j ≤ 8 ∧ i = .int .i64 (7 - j) ∧ m = .int .u64 (n / 256 ^ j) ∧ wr = w.alloc (.cells (bys (ofJ n j)) 23)) (fun _ i _ => (intOf i + 1).toNat)
  case atStart => exact ⟨0, by omega, rfl, by simp, rfl⟩
  case round =>
    obtain ⟨j, hj, rfl, rfl, rfl⟩ := hrel
    have hm0 : 0 ≤ n / 256 ^ j := Int.ediv_nonneg h0 (Int.le_of_lt (pow_pos j))
    have hm1 : n / 256 ^ j < 18446744073709551616 := by have := Int.ediv_le_self (256 ^ j) h0; omega
    have HS := hid (ofJ_set n j)
    have HE : Hid (n / 256 ^ j / 256 = n / 256 ^ (j + 1)) := hid (by rw [Int.pow_succ, Int.ediv_ediv_of_nonneg (Int.le_of_lt (pow_pos j))])
    generalize n / 256 ^ j = m at *
    by_cases hlt : j < 8
    · have hlen := ofJ_length n j hj
      obtain ⟨c, hc⟩ : ∃ c, (bys (ofJ n j))[7 - j]? = some c := ⟨(bys (ofJ n j))[7 - j]'(by rw [bys_size]; omega), by simp⟩
      have hcell : (w.alloc (.cells (bys (ofJ n j)) 23)).cell? ⟨w.heap.size, 7 - j, none⟩ = some c := by
        rw [cell_of_row _ _ _ _ _ _ (heap_alloc_new _ _)]; exact hc
      have hfz : (w.alloc (.cells (bys (ofJ n j)) 23)).frozen? ⟨w.heap.size, 7 - j, none⟩ = false := frozen_of_row _ _ _ _ _ (heap_alloc_new _ _)
      go_wp2
      go_round
      case rel => exact ⟨j + 1, by omega, by go_num, by rw [HE.out], by rw [bys_set, HS.out hlt]⟩
      case measure => simp [intOf]; omega
    · have HJ : Hid ((Try.prog.info? 23).map (·.size) = some (bys (ofJ n j)).size) := hid (by rw [bys_size, ofJ_length n j hj]; kernel_rfl)
      go_wp2_with (first | (refine wpList_load_row rfl 23 _ rfl _ rfl 23 _ _ _ (heap_alloc_new _ _) Try.underlying23 rfl HJ.out ?_) | (refine wpList_store_row rfl 23 _ _ rfl _ rfl _ rfl 23 _ (heap_alloc_new _ _) rfl (bys_one _) HJ.out _ (setRow_alloc _ _ _ _) ?_))
      refine bodyPost_ret (results_cell_row rfl _ _ _ 23 _ _ _ rfl (heap_alloc_new _ _) Try.underlying23 rfl HJ.out) rfl ⟨?_, (Below.refl _ _).alloc (Nat.le_refl _) _⟩
      obtain rfl : j = 8 := by omega
      rfl


theorem heap2_new (w : World) (A : Obj) (cs : Array Value) (t : TypeId) : ((w.alloc A).alloc (.cells cs t)).heap[w.heap.size + 1]? = some (.cells cs t (0, 0)) := heap_alloc2_new _ _ _
theorem heap2_old (w : World) (cs : Array Value) (t : TypeId) (B : Obj) : ((w.alloc (.cells cs t)).alloc B).heap[w.heap.size]? = some (.cells cs t (0, 0)) := heap_alloc2_old _ _ _

set_option maxRecDepth 100000 in
theorem refOf_any (n : Int) (h0 : 0 ≤ n) (h1 : n < 18446744073709551616) (w : World) :
    Calls Try.prog 13 #[.int .u64 n] w fun e w' => e = .returned (.agg (bys (ofK 8 n))) ∧ Below w.heap.size w w' := by
  go_enter Try.func13, Try.ntmps13
  go_wp2
  go_loopw [0, 4] (fun m i wr => ∃ j : Nat, j ≤ 8 ∧ i = .int .i64 (7 - j) ∧ m = .int .u64 (n / 256 ^ j) ∧ wr = (w.alloc (.cells (bys (zs 8)) 23)).alloc (.cells (bys (ofJ n j)) 23)) (fun _ i _ => (intOf i + 1).toNat)
  case atStart => exact ⟨0, by omega, rfl, by simp, rfl⟩
  case round =>
    obtain ⟨j, hj, rfl, rfl, rfl⟩ := hrel
    have hm0 : 0 ≤ n / 256 ^ j := Int.ediv_nonneg h0 (Int.le_of_lt (pow_pos j))
    have hm1 : n / 256 ^ j < 18446744073709551616 := by have := Int.ediv_le_self (256 ^ j) h0; omega
    have HS := hid (ofJ_set n j)
    have HE : Hid (n / 256 ^ j / 256 = n / 256 ^ (j + 1)) := hid (by rw [Int.pow_succ, Int.ediv_ediv_of_nonneg (Int.le_of_lt (pow_pos j))])
    generalize n / 256 ^ j = m at *
    by_cases hlt : j < 8
    · have hlen := ofJ_length n j hj
      obtain ⟨c, hc⟩ : ∃ c, (bys (ofJ n j))[7 - j]? = some c := ⟨(bys (ofJ n j))[7 - j]'(by rw [bys_size]; omega), by simp⟩
      have hcell : ((w.alloc (.cells (bys (zs 8)) 23)).alloc (.cells (bys (ofJ n j)) 23)).cell? ⟨w.heap.size + 1, 7 - j, none⟩ = some c := by
        rw [cell_of_row _ _ _ _ _ _ (heap2_new _ _ _ _)]; exact hc
      have hfz : ((w.alloc (.cells (bys (zs 8)) 23)).alloc (.cells (bys (ofJ n j)) 23)).frozen? ⟨w.heap.size + 1, 7 - j, none⟩ = false := frozen_of_row _ _ _ _ _ (heap2_new _ _ _ _)
      clear hc hlen
      go_wp2
      go_round
      case rel => exact ⟨j + 1, by omega, by go_num, by rw [HE.out], by rw [bys_set, HS.out hlt]⟩
      case measure => simp [intOf]; omega
    · have HJ : Hid ((Try.prog.info? 23).map (·.size) = some (bys (ofJ n j)).size) := hid (by rw [bys_size, ofJ_length n j hj]; kernel_rfl)
      go_wp2_with (first | (refine wpList_load_row rfl 23 _ rfl _ rfl 23 _ _ _ (heap2_new _ _ _ _) Try.underlying23 rfl HJ.out ?_) | (refine wpList_store_row rfl 23 _ _ rfl _ rfl _ rfl 23 _ (heap2_old _ _ _ _) (by simp [bys_size, ofJ_length n j hj, zs]) (bys_one _) HJ.out _ rfl ?_))
      refine bodyPost_ret (results_cell_row rfl _ _ _ 23 _ _ _ rfl (setRow_heap _ _ _ _ _ _ (heap2_old _ _ _ _)) Try.underlying23 rfl HJ.out) rfl ⟨?_, below_setRow' (((Below.refl _ _).alloc (Nat.le_refl _) _).alloc (by simp) _) (Nat.le_refl _) _⟩
      obtain rfl : j = 8 := by omega
      rfl

/-! ### the last id, order, what comes next -/
def lastL : List Int := [255, 255, 255, 255, 255, 255, 255, 255]
theorem lastL_B8 : B8 lastL := by refine ⟨rfl, ?_⟩; decide
theorem zs_B8 : B8 (zs 8) := by refine ⟨rfl, ?_⟩; decide

theorem last_any (w : World) :
    Calls Try.prog 36 #[] w fun e w' => e = .returned (.agg (bys lastL)) ∧ Below w.heap.size w w' := by
  go_enter Try.func36, Try.ntmps36
  go_wp2
  refine bodyPost_ret (results_cell_row rfl _ _ _ 23 _ _ _ rfl (heap_alloc_new _ _) Try.underlying23 rfl (info_id lastL lastL_B8)) rfl ⟨rfl, (Below.refl _ _).alloc (Nat.le_refl _) _⟩

theorem eq_ids (l m : List Int) (hl : B8 l) (hm : B8 m) (w : World) : (Op.equalIn 10000 23 (.agg (bys l)) (.agg (bys m))).run Try.prog w = .ok (decide (l = m)) w :=
  run_equalIn_ints Try.underlying23 Try.underlying5 (by kernel_rfl) (by kernel_rfl) 9998 l m hl.1 hm.1 w


theorem bys_cell (w : World) (b : Nat) (l : List Int) (t : TypeId) (fr : Nat × Nat) (h : w.heap[b]? = some (.cells (bys l) t fr)) (j : Nat) (x : Int) (hj : l[j]? = some x) : w.cell? ((⟨b, 0, none⟩ : Addr).add j) = some (.int .u8 x) := by
  have e : (⟨b, 0, none⟩ : Addr).add j = ⟨b, j, none⟩ := by unfold Addr.add; split <;> simp_all
  rw [e, cell_of_row w b j _ t fr h]
  simp [bys, hj]

theorem run_compare8 {P : Program} (w : World) (b c n m : Nat) (l k : List Int) (t u : TypeId) (fr fr' : Nat × Nat) (hb : w.heap[b]? = some (.cells (bys l) t fr)) (hc : w.heap[c]? = some (.cells (bys k) u fr')) (hl : B8 l) (hk : B8 k) :
    (Extern.BytealgCompare.compare #[.slice (some ⟨b, 0, none⟩) 8 n, .slice (some ⟨c, 0, none⟩) 8 m]).run P w = .ok (.int .i64 (cmpN (num l) (num k))) w := by
  have h1 := Lib.run_loadBytesX (P := P) w l ⟨b, 0, none⟩ .empty (fun j x hj => bys_cell w b l t fr hb j x hj)
  have h2 := Lib.run_loadBytesX (P := P) w k ⟨c, 0, none⟩ .empty (fun j x hj => bys_cell w c k u fr' hc j x hj)
  rw [hl.1] at h1
  rw [hk.1] at h2
  have e : ∀ xs : List Int, (⟨ByteArray.empty.data ++ (Lib.bytesOf xs).toArray⟩ : ByteArray).data.toList = Lib.bytesOf xs := by
    intro xs
    show ((#[] : Array UInt8) ++ (Lib.bytesOf xs).toArray).toList = _
    simp
  change Sem.run P (do pure (goInt (Extern.BytealgCompare.cmp (← Extern.Bytes.bytesOf (.slice (some ⟨b, 0, none⟩) 8 n)) (← Extern.Bytes.bytesOf (.slice (some ⟨c, 0, none⟩) 8 m))))) w = _
  simp only [Extern.Bytes.bytesOf, Sem.run_bind, Sem.run_pure, h1, h2, Result.andThen]
  rw [Lib.cmp_eq, e, e, cmp_bytes l k (by rw [hl.1, hk.1]) hl.2 hk.2]
  rfl

set_option maxRecDepth 100000 in
theorem compare_any (w : World) (b c : Nat) (l k : List Int) (t u : TypeId) (fr fr' : Nat × Nat) (hb : w.heap[b]? = some (.cells (bys l) t fr)) (hc : w.heap[c]? = some (.cells (bys k) u fr')) (hl : B8 l) (hk : B8 k) :
    Calls Try.prog 37 #[.slice (some ⟨b, 0, none⟩) 8 8, .slice (some ⟨c, 0, none⟩) 8 8] w fun e w' => e = .returned (.int .i64 (cmpN (num l) (num k))) ∧ w' = w := by
  have H := hid (run_compare8 (P := Try.prog) w b c 8 8 l k t u fr fr' hb hc hl hk)
  clear hb hc hl hk
  go_enter Try.func37, Try.ntmps37
  go_wp2
  rw [run_callFunc_extern Try.func52 (by kernel_rfl) (by kernel_rfl) (by kernel_rfl) (e := Extern.BytealgCompare.compare) (by kernel_rfl), H.out]
  simp only [Result.andThen]
  rw [Oper.upon_value]
  go_wp2
  go_ret
  exact ⟨rfl, rfl⟩

set_option maxRecDepth 100000 in
theorem cmp_any (l k : List Int) (hl : B8 l) (hk : B8 k) (w : World) :
    Calls Try.prog 16 #[.agg (bys l), .agg (bys k)] w fun e w' => e = .returned (.int .i64 (cmpN (num l) (num k))) ∧ Below w.heap.size w w' := by
  have HL := hid (info_id l hl)
  have HK := hid (info_id k hk)
  have heq := fun w => eq_ids l k hl hk w
  have HC := hid (fun n => compare_any (((w.alloc (.cells (bys l) 23)).alloc (.cells (bys k) 23)).drewN n) w.heap.size (w.heap.size + 1) l k _ _ _ _ (heap2_old w (bys l) _ _) (heap2_new w _ (bys k) _) hl hk)
  clear hl hk
  go_enter Try.func16, Try.ntmps16
  go_wp2_with (first | (refine wpList_load_row rfl 23 _ rfl _ rfl 23 _ _ _ (heap2_old _ _ _ _) Try.underlying23 rfl HL.out ?_) | (refine wpList_load_row rfl 23 _ rfl _ rfl 23 _ _ _ (heap2_new _ _ _ _) Try.underlying23 rfl HK.out ?_))
  · rename_i h
    have e : num l = num k := by rw [h]
    go_ret
    exact ⟨by rw [e]; simp [cmpN], ((Below.refl _ _).alloc (Nat.le_refl _) _).alloc (by simp) _⟩
  · go_quiet ((go_at_call 37; exact Calls.quiet_of_same (HC.out _)))
    go_wp2
    go_ret
    exact ⟨rfl, below_drewN (((Below.refl _ _).alloc (Nat.le_refl _) _).alloc (by simp) _) _⟩


theorem below_row {W w1 : World} (hb : Below W.heap.size W w1) (b : Nat) (cs : Array Value) (t : TypeId) (fr : Nat × Nat) (h : W.heap[b]? = some (.cells cs t fr)) : w1.heap[b]? = some (.cells cs t fr) := by
  have hlt : b < W.heap.size := by
    by_cases e : b < W.heap.size
    · exact e
    · simp [Array.getElem?_eq_none (Nat.le_of_not_lt e)] at h
  rw [hb.block b hlt]; exact h

set_option maxRecDepth 100000 in
theorem refCmp_any (l k : List Int) (hl : B8 l) (hk : B8 k) (w : World) :
    Calls Try.prog 17 #[.agg (bys l), .agg (bys k)] w fun e w' => e = .returned (.int .i64 (cmpN (num l) (num k))) ∧ Below w.heap.size w w' := by
  have HL := hid (info_id l hl)
  have HK := hid (info_id k hk)
  have C1 := hid (fun w => refNumber_any l hl w)
  have C2 := hid (fun w => refNumber_any k hk w)
  clear hl hk
  go_enter Try.func17, Try.ntmps17
  go_wp2_with (refine wpList_load_row rfl 23 _ rfl _ rfl 23 _ _ _ (heap2_old _ _ _ _) Try.underlying23 rfl HL.out ?_)
  refine (C1.out _).mono ?_
  rintro e w1 ⟨rfl, hb1⟩
  have HR1 := hid (below_row hb1 _ _ _ _ (heap2_new _ _ _ _))
  have HB1 := hid hb1
  clear hb1
  go_wp2_with (refine wpList_load_row rfl 23 _ rfl _ rfl 23 _ _ _ HR1.out Try.underlying23 rfl HK.out ?_)
  refine (C2.out _).mono ?_
  rintro e w2 ⟨rfl, hb2⟩
  have HB : Hid (Below w.heap.size w w2) := hid ((((Below.refl _ _).alloc (Nat.le_refl _) _).alloc (by simp) _).trans (HB1.out.mono (by simp; omega)) |>.trans (hb2.mono (by have := HB1.out.size; simp at this; omega)))
  clear hb2 HB1 HR1
  have HC : Hid (cmpN (num l) (num k) = if num l < num k then -1 else if num l > num k then 1 else 0) := hid rfl
  by_cases h1 : num l < num k
  · go_wp2
    go_ret
    exact ⟨by rw [HC.out, if_pos h1]; rfl, HB.out⟩
  · by_cases h2 : num k < num l
    · go_wp2
      go_ret
      exact ⟨by rw [HC.out, if_neg (show ¬ num l < num k by omega), if_pos (show num l > num k by omega)]; rfl, HB.out⟩
    · go_wp2
      go_ret
      exact ⟨by rw [HC.out, if_neg (show ¬ num l < num k by omega), if_neg (show ¬ num l > num k by omega)]; rfl, HB.out⟩

/-- What comes next: of a number; none: it is the last. -/
def nextL (l : List Int) : List Int × Bool := if num l = 18446744073709551615 then (zs 8, false) else (ofK 8 (num l + 1), true)


theorem next_first (l : List Int) (h : num l = 18446744073709551615) : nextL l = (zs 8, false) := if_pos h
theorem next_other (l : List Int) (h : num l ≠ 18446744073709551615) : nextL l = (ofK 8 (num l + 1), true) := if_neg h

set_option maxRecDepth 100000 in
theorem refNext_any (l : List Int) (hl : B8 l) (w : World) :
    Calls Try.prog 11 #[.agg (bys l)] w fun e w' => e = .returned (.tuple #[.agg (bys (nextL l).1), .bool (nextL l).2]) ∧ Below w.heap.size w w' := by
  have HL := hid (info_id l hl)
  have HZ := hid (info_id (zs 8) zs_B8)
  have C1 := hid (fun w => refNumber_any l hl w)
  have C2 := hid (fun h0 h1 w => refOf_any (num l + 1) h0 h1 w)
  have HO := hid (info_id (ofK 8 (num l + 1)) (ofK_B8 _))
  have HOL := hid (ofK_B8 (num l + 1)).1
  obtain ⟨hn0, hn1⟩ := num_bd8 hl
  have N1 := hid (next_first l)
  have N2 := hid (next_other l)
  clear hl
  go_enter Try.func11, Try.ntmps11
  go_wp2_with (refine wpList_load_row rfl 23 _ rfl _ rfl 23 _ _ _ (heap2_old _ _ _ _) Try.underlying23 rfl HL.out ?_)
  refine (C1.out _).mono ?_
  rintro e w1 ⟨rfl, hb1⟩
  have HR1 := hid (below_row hb1 _ _ _ _ (heap2_new w _ (bys (zs 8)) _))
  have HB1 : Hid (Below w.heap.size w w1) := hid ((((Below.refl _ _).alloc (Nat.le_refl _) _).alloc (by simp) _).trans (hb1.mono (by simp; omega)))
  have HS1 : Hid (w.heap.size + 2 ≤ w1.heap.size) := hid (by have := hb1.size; simpa using this)
  clear hb1
  by_cases h : num l = 18446744073709551615
  · have hq : (IntKind.u64.wrap (num l + 1) == 0) = true := by rw [h]; rfl
    go_wp2_with (refine wpList_store_row rfl 23 _ _ rfl _ rfl _ rfl 23 _ HR1.out rfl (bys_one (zs 8)) HZ.out _ rfl ?_)
    refine bodyPost_ret (results_row_tmp rfl _ _ _ 23 _ _ _ rfl (setRow_heap _ _ _ _ _ _ HR1.out) Try.underlying23 rfl HZ.out) rfl ⟨?_, below_setRow' HB1.out (by omega) _⟩
    rw [N1.out h]; rfl
  · have hq : ((num l + 1) == 0) = false := by rw [beq_eq_false_iff_ne]; omega
    have h3 : num l + 1 < 18446744073709551616 := by omega
    have h4 : 0 ≤ num l + 1 := by omega
    go_wp2_with fail
    refine (C2.out h4 h3 _).mono ?_
    rintro e w2 ⟨rfl, hb2⟩
    have HR2 := hid (below_row hb2 _ _ _ _ HR1.out)
    have HB2 : Hid (Below w.heap.size w w2) := hid (HB1.out.trans (hb2.mono HB1.out.size))
    clear hb2
    go_wp2_with (refine wpList_store_row rfl 23 _ _ rfl _ rfl _ rfl 23 _ HR2.out (by rw [bys_size, bys_size, HOL.out]; rfl) (bys_one _) HO.out _ rfl ?_)
    refine bodyPost_ret (results_row_tmp rfl _ _ _ 23 _ _ _ rfl (setRow_heap _ _ _ _ _ _ HR2.out) Try.underlying23 rfl HO.out) rfl ⟨?_, below_setRow' HB2.out (by omega) _⟩
    rw [N2.out h]; rfl


theorem last_iff (l : List Int) (hl : B8 l) : decide (l = lastL) = decide (num l = 18446744073709551615) := by
  have e : num lastL = 18446744073709551615 := by decide
  by_cases h : l = lastL
  · rw [decide_eq_true h, decide_eq_true (by rw [h, e])]
  · rw [decide_eq_false h, decide_eq_false (fun h2 => h (num_inj8 hl lastL_B8 (by rw [h2, e])))]

set_option maxRecDepth 100000 in
theorem next_any (l : List Int) (hl : B8 l) (w : World) :
    Calls Try.prog 10 #[.agg (bys l)] w fun e w' => e = .returned (.tuple #[.agg (bys (nextL l).1), .bool (nextL l).2]) ∧ Below w.heap.size w w' := by
  have HL := hid (info_id l hl)
  have HZ := hid (info_id (zs 8) zs_B8)
  have C0 := hid (fun w => last_any w)
  have C1 := hid (fun w => number_any l hl w)
  have C2 := hid (fun h0 h1 w => of_any (num l + 1) h0 h1 w)
  have HO := hid (info_id (ofK 8 (num l + 1)) (ofK_B8 _))
  have HOL := hid (ofK_B8 (num l + 1)).1
  have heq : ∀ w, (Op.equalIn 10000 23 (.agg (bys l)) (.agg (bys lastL))).run Try.prog w = .ok (decide (num l = 18446744073709551615)) w := fun w => by rw [eq_ids l lastL hl lastL_B8 w, last_iff l hl]
  obtain ⟨hn0, hn1⟩ := num_bd8 hl
  have N1 := hid (next_first l)
  have N2 := hid (next_other l)
  clear hl
  go_enter Try.func10, Try.ntmps10
  go_wp2
  refine wp_region_bw (by kernel_rfl) (by kernel_rfl) ?_
  (go_big_quiet_want; refine quiet_load_row 23 _ rfl _ rfl _ _ _ _ (heap2_old _ _ _ _) Try.underlying23 rfl (HL.out) ?_; simp only [Act.put, List.setIfInBounds_toArray, List.set_cons_zero, List.set_cons_succ]; go_big_quiet_on)
  (go_big_quiet_want; go_big_quiet_op; go_big_quiet_call ((go_at_call 36; exact Calls.bw (C0.out _))))
  (go_big_quiet_step (fail))
  refine wpQuiet_nil ?_; rintro w' ⟨X, rfl⟩
  have HR1 := hid (below_row X.2 _ _ _ _ (heap2_new _ _ _ _))
  have HR0 := hid (below_row X.2 _ _ _ _ (heap2_old _ _ _ _))
  have HB1 : Hid (Below w.heap.size w X.1) := hid ((((Below.refl _ _).alloc (Nat.le_refl _) _).alloc (by simp) _).trans (X.2.mono (by simp; omega)))
  have HS1 : Hid (w.heap.size + 2 ≤ X.1.heap.size) := hid (by have := X.2.size; simpa using this)
  generalize X.1 = w1 at *
  clear X
  by_cases h : num l = 18446744073709551615
  · go_wp2_with (refine wpList_store_row rfl 23 _ _ rfl _ rfl _ rfl 23 _ HR1.out rfl (bys_one (zs 8)) HZ.out _ rfl ?_)
    refine bodyPost_ret (results_row_tmp rfl _ _ _ 23 _ _ _ rfl (setRow_heap _ _ _ _ _ _ HR1.out) Try.underlying23 rfl HZ.out) rfl ⟨?_, below_setRow' HB1.out (by omega) _⟩
    rw [N1.out h]; rfl
  · have h3 : num l + 1 < 18446744073709551616 := by omega
    have h4 : 0 ≤ num l + 1 := by omega
    go_wp2_with (refine wpList_load_w rfl 23 _ rfl _ rfl _ _ _ _ (HR0.out) Try.underlying23 rfl (HL.out) ?_)
    refine (C1.out _).mono ?_
    rintro e w2 ⟨rfl, hb2⟩
    have HR2 := hid (below_row hb2 _ _ _ _ HR1.out)
    have HB2 : Hid (Below w.heap.size w w2) := hid (HB1.out.trans (hb2.mono HB1.out.size))
    clear hb2
    go_wp2_with fail
    refine (C2.out h4 h3 _).mono ?_
    rintro e w3 ⟨rfl, hb3⟩
    have HR3 := hid (below_row hb3 _ _ _ _ HR2.out)
    have HB3 : Hid (Below w.heap.size w w3) := hid (HB2.out.trans (hb3.mono HB2.out.size))
    clear hb3
    go_wp2_with (refine wpList_store_row rfl 23 _ _ rfl _ rfl _ rfl 23 _ HR3.out (by rw [bys_size, HOL.out]; rfl) (bys_one _) HO.out _ rfl ?_)
    refine bodyPost_ret (results_row_tmp rfl _ _ _ 23 _ _ _ rfl (setRow_heap _ _ _ _ _ _ HR3.out) Try.underlying23 rfl HO.out) rfl ⟨?_, below_setRow' HB3.out (by omega) _⟩
    rw [N2.out h]; rfl

end Go.Proofs.Ytaiepkombpjjgaa
