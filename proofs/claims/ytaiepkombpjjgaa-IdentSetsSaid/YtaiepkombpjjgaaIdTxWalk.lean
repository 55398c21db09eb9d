/- The walks of Show and Read, of the program and of the reference. -/
import Derived.Test.YtaiepkombpjjgaaIdWalk
import Derived.Test.YtaiepkombpjjgaaIdTxPl
namespace Go.Proofs.Ytaiepkombpjjgaa
open Go.RowKit

theorem ret_u8 {a b : Int} (h : a = b) : Ending.returned (.int .u8 a) = .returned (.int .u8 b) := by rw [h]

set_option maxRecDepth 100000 in
theorem digit_any (n : Int) (h0 : 0 ≤ n) (h1 : n ≤ 15) (w : World) :
    Calls Try.prog 40 #[.int .u8 n] w fun e w' => e = .returned (.int .u8 (hexC n)) ∧ w' = w := by
  have H1 : Hid (n < 10 → hexC n = 48 + n) := hid (fun h => if_pos h)
  have H2 : Hid (¬ n < 10 → hexC n = 97 + n - 10) := hid (fun h => by unfold hexC; rw [if_neg h]; omega)
  by_cases h : n < 10
  · go_enter Try.func40, Try.ntmps40
    go_wp2
    go_ret
    exact ⟨ret_u8 (H1.out h).symm, rfl⟩
  · go_enter Try.func40, Try.ntmps40
    go_wp2
    go_ret
    exact ⟨ret_u8 (H2.out (by omega)).symm, rfl⟩

/-- What value answers. -/
def valV (c : Int) : Int × Bool := match val c with | some n => (n, true) | none => (0, false)
theorem valV_1 (c : Int) (h : 48 ≤ c ∧ c ≤ 57) : valV c = (c - 48, true) := by unfold valV val; rw [if_pos h]
theorem valV_2 (c : Int) (h : 97 ≤ c ∧ c ≤ 102) : valV c = (c - 97 + 10, true) := by
  unfold valV val; rw [if_neg (by omega), if_pos h]; simp only [Prod.mk.injEq, and_true]; omega
theorem valV_3 (c : Int) (h : ¬ (48 ≤ c ∧ c ≤ 57)) (h' : ¬ (97 ≤ c ∧ c ≤ 102)) : valV c = (0, false) := by
  unfold valV val; rw [if_neg h, if_neg h']
theorem ret_val {c n : Int} {b : Bool} (h : valV c = (n, b)) : Ending.returned (.tuple #[.int .u8 n, .bool b]) = .returned (.tuple #[.int .u8 (valV c).1, .bool (valV c).2]) := by rw [h]

set_option maxRecDepth 100000 in
theorem value_any (c : Int) (h0 : 0 ≤ c) (h1 : c ≤ 255) (w : World) :
    Calls Try.prog 38 #[.int .u8 c] w fun e w' => e = .returned (.tuple #[.int .u8 (valV c).1, .bool (valV c).2]) ∧ w' = w := by
  have V1 := hid (valV_1 c)
  have V2 := hid (valV_2 c)
  have V3 := hid (valV_3 c)
  by_cases a1 : 48 ≤ c
  · by_cases a2 : c ≤ 57
    · go_enter Try.func38, Try.ntmps38
      go_wp2
      go_ret2
      exact ⟨ret_val (V1.out (by omega)), rfl⟩
    · by_cases a3 : 97 ≤ c
      · by_cases a4 : c ≤ 102
        · go_enter Try.func38, Try.ntmps38
          go_wp2
          go_ret2
          exact ⟨ret_val (V2.out (by omega)), rfl⟩
        · go_enter Try.func38, Try.ntmps38
          go_wp2
          go_ret2
          exact ⟨ret_val (V3.out (by omega) (by omega)), rfl⟩
      · go_enter Try.func38, Try.ntmps38
        go_wp2
        go_ret2
        exact ⟨ret_val (V3.out (by omega) (by omega)), rfl⟩
  · go_enter Try.func38, Try.ntmps38
    go_wp2
    go_ret2
    exact ⟨ret_val (V3.out (by omega) (by omega)), rfl⟩


/-- What the reference's digit answers. -/
def digV (c : Int) : Int := match val c with | some n => n | none => -1
theorem digV_at (j : Nat) (h : j < 16) : digV (hexC j) = j := by unfold digV; rw [val_hexC _ (by omega)]
theorem digV_none (c : Int) (h : ∀ j : Nat, j < 16 → hexC j ≠ c) : digV c = -1 := by unfold digV; rw [val_none c h]
theorem ret_i64 {a b : Int} (h : a = b) : Ending.returned (.int .i64 a) = .returned (.int .i64 b) := by rw [h]

theorem digits_at (k : Nat) (h : k < 16) (w : World) : (Instr.index 9 (.string ⟨#[48, 49, 50, 51, 52, 53, 54, 55, 56, 57, 97, 98, 99, 100, 101, 102]⟩) (.int .i64 k)).run Try.prog w = .ok (.int .u8 (hexC k)) w := by
  have : k = 0 ∨ k = 1 ∨ k = 2 ∨ k = 3 ∨ k = 4 ∨ k = 5 ∨ k = 6 ∨ k = 7 ∨ k = 8 ∨ k = 9 ∨ k = 10 ∨ k = 11 ∨ k = 12 ∨ k = 13 ∨ k = 14 ∨ k = 15 := by omega
  rcases this with rfl | rfl | rfl | rfl | rfl | rfl | rfl | rfl | rfl | rfl | rfl | rfl | rfl | rfl | rfl | rfl <;> clear h <;> (show _ = _) <;> kernel_rfl

set_option maxRecDepth 100000 in
theorem refDigit_any (c : Int) (w : World) :
    Calls Try.prog 39 #[.int .u8 c] w fun e w' => e = .returned (.int .i64 (digV c)) ∧ w' = w := by
  go_enter Try.func39, Try.ntmps39
  go_wp2
  go_loop [3] (fun i => ∃ k : Nat, k ≤ 16 ∧ i = .int .i64 k ∧ ∀ j : Nat, j < k → hexC j ≠ c) (fun i => 16 - (intOf i).toNat)
  case atStart => exact ⟨0, by omega, rfl, fun j hj => by omega⟩
  case round =>
    obtain ⟨k, hk, rfl, hne⟩ := hrel
    have HNE := hid hne
    clear hne
    by_cases hlt : k < 16
    · have hd := digits_at k hlt
      by_cases he : hexC k = c
      · have HE := hid he
        have he2 : (hexC k == c) = true := by simpa using he
        clear he
        go_wp2
        go_ret
        exact ⟨ret_i64 (by rw [← HE.out, digV_at k hlt]), rfl⟩
      · have HE : Hid (∀ j : Nat, j < k + 1 → hexC j ≠ c) := hid (fun j hj => by
          by_cases e : j = k
          · subst e; exact he
          · exact HNE.out j (by omega))
        have he2 : (hexC k == c) = false := by simpa using he
        clear he HNE
        go_wp2
        go_round
        case rel => exact ⟨k + 1, by omega, by go_num, HE.out⟩
        case measure => simp [intOf]; omega
    · go_wp2
      go_ret
      exact ⟨ret_i64 (by rw [digV_none c (fun j hj => HNE.out j (by omega))]), rfl⟩

/-! ### Show -/
theorem half_bd (b : Int) (h0 : 0 ≤ b) (h1 : b ≤ 255) : 0 ≤ b / 16 ∧ b / 16 ≤ 15 ∧ 0 ≤ b % 16 ∧ b % 16 ≤ 15 := by omega
theorem and15 (b : Int) (h0 : 0 ≤ b) (h1 : b ≤ 255) : bits .and .u8 b 15 = b % 16 := by
  obtain ⟨m, rfl⟩ := Int.eq_ofNat_of_zero_le h0
  have e : (BitVec.ofInt 8 (m : Int) &&& BitVec.ofInt 8 15).toNat = m % 16 := by
    rw [BitVec.toNat_and, BitVec.ofInt_natCast, BitVec.toNat_ofNat, Nat.mod_eq_of_lt (by omega)]
    show m &&& 15 = m % 16
    exact Nat.and_two_pow_sub_one_eq_mod m 4
  show IntKind.u8.wrap (((BitVec.ofInt 8 (m : Int) &&& BitVec.ofInt 8 15).toNat : Nat) : Int) = _
  rw [e, IntWalk.u8_in _ (by omega)]
  omega

theorem info_u8 : (Try.prog.info? 5).map (fun i => (i.zero, i.size, i.bytes)) = some (some (.int .u8 0), 1, 1) := by kernel_rfl

set_option maxRecDepth 100000 in
theorem show_any (l : List Int) (hl : B8 l) (w : World) :
    Calls Try.prog 20 #[.agg (bys l)] w fun e w' => e = .returned (.string (strOfNums (showL l))) ∧ Below w.heap.size w w' := by
  have HI8 := hid (info_id l hl)
  have HIX := hid (id_byte l hl)
  have HSN := hid (showL_snoc l)
  have HB := hid hl
  clear hl
  go_enter Try.func20, Try.ntmps20
  obtain ⟨i0, hi, hz0, hz1, hz2⟩ := info_parts info_u8
  have hmk : ∀ w : World, (Instr.makeSlice 71 (.int .i64 0) (.int .i64 16)).run Try.prog w = .ok (.slice (some ⟨w.heap.size, 0, none⟩) 0 16) (w.alloc (.cells (bys (zs 16)) 5)) := fun _ => by kernel_rfl
  go_wp2_with (refine wpList_load_w rfl 23 _ rfl _ rfl _ _ _ _ (alloc_keep (heap_alloc_new _ _) _) Try.underlying23 rfl (HI8.out) ?_)
  go_loopw [3, 5, 8] (fun v _ i wr => ∃ k : Nat, k ≤ 8 ∧ i = .int .i64 k ∧ wr.ownsRow w.heap.size 5 1 v (2 * k) ((showL (l.take k)).map (Value.int .u8)) ∧ Below w.heap.size w wr) (fun _ _ i _ => 8 - (intOf i).toNat)
  case atStart => exact ⟨0, by omega, rfl, ⟨rfl, Or.inr ⟨_, 16, _, rfl, by omega, heap2_new _ _ _ _, by omega, by decide, rfl, rfl⟩⟩, ((Below.refl _ _).alloc (Nat.le_refl _) _).alloc (by simp) _⟩
  case round =>
    obtain ⟨k, hk, rfl, hown, hbel⟩ := hrel
    have HW := hid hbel
    have HO := hid hown
    clear hbel hown
    by_cases hlt : k < 8
    · obtain ⟨b, hb0, hb1, _, _, h1⟩ := HIX.out k hlt
      obtain ⟨c1, c2, c3, c4⟩ := half_bd b hb0 hb1
      have ha := and15 b hb0 hb1
      obtain ⟨b', hb', hsn⟩ : ∃ b' : Int, b' = b ∧ showL (l.take (k + 1)) = showL (l.take k) ++ [hexC (b' / 16), hexC (b' % 16)] := by
        refine ⟨l[k]'(by rw [HB.out.1]; exact hlt), ?_, HSN.out k (by rw [HB.out.1]; exact hlt)⟩
        have := h1 w
        rw [run_index_arr _ Try.underlying23 Try.underlying5 rfl (by kernel_rfl) (by kernel_rfl) k hlt (show (bys l)[k]? = some (.int .u8 (l[k]'(by rw [HB.out.1]; exact hlt))) by simp [bys]) w] at this
        simpa using this
      rw [hb'] at hsn
      have HN := hid hsn
      clear hsn hb'
      have HBEL : Hid (Below w.heap.size w (wr.alloc (.cells #[.int .u8 (hexC (b / 16)), .int .u8 (hexC (b % 16))] 5))) := hid (HW.out.alloc HW.out.size _)
      go_wp2_with fail
      refine (digit_any _ c1 c2 _).mono ?_
      rintro e w1 ⟨rfl, rfl⟩
      go_wp2_with fail
      refine (digit_any _ c3 c4 _).mono ?_
      rintro e w1 ⟨rfl, rfl⟩
      go_wp2_with (at_builtin; refine wpList_append_own _ rfl _ _ 71 rfl w.heap.size 5 i0 (.int .u8 0) 1 1 Try.underlying71 hi hz0 hz1 hz2 rfl (by decide) _ _ _ rfl (HO.out.alloc _) ⟨w1.heap.size, 0, none⟩ 2 2 [.int .u8 (hexC (b / 16)), .int .u8 (hexC (b % 16))] rfl rfl ?c1 ?c2 ?c3 ?c4 ?c5 ?_)
      case c1 => exact cells_new _ _ _
      case c2 => simp [Value.oneCell']
      case c3 => unfold maxLen; omega
      case c4 => omega
      case c5 => exact HBEL.out.size
      intro v' w2 hown' hgrow _
      have HO2 := hid hown'
      have HW2 : Hid (Below w.heap.size w w2) := hid (HBEL.out.grown hgrow HBEL.out.size (ownsRow_block HO.out))
      clear hown' hgrow
      go_wp2
      go_roundw
      case rel => exact ⟨k + 1, by omega, by go_num, by rw [HN.out, List.map_append]; exact HO2.out, HW2.out⟩
      case measure => simp [intOf]; omega
    · obtain rfl : k = 8 := by omega
      have hL : Hid (showL (l.take 8) = showL l) := hid (by rw [List.take_of_length_le (by rw [HB.out.1]; omega)])
      obtain ⟨g, cap, hv⟩ := ownsRow_form' HO.out (by omega)
      subst hv
      have hc := run_convert_bytes_arg (P := Try.prog) wr 71 5 Try.underlying71 Try.underlying5 g 0 16 cap (showL l) (by rw [showL_length, HB.out.1]) (fun i hi16 => by
        have := HO.out.cellAt i (by omega)
        rw [Nat.zero_add, this, hL.out]
        have hlen : i < (showL l).length := by rw [showL_length, HB.out.1]; omega
        simp [List.getD, hlen]) 9 Try.underlying9
      go_wp2
      go_ret
      exact ⟨rfl, HW.out⟩


theorem digits_cut (n : Int) (h0 : 0 ≤ n) (h1 : n ≤ 15) : ByteArray.extract ⟨#[48, 49, 50, 51, 52, 53, 54, 55, 56, 57, 97, 98, 99, 100, 101, 102]⟩ n.toNat (n + 1).toNat = strOfNums [hexC n] := by
  have : n = 0 ∨ n = 1 ∨ n = 2 ∨ n = 3 ∨ n = 4 ∨ n = 5 ∨ n = 6 ∨ n = 7 ∨ n = 8 ∨ n = 9 ∨ n = 10 ∨ n = 11 ∨ n = 12 ∨ n = 13 ∨ n = 14 ∨ n = 15 := by omega
  rcases this with rfl | rfl | rfl | rfl | rfl | rfl | rfl | rfl | rfl | rfl | rfl | rfl | rfl | rfl | rfl | rfl <;> decide

theorem digits_slice (n : Int) (h0 : 0 ≤ n) (h1 : n ≤ 15) (w : World) : (Instr.slice 9 (.string ⟨#[48, 49, 50, 51, 52, 53, 54, 55, 56, 57, 97, 98, 99, 100, 101, 102]⟩) (some (.int .i64 n)) (some (.int .i64 (n + 1))) Option.none).run Try.prog w = .ok (.string (strOfNums [hexC n])) w := by
  rw [run_slice_string (P := Try.prog) _ 9 _ .i64 .i64 n (n + 1) Try.underlying9 h0 (by omega) (by show n + 1 ≤ 16; omega), digits_cut n h0 h1]

theorem id_byte2 (l : List Int) (hl : B8 l) : ∀ (k : Nat), k < 8 → ∃ b : Int, 0 ≤ b ∧ b ≤ 255 ∧ showL (l.take (k + 1)) = showL (l.take k) ++ [hexC (b / 16), hexC (b % 16)] ∧ (bys l)[k]? = some (.int .u8 b) :=
  fun k hk => ⟨l[k]'(by rw [hl.1]; exact hk), (hl.2 _ (List.getElem_mem _)).1, (hl.2 _ (List.getElem_mem _)).2, showL_snoc l k _, by simp [bys]⟩

set_option maxRecDepth 100000 in
theorem refShow_any (l : List Int) (hl : B8 l) (w : World) :
    Calls Try.prog 21 #[.agg (bys l)] w fun e w' => e = .returned (.string (strOfNums (showL l))) ∧ Below w.heap.size w w' := by
  have HIX := hid (id_byte2 l hl)
  have HB := hid hl
  have hsz : (bys l).size = 8 := by rw [bys_size, hl.1]
  clear hl
  go_enter Try.func21, Try.ntmps21
  go_wp2
  go_loopw [3, 4, 5, 6] (fun v i _ _ wr => ∃ k : Nat, k ≤ 8 ∧ i = .int .i64 k ∧ v = .string (strOfNums (showL (l.take k))) ∧ wr.heap[w.heap.size]? = some (.cells (bys l) 23 (0, 0)) ∧ Below w.heap.size w wr) (fun _ i _ _ _ => 8 - (intOf i).toNat)
  case atStart => exact ⟨0, by omega, rfl, rfl, heap_alloc_new _ _, (Below.refl _ _).alloc (Nat.le_refl _) _⟩
  case round =>
    obtain ⟨k, hk, rfl, rfl, hrow, hbel⟩ := hrel
    have HW := hid hbel
    clear hbel
    by_cases hlt : k < 8
    · obtain ⟨b, hb0, hb1, hsn, hcl⟩ := HIX.out k hlt
      obtain ⟨c1, c2, c3, c4⟩ := half_bd b hb0 hb1
      have hcell : wr.cell? ⟨w.heap.size, k, none⟩ = some (.int .u8 b) := by
        rw [cell_of_row _ _ _ _ _ _ hrow]; exact hcl
      have x1 := digits_slice _ c1 c2
      have x2 := digits_slice _ c3 c4
      have s1 : (strOfNums (showL (l.take k))).size = 2 * k := by rw [strOfNums_size, showL_length, List.length_take, HB.out.1]; omega
      have s2 : (strOfNums [hexC (b / 16)]).size = 1 := strOfNums_size _
      have s3 : (strOfNums [hexC (b % 16)]).size = 1 := strOfNums_size _
      have HR := hid hrow
      have HN := hid hsn
      clear hrow hsn hcl
      go_wp2
      refine wp_region_quiet_lit (by kernel_rfl) (by kernel_rfl) ?_
      iterate 12 (first | go_big_quiet_step (fail) | (go_big_quiet_want; go_simp; go_big_quiet_on))
      refine wpQuiet_nil ?_; rintro w' ⟨nq, rfl⟩
      go_wp2
      go_roundw
      case rel => exact ⟨k + 1, by omega, by go_num, by rw [HN.out, strOf_append, strOf_append, List.append_assoc]; rfl, HR.out, below_drewN HW.out nq⟩
      case measure => simp [intOf]; omega
    · have hL : Hid (showL (l.take k) = showL l) := hid (by rw [List.take_of_length_le (by rw [HB.out.1]; omega)])
      clear hrow
      go_wp2
      go_ret
      exact ⟨by rw [← hL.out]; rfl, HW.out⟩


/-! ### Read -/
theorem string_at (s : ByteArray) (j : Nat) (h : j < s.size) (w : World) : (Instr.index 9 (.string s) (.int .i64 j)).run Try.prog w = .ok (.int .u8 ((nums s).getD j 0)) w := by
  unfold Instr.index
  simp only [asIntOf, pure_bind, Sem.run_bind, run_underlying Try.underlying9 w, Result.andThen_ok]
  have e : (if 0 ≤ (j : Int) then s[(j : Int).toNat]? else Option.none) = some s[j] := by
    rw [if_pos (by omega), Int.toNat_natCast]; exact getElem?_pos s j h
  rw [e]
  have hj : j < s.data.size := h
  have e2 : (nums s).getD j 0 = (s[j].toNat : Int) := by
    show ((s.data.toList.map fun c => (c.toNat : Int)).getD j 0) = (s.data[j].toNat : Int)
    rw [List.getD_eq_getElem?_getD, List.getElem?_map, Array.getElem?_toList, Array.getElem?_eq_getElem hj]
    rfl
  rw [e2]
  rfl
theorem nums_bd (s : ByteArray) (j : Nat) : 0 ≤ (nums s).getD j 0 ∧ (nums s).getD j 0 ≤ 255 := by
  by_cases h : j < (nums s).length
  · have e : (nums s).getD j 0 = (nums s)[j] := by simp [List.getD, h]
    rw [e]
    have hm : ∀ b ∈ nums s, 0 ≤ b ∧ b ≤ 255 := by
      intro b hb
      simp only [nums, List.mem_map] at hb
      obtain ⟨c, _, rfl⟩ := hb
      have := c.toNat_lt
      omega
    exact hm _ (List.getElem_mem h)
  · have e : (nums s).getD j 0 = 0 := by simp [List.getD, List.getElem?_eq_none (Nat.le_of_not_lt h)]
    rw [e]; omega
theorem or4 (x y : Int) (hx : 0 ≤ x ∧ x ≤ 15) (hy : 0 ≤ y ∧ y ≤ 15) : bits .or .u8 (x * 16) y = x * 16 + y := by
  obtain ⟨m, rfl⟩ := Int.eq_ofNat_of_zero_le hx.1
  obtain ⟨c, rfl⟩ := Int.eq_ofNat_of_zero_le hy.1
  have e : (BitVec.ofInt 8 ((m : Int) * 16) ||| BitVec.ofInt 8 (c : Int)).toNat = m * 16 + c := by
    rw [BitVec.toNat_or]
    have e1 : ((m : Int) * 16) = ((m * 16 : Nat) : Int) := by omega
    rw [e1, BitVec.ofInt_natCast, BitVec.ofInt_natCast, BitVec.toNat_ofNat, BitVec.toNat_ofNat, Nat.mod_eq_of_lt (by omega), Nat.mod_eq_of_lt (by omega)]
    have : m * 16 = m <<< 4 := by rw [Nat.shiftLeft_eq]
    rw [this, ← Nat.shiftLeft_add_eq_or_of_lt (by omega : c < 2 ^ 4)]
  show IntKind.u8.wrap (((BitVec.ofInt 8 ((m : Int) * 16) ||| BitVec.ofInt 8 (c : Int)).toNat : Nat) : Int) = _
  rw [e, IntWalk.u8_in _ (by omega)]
  omega
theorem fill_set (L : List Int) (k : Nat) (b : Int) (hk : k < 8) (hl : L.length = k) : (L ++ zs (8 - k)).set k b = (L ++ [b]) ++ zs (8 - (k + 1)) := by
  have e : 8 - k = (8 - (k + 1)) + 1 := by omega
  rw [e, List.set_append_right _ _ (by omega), hl, Nat.sub_self]
  simp [zs, List.replicate_succ]
theorem valV_some {c x : Int} (h : val c = some x) : valV c = (x, true) := by unfold valV; rw [h]
theorem valV_none {c : Int} (h : val c = Option.none) : valV c = (0, false) := by unfold valV; rw [h]
theorem pr_some {s : List Int} {j : Nat} {x y : Int} (hx : val (s.getD (2 * j) 0) = some x) (hy : val (s.getD (2 * j + 1) 0) = some y) : pr s j = some (x * 16 + y) := by unfold pr; rw [hx, hy]; rfl
theorem pr_none1 {s : List Int} {j : Nat} (hx : val (s.getD (2 * j) 0) = Option.none) : pr s j = Option.none := by unfold pr; rw [hx]; rfl
theorem pr_none2 {s : List Int} {j : Nat} (hy : val (s.getD (2 * j + 1) 0) = Option.none) : pr s j = Option.none := by unfold pr; rw [hy]; cases val (s.getD (2 * j) 0) <;> rfl
theorem readK_succ {s L : List Int} {k : Nat} {b : Int} (h : readK s k = some L) (h2 : pr s k = some b) : readK s (k + 1) = some (L ++ [b]) := by simp only [readK, h, h2]; rfl

theorem ret_read {s : List Int} {l : List Int} {n : Int} (h : readRes s = (l, n)) : Ending.returned (.tuple #[.agg (bys l), .int .i64 n]) = .returned (.tuple #[.agg (bys (readRes s).1), .int .i64 (readRes s).2]) := by rw [h]

set_option maxRecDepth 100000 in
set_option maxHeartbeats 1000000 in
theorem read_any (s : ByteArray) (w : World) :
    Calls Try.prog 18 #[.string s] w fun e w' => e = .returned (.tuple #[.agg (bys (readRes (nums s)).1), .int .i64 (readRes (nums s)).2]) ∧ Below w.heap.size w w' := by
  have HZ := hid (info_id (zs 8) zs_B8)
  have HB0 : Hid (Below w.heap.size w (w.alloc (.cells (bys (zs 8)) 23))) := hid ((Below.refl _ _).alloc (Nat.le_refl _) _)
  have HLEN := hid (nums_length s)
  by_cases h16 : s.size = 16
  · have HAT := hid (fun j hj w => string_at s j hj w)
    have HBD := hid (fun j => nums_bd s j)
    go_enter Try.func18, Try.ntmps18
    go_wp2
    go_loopw [5, 6, 7, 8, 9, 14] (fun _ _ _ _ _ i wr => ∃ (k : Nat) (L : List Int), k ≤ 8 ∧ i = .int .i64 k ∧ readK (nums s) k = some L ∧ wr = (w.alloc (.cells (bys (zs 8)) 23)).alloc (.cells (bys (L ++ zs (8 - k))) 23)) (fun _ _ _ _ _ i _ => 8 - (intOf i).toNat)
    case atStart => exact ⟨0, [], by omega, rfl, rfl, rfl⟩
    case round =>
      obtain ⟨k, L, hk, rfl, hL, rfl⟩ := hrel
      have HL := hid hL
      have HLL := hid (readK_length _ _ _ hL)
      have HLB := hid (readK_bytes _ _ _ hL)
      clear hL
      have hsz : (bys (L ++ zs (8 - k))).size = 8 := by rw [bys_size, List.length_append, HLL.out]; simp [zs]; omega
      by_cases hlt : k < 8
      · have i1 : ∀ w : World, (Instr.index 9 (.string s) (.int .i64 (2 * (k : Int)))).run Try.prog w = .ok (.int .u8 ((nums s).getD (2 * k) 0)) w := fun w => by
          have := HAT.out (2 * k) (by omega) w
          simpa using this
        have i2 : ∀ w : World, (Instr.index 9 (.string s) (.int .i64 (2 * (k : Int) + 1))).run Try.prog w = .ok (.int .u8 ((nums s).getD (2 * k + 1) 0)) w := fun w => by
          have := HAT.out (2 * k + 1) (by omega) w
          simpa using this
        obtain ⟨b1, b2⟩ := HBD.out (2 * k)
        obtain ⟨b3, b4⟩ := HBD.out (2 * k + 1)
        have P1 := hid (fun x y => @pr_some (nums s) k x y)
        have P2 := hid (@pr_none1 (nums s) k)
        have P3 := hid (@pr_none2 (nums s) k)
        generalize (nums s).getD (2 * k) 0 = x1 at *
        generalize (nums s).getD (2 * k + 1) 0 = x2 at *
        go_wp2_with fail
        refine (value_any _ b1 b2 _).mono ?_
        rintro e w1 ⟨rfl, rfl⟩
        cases h1 : val x1 with
        | none =>
          rw [valV_none h1]
          have HR := hid (readRes_bad _ (readId_none _ k hlt (P2.out h1)))
          clear h1
          go_wp2_with fail
          refine (value_any _ b3 b4 _).mono ?_
          rintro e w1 ⟨rfl, rfl⟩
          go_wp2_with (refine wpList_store_row rfl 23 _ _ rfl _ rfl (bys (zs 8)) rfl 23 _ (heap2_old _ _ _ _) rfl (bys_one (zs 8)) HZ.out _ rfl ?_)
          refine bodyPost_ret (results_row_tmp rfl _ _ _ 23 _ _ _ rfl (setRow_heap _ _ _ _ _ _ (heap2_old _ _ _ _)) Try.underlying23 rfl HZ.out) rfl ⟨?_, below_setRow' (((Below.refl _ _).alloc (Nat.le_refl _) _).alloc (by simp) _) (Nat.le_refl _) _⟩
          exact ret_read HR.out
        | some v1 =>
          rw [valV_some h1]
          have q1 := (hexC_val _ _ h1).2
          cases h2 : val x2 with
          | none =>
            have HR := hid (readRes_bad _ (readId_none _ k hlt (P3.out h2)))
            clear h1
            go_wp2_with fail
            refine (value_any _ b3 b4 _).mono ?_
            rintro e w1 ⟨rfl, rfl⟩
            rw [valV_none h2]
            clear h2
            go_wp2_with (refine wpList_store_row rfl 23 _ _ rfl _ rfl (bys (zs 8)) rfl 23 _ (heap2_old _ _ _ _) rfl (bys_one (zs 8)) HZ.out _ rfl ?_)
            refine bodyPost_ret (results_row_tmp rfl _ _ _ 23 _ _ _ rfl (setRow_heap _ _ _ _ _ _ (heap2_old _ _ _ _)) Try.underlying23 rfl HZ.out) rfl ⟨?_, below_setRow' (((Below.refl _ _).alloc (Nat.le_refl _) _).alloc (by simp) _) (Nat.le_refl _) _⟩
            exact ret_read HR.out
          | some v2 =>
            have q2 := (hexC_val _ _ h2).2
            have HS := hid (readK_succ HL.out (P1.out _ _ h1 h2))
            have ho := or4 v1 v2 q1 q2
            have HF := hid (fill_set L k (v1 * 16 + v2) hlt HLL.out)
            obtain ⟨c, hc⟩ : ∃ c, (bys (L ++ zs (8 - k)))[k]? = some c := ⟨(bys (L ++ zs (8 - k)))[k]'(by omega), by simp⟩
            have hcell : ((w.alloc (.cells (bys (zs 8)) 23)).alloc (.cells (bys (L ++ zs (8 - k))) 23)).cell? ⟨w.heap.size + 1, k, none⟩ = some c := by
              rw [cell_of_row _ _ _ _ _ _ (heap2_new _ _ _ _)]; exact hc
            have hfz : ((w.alloc (.cells (bys (zs 8)) 23)).alloc (.cells (bys (L ++ zs (8 - k))) 23)).frozen? ⟨w.heap.size + 1, k, none⟩ = false := frozen_of_row _ _ _ _ _ (heap2_new _ _ _ _)
            obtain ⟨q3, q4⟩ := q1
            obtain ⟨q5, q6⟩ := q2
            clear h1 hc
            go_wp2_with fail
            refine (value_any _ b3 b4 _).mono ?_
            rintro e w1 ⟨rfl, rfl⟩
            rw [valV_some h2]
            clear h2
            go_wp2
            go_roundw
            case rel => exact ⟨k + 1, L ++ [v1 * 16 + v2], by omega, by go_num, HS.out, by rw [bys_set, HF.out]⟩
            case measure => simp [intOf]; omega
      · have e8 : Hid (L ++ zs (8 - k) = L) := hid (by obtain rfl : k = 8 := (by omega); simp [zs])
        have HK8 : Hid (readRes (nums s) = (L, 0)) := hid (readRes_good _ _ (readId_some _ _ (by rw [nums_length]; exact h16) (by obtain rfl : k = 8 := (by omega); exact HL.out)))
        have HJ : Hid ((Try.prog.info? 23).map (·.size) = some (bys (L ++ zs (8 - k))).size) := hid (by rw [hsz]; kernel_rfl)
        go_wp2_with (first | (refine wpList_load_w rfl 23 _ rfl _ rfl _ _ _ _ (heap2_new _ _ _ _) Try.underlying23 rfl (HJ.out) ?_) | (refine wpList_store_row rfl 23 _ _ rfl _ rfl _ rfl 23 _ (heap2_old _ _ _ _) (by rw [hsz]; rfl) (bys_one _) HJ.out _ rfl ?_))
        refine bodyPost_ret (results_row_tmp rfl _ _ _ 23 _ _ _ rfl (setRow_heap _ _ _ _ _ _ (heap2_old _ _ _ _)) Try.underlying23 rfl HJ.out) rfl ⟨?_, below_setRow' (((Below.refl _ _).alloc (Nat.le_refl _) _).alloc (by simp) _) (Nat.le_refl _) _⟩
        rw [e8.out]
        exact ret_read HK8.out
  · have HN : Hid (readRes (nums s) = (List.replicate 8 0, 21)) := hid (readRes_bad _ (readId_len _ (by rw [nums_length]; exact h16)))
    have hne : ((s.size : Int) != 16) = true := by rw [bne_iff_ne]; omega
    go_enter Try.func18, Try.ntmps18
    go_wp2_with (refine wpList_store_row rfl 23 _ _ rfl _ rfl (bys (zs 8)) rfl 23 _ (heap2_old _ _ _ _) rfl (bys_one (zs 8)) HZ.out _ rfl ?_)
    refine bodyPost_ret (results_row_tmp rfl _ _ _ 23 _ _ _ rfl (setRow_heap _ _ _ _ _ _ (heap2_old _ _ _ _)) Try.underlying23 rfl HZ.out) rfl ⟨?_, below_setRow' (((Below.refl _ _).alloc (Nat.le_refl _) _).alloc (by simp) _) (Nat.le_refl _) _⟩
    exact ret_read HN.out


theorem digV_yes {c x : Int} (h : val c = some x) : digV c = x := by unfold digV; rw [h]
theorem digV_no {c : Int} (h : val c = Option.none) : digV c = -1 := by unfold digV; rw [h]

set_option maxRecDepth 100000 in
set_option maxHeartbeats 1000000 in
theorem refRead_any (s : ByteArray) (w : World) :
    Calls Try.prog 19 #[.string s] w fun e w' => e = .returned (.tuple #[.agg (bys (readRes (nums s)).1), .int .i64 (readRes (nums s)).2]) ∧ Below w.heap.size w w' := by
  have HZ := hid (info_id (zs 8) zs_B8)
  have HB0 : Hid (Below w.heap.size w (w.alloc (.cells (bys (zs 8)) 23))) := hid ((Below.refl _ _).alloc (Nat.le_refl _) _)
  have HLEN := hid (nums_length s)
  by_cases h16 : s.size = 16
  · have HAT := hid (fun j hj w => string_at s j hj w)
    have HBD := hid (fun j => nums_bd s j)
    go_enter Try.func19, Try.ntmps19
    go_wp2
    go_loopw [5, 6, 7] (fun i _ _ wr => ∃ (k : Nat) (L : List Int), k ≤ 8 ∧ i = .int .i64 k ∧ readK (nums s) k = some L ∧ wr = (w.alloc (.cells (bys (zs 8)) 23)).alloc (.cells (bys (L ++ zs (8 - k))) 23)) (fun i _ _ _ => 8 - (intOf i).toNat)
    case atStart => exact ⟨0, [], by omega, rfl, rfl, rfl⟩
    case round =>
      obtain ⟨k, L, hk, rfl, hL, rfl⟩ := hrel
      have HL := hid hL
      have HLL := hid (readK_length _ _ _ hL)
      have HLB := hid (readK_bytes _ _ _ hL)
      clear hL
      have hsz : (bys (L ++ zs (8 - k))).size = 8 := by rw [bys_size, List.length_append, HLL.out]; simp [zs]; omega
      by_cases hlt : k < 8
      · have i1 : ∀ w : World, (Instr.index 9 (.string s) (.int .i64 (2 * (k : Int)))).run Try.prog w = .ok (.int .u8 ((nums s).getD (2 * k) 0)) w := fun w => by
          have := HAT.out (2 * k) (by omega) w
          simpa using this
        have i2 : ∀ w : World, (Instr.index 9 (.string s) (.int .i64 (2 * (k : Int) + 1))).run Try.prog w = .ok (.int .u8 ((nums s).getD (2 * k + 1) 0)) w := fun w => by
          have := HAT.out (2 * k + 1) (by omega) w
          simpa using this
        obtain ⟨b1, b2⟩ := HBD.out (2 * k)
        obtain ⟨b3, b4⟩ := HBD.out (2 * k + 1)
        have P1 := hid (fun x y => @pr_some (nums s) k x y)
        have P2 := hid (@pr_none1 (nums s) k)
        have P3 := hid (@pr_none2 (nums s) k)
        generalize (nums s).getD (2 * k) 0 = x1 at *
        generalize (nums s).getD (2 * k + 1) 0 = x2 at *
        go_wp2_with fail
        refine (refDigit_any _ _).mono ?_
        rintro e w1 ⟨rfl, rfl⟩
        cases h1 : val x1 with
        | none =>
          rw [digV_no h1]
          have HR := hid (readRes_bad _ (readId_none _ k hlt (P2.out h1)))
          clear h1
          go_wp2_with fail
          refine (refDigit_any _ _).mono ?_
          rintro e w1 ⟨rfl, rfl⟩
          go_wp2_with (refine wpList_store_row rfl 23 _ _ rfl _ rfl (bys (zs 8)) rfl 23 _ (heap2_old _ _ _ _) rfl (bys_one (zs 8)) HZ.out _ rfl ?_)
          refine bodyPost_ret (results_row_tmp rfl _ _ _ 23 _ _ _ rfl (setRow_heap _ _ _ _ _ _ (heap2_old _ _ _ _)) Try.underlying23 rfl HZ.out) rfl ⟨?_, below_setRow' (((Below.refl _ _).alloc (Nat.le_refl _) _).alloc (by simp) _) (Nat.le_refl _) _⟩
          exact ret_read HR.out
        | some v1 =>
          rw [digV_yes h1]
          have q1 := (hexC_val _ _ h1).2
          cases h2 : val x2 with
          | none =>
            have HR := hid (readRes_bad _ (readId_none _ k hlt (P3.out h2)))
            clear h1
            go_wp2_with fail
            refine (refDigit_any _ _).mono ?_
            rintro e w1 ⟨rfl, rfl⟩
            rw [digV_no h2]
            clear h2
            go_wp2_with (refine wpList_store_row rfl 23 _ _ rfl _ rfl (bys (zs 8)) rfl 23 _ (heap2_old _ _ _ _) rfl (bys_one (zs 8)) HZ.out _ rfl ?_)
            refine bodyPost_ret (results_row_tmp rfl _ _ _ 23 _ _ _ rfl (setRow_heap _ _ _ _ _ _ (heap2_old _ _ _ _)) Try.underlying23 rfl HZ.out) rfl ⟨?_, below_setRow' (((Below.refl _ _).alloc (Nat.le_refl _) _).alloc (by simp) _) (Nat.le_refl _) _⟩
            exact ret_read HR.out
          | some v2 =>
            have q2 := (hexC_val _ _ h2).2
            have HS := hid (readK_succ HL.out (P1.out _ _ h1 h2))
            have ho : Hid (16 * v1 + v2 = v1 * 16 + v2) := hid (by omega)
            have HF := hid (fill_set L k (v1 * 16 + v2) hlt HLL.out)
            obtain ⟨c, hc⟩ : ∃ c, (bys (L ++ zs (8 - k)))[k]? = some c := ⟨(bys (L ++ zs (8 - k)))[k]'(by omega), by simp⟩
            have hcell : ((w.alloc (.cells (bys (zs 8)) 23)).alloc (.cells (bys (L ++ zs (8 - k))) 23)).cell? ⟨w.heap.size + 1, k, none⟩ = some c := by
              rw [cell_of_row _ _ _ _ _ _ (heap2_new _ _ _ _)]; exact hc
            have hfz : ((w.alloc (.cells (bys (zs 8)) 23)).alloc (.cells (bys (L ++ zs (8 - k))) 23)).frozen? ⟨w.heap.size + 1, k, none⟩ = false := frozen_of_row _ _ _ _ _ (heap2_new _ _ _ _)
            obtain ⟨q3, q4⟩ := q1
            obtain ⟨q5, q6⟩ := q2
            clear h1 hc
            go_wp2_with fail
            refine (refDigit_any _ _).mono ?_
            rintro e w1 ⟨rfl, rfl⟩
            rw [digV_yes h2]
            clear h2
            go_wp2
            go_roundw
            case rel => exact ⟨k + 1, L ++ [v1 * 16 + v2], by omega, by go_num, HS.out, by rw [ho.out, bys_set, HF.out]⟩
            case measure => simp [intOf]; omega
      · have e8 : Hid (L ++ zs (8 - k) = L) := hid (by obtain rfl : k = 8 := (by omega); simp [zs])
        have HK8 : Hid (readRes (nums s) = (L, 0)) := hid (readRes_good _ _ (readId_some _ _ (by rw [nums_length]; exact h16) (by obtain rfl : k = 8 := (by omega); exact HL.out)))
        have HJ : Hid ((Try.prog.info? 23).map (·.size) = some (bys (L ++ zs (8 - k))).size) := hid (by rw [hsz]; kernel_rfl)
        go_wp2_with (first | (refine wpList_load_w rfl 23 _ rfl _ rfl _ _ _ _ (heap2_new _ _ _ _) Try.underlying23 rfl (HJ.out) ?_) | (refine wpList_store_row rfl 23 _ _ rfl _ rfl _ rfl 23 _ (heap2_old _ _ _ _) (by rw [hsz]; rfl) (bys_one _) HJ.out _ rfl ?_))
        refine bodyPost_ret (results_row_tmp rfl _ _ _ 23 _ _ _ rfl (setRow_heap _ _ _ _ _ _ (heap2_old _ _ _ _)) Try.underlying23 rfl HJ.out) rfl ⟨?_, below_setRow' (((Below.refl _ _).alloc (Nat.le_refl _) _).alloc (by simp) _) (Nat.le_refl _) _⟩
        rw [e8.out]
        exact ret_read HK8.out
  · have HN : Hid (readRes (nums s) = (List.replicate 8 0, 21)) := hid (readRes_bad _ (readId_len _ (by rw [nums_length]; exact h16)))
    have hne : ((s.size : Int) != 16) = true := by rw [bne_iff_ne]; omega
    go_enter Try.func19, Try.ntmps19
    go_wp2_with (refine wpList_store_row rfl 23 _ _ rfl _ rfl (bys (zs 8)) rfl 23 _ (heap2_old _ _ _ _) rfl (bys_one (zs 8)) HZ.out _ rfl ?_)
    refine bodyPost_ret (results_row_tmp rfl _ _ _ 23 _ _ _ rfl (setRow_heap _ _ _ _ _ _ (heap2_old _ _ _ _)) Try.underlying23 rfl HZ.out) rfl ⟨?_, below_setRow' (((Below.refl _ _).alloc (Nat.le_refl _) _).alloc (by simp) _) (Nat.le_refl _) _⟩
    exact ret_read HN.out

end Go.Proofs.Ytaiepkombpjjgaa
