/- Copies of lists of IDs: the mark, Twin.., Same.., Left... -/
import Derived.Test.YtaiepkombpjjgaaTwB
import Derived.Test.YtaiepkombpjjgaaIdWalk
import Derived.Test.YtaiepkombpjjgaaSrt
import Derived.Deep.QuietTactic
namespace Go.Proofs.Ytaiepkombpjjgaa
open Go.RowKit

def idE (x : Id8) : Array Value := bys x.1
theorem idE_size (x : Id8) : (idE x).size = 8 := by unfold idE; rw [bys_size, x.2.1]
theorem idE_ones (x : Id8) : ∀ v ∈ (idE x).toList, v.oneCell' = true := bys_one x.1
theorem idE_info (x : Id8) : (Try.prog.info? 23).map (·.size) = some (idE x).size := by rw [idE_size]; kernel_rfl
def idZ : Id8 := ⟨zs 8, zs_B8⟩
def idM : Id8 := ⟨[0, 97, 30, 0, 0, 0, 0, 119], by unfold B8; decide⟩
theorem idE_table : (Try.prog.info? 23).map (fun i => (i.zero, i.size, i.bytes)) = some (some (.agg (idE idZ)), 8, 8) := by kernel_rfl
theorem idE_eq (x y : Id8) (w : World) : (Op.equalIn 10000 23 (.agg (idE x)) (.agg (idE y))).run Try.prog w = .ok (decide (x = y)) w := by
  have h := eq_ids x.1 y.1 x.2 y.2 w
  rw [show decide (x = y) = decide (x.1 = y.1) by rw [decide_eq_decide]; exact Subtype.ext_iff]
  exact h
theorem idE_all (x : Id8) : (idE x).all (·.oneCell') = true := Array.all_eq_true_iff_forall_mem.2 (fun v hv => idE_ones x v (by simpa using hv))
set_option maxRecDepth 100000 in
set_option maxHeartbeats 1000000 in
theorem markID_any (w : World) :
    Calls Try.prog 49 #[.int .i64 7777] w fun e w' => e = .returned (.agg (idE idM)) ∧ Below w.heap.size w w' := by
  go_enter Try.func49, Try.ntmps49
  go_wp2
  refine bodyPost_ret (results_cell_row rfl _ _ _ 23 _ _ _ rfl (heap_alloc_new _ _) Try.underlying23 rfl (idE_info idM)) rfl ⟨rfl, (Below.refl _ _).alloc (Nat.le_refl _) _⟩
set_option maxRecDepth 100000 in
set_option maxHeartbeats 2000000 in
theorem twinIDs_of (m : Id8) (hm : ∀ w, Calls Try.prog 49 #[.int .i64 7777] w fun e w' => e = .returned (.agg (idE m)) ∧ Below w.heap.size w w') (l : List Id8) (a : Option Addr) (cap : Nat) (hl : l.length ≤ 1048576) (w : World) (hr : RowsAt 8 idE w a l) :
    Calls Try.prog 28 #[.slice a l.length cap] w (TwAt w 23 idE m l) := by
  have HR := hid hr
  have HM := hid hm
  clear hr hm
  obtain ⟨cs, hcs⟩ : ∃ cs, cs = (fl idE (cpTo idZ l 0)).toArray := ⟨_, rfl⟩
  have hmk : (Instr.makeSlice 52 (.int .i64 ((l.length : Int) + 1)) (.int .i64 ((l.length : Int) + 1))).run Try.prog w = .ok (.slice (some ⟨w.heap.size, 0, none⟩) (l.length + 1) (l.length + 1)) (w.alloc (.cells cs 23)) := by
    obtain ⟨i, hi, hz0, hz1, hz2⟩ := info_parts idE_table
    have h := run_make (P := Try.prog) w 52 23 i _ Try.underlying52 hi hz0 .i64 .i64 ((l.length : Int) + 1) ((l.length : Int) + 1) (by omega) (by omega) (by rw [hz2]; omega) (by omega)
    rw [h, hz1, hcs, show ((l.length : Int) + 1).toNat = l.length + 1 by omega]
    have e := made_fl idE_size (by omega) idZ (l.length + 1)
    rw [show (Value.agg (idE idZ)).cells = idE idZ from rfl, e]
    unfold cpTo
    rw [List.take_zero, List.nil_append, Nat.sub_zero]
  have HN0 : Hid (FlAt (w.alloc (.cells cs 23)) w.heap.size 23 idE (cpTo idZ l 0)) := hid (by unfold FlAt; rw [← hcs]; exact heap_alloc_new _ _)
  clear hcs
  have HB0 : Hid (Below w.heap.size w (w.alloc (.cells cs 23))) := hid ((Below.refl _ _).alloc (Nat.le_refl _) _)
  go_enter Try.func28, Try.ntmps28
  go_wp2
  clear hmk
  generalize w.alloc (.cells cs 23) = w1 at *
  go_loopw [4] (fun i wr => ∃ k : Nat, k ≤ l.length ∧ i = .int .i64 k ∧ Hid (FlAt wr w.heap.size 23 idE (cpTo idZ l k)) ∧ Hid (Below w.heap.size w wr)) (fun i _ => l.length - (intOf i).toNat)
  case atStart => exact ⟨0, by omega, rfl, HN0, HB0⟩
  case round =>
    clear HN0 HB0
    obtain ⟨k, hk, rfl, HN, HB⟩ := hrel
    by_cases hlt : k < l.length
    · obtain ⟨x, hx⟩ : ∃ x, l[k]? = some x := ⟨l[k], by simp [hlt]⟩
      obtain ⟨gg, o, rfl, hgg, hcc⟩ := (HR.out.kept HB.out).get hx
      have HC : Hid (CellsAt wr gg (o + k * 8) (idE x)) := hid (by rw [Nat.mul_comm]; exact hcc)
      have hkl : k < (cpTo idZ l k).length := by rw [cpTo_len _ l hk]; omega
      have HT : Hid (wr.there w.heap.size (k * 8) (idE x).size) := hid (by rw [idE_size]; exact HN.out.there idE_size hkl)
      have HE : Hid (FlAt (wr.setCells w.heap.size (k * 8) (idE x).toList) w.heap.size 23 idE (cpTo idZ l (k + 1))) := hid (by rw [← cpTo_set _ l hx]; exact HN.out.set idE_size hkl x)
      have HB2 : Hid (Below w.heap.size w (wr.setCells w.heap.size (k * 8) (idE x).toList)) := hid (below_setCells HB.out (Nat.le_refl _) _ _)
      clear hx hcc hgg hkl
      go_wp2_with (first | (refine wpList_load_cells rfl 23 _ rfl _ _ rfl _ _ HC.out Try.underlying23 rfl (idE_info x) ?_) | (refine wpList_store_mid rfl 23 _ _ rfl w.heap.size (k * 8) (idE x) rfl rfl HT.out (idE_info x) (idE_all x) ?_))
      go_roundw
      case rel => exact ⟨k + 1, by omega, by go_num, HE, HB2⟩
      case measure => simp [intOf]; omega
    · obtain rfl : k = l.length := by omega
      have hkl : l.length < (cpTo idZ l l.length).length := by rw [cpTo_len _ l hk]; omega
      have HFIN := hid (fun (w2 : World) (h : FlAt w2 w.heap.size 23 idE (cpTo idZ l l.length)) => And.intro (show w2.there w.heap.size (l.length * 8) (idE m).size by rw [idE_size]; exact h.there idE_size hkl) (show FlAt (w2.setCells w.heap.size (l.length * 8) (idE m).toList) w.heap.size 23 idE (l ++ [m]) by rw [← cpTo_end idZ m l]; exact h.set idE_size hkl m))
      have hl0 : l.length < l.length + 1 := by omega
      clear hkl
      go_wp2_with (first | (go_at_call 49; refine (HM.out _).mono ?_; rintro e w2 ⟨rfl, hb2⟩; have HN2 := hid (HFIN.out w2 (below_keep hb2 HN.out)); have HB2 := hid (HB.out.trans (hb2.mono HB.out.size)); clear hb2) | (refine wpList_store_mid rfl 23 _ _ rfl w.heap.size (l.length * 8) (idE m) rfl rfl HN2.out.1 (idE_info m) (idE_all m) ?_))
      go_ret
      exact ⟨_, rfl, Nat.le_refl _, HN2.out.2, below_setCells HB2.out (Nat.le_refl _) _ _⟩
theorem twinIDs_any (l : List Id8) (a : Option Addr) (cap : Nat) (hl : l.length ≤ 1048576) (w : World) (hr : RowsAt 8 idE w a l) :
    Calls Try.prog 28 #[.slice a l.length cap] w (TwAt w 23 idE idM l) := twinIDs_of idM markID_any l a cap hl w hr

set_option maxRecDepth 100000 in
set_option maxHeartbeats 2000000 in
theorem sameIDs_any (a b : List Id8) (A B : Option Addr) (ca cb : Nat) (la : a.length ≤ 4611686018427387904) (_ : b.length ≤ 4611686018427387904) (w : World) (ha : RowsAt 8 idE w A a) (hb : RowsAt 8 idE w B b) :
    Calls Try.prog 43 #[.slice A a.length ca, .slice B b.length cb] w fun e w' => e = .returned (.bool (decide (a = b))) ∧ Below w.heap.size w w' := by
  have HA := hid ha
  have HB := hid hb
  clear ha hb
  go_enter Try.func43, Try.ntmps43
  by_cases hl : a.length = b.length
  · have g1 : ((a.length : Int) != (b.length : Int)) = false := by simp [hl]
    have g2 : (a.length != b.length) = false := by simp [hl]
    have HL := hid hl
    clear hl
    go_wp2
    clear g1 g2
    go_loopw [5] (fun i wr => ∃ k : Nat, k ≤ a.length ∧ i = .int .i64 k ∧ Hid (a.take k = b.take k) ∧ Hid (Below w.heap.size w wr)) (fun i _ => a.length - (intOf i).toNat)
    case atStart => exact ⟨0, by omega, rfl, hid rfl, hid (Below.refl _ _)⟩
    case round =>
      obtain ⟨k, hk, rfl, HE, HM⟩ := hrel
      by_cases hlt : k < a.length
      · have hki : (k : Int) < (a.length : Int) := by omega
        obtain ⟨x, hx⟩ : ∃ x, a[k]? = some x := ⟨a[k], by simp [hlt]⟩
        have hkb : k < b.length := by rw [← HL.out]; exact hlt
        have hkbi : (k : Int) < (b.length : Int) := by omega
        obtain ⟨y, hy⟩ : ∃ y, b[k]? = some y := ⟨b[k], by simp [hkb]⟩
        obtain ⟨ga, oa, rfl, hga, hcx⟩ := (HA.out.kept HM.out).get hx
        obtain ⟨gb, ob, rfl, hgb, hcy⟩ := (HB.out.kept HM.out).get hy
        have HCX : Hid (CellsAt wr ga (oa + k * 8) (idE x)) := hid (by rw [Nat.mul_comm]; exact hcx)
        have HCY : Hid (CellsAt wr gb (ob + k * 8) (idE y)) := hid (by rw [Nat.mul_comm]; exact hcy)
        have HGA := hid hga
        have HGB := hid hgb
        have heq := fun w => idE_eq x y w
        have HX := hid hx
        have HY := hid hy
        clear hx hy hcx hcy hga hgb
        by_cases he : x = y
        · have HE2 : Hid (a.take (k + 1) = b.take (k + 1)) := hid (by
            obtain ⟨h1, h2⟩ := List.getElem?_eq_some_iff.1 HX.out
            obtain ⟨h3, h4⟩ := List.getElem?_eq_some_iff.1 HY.out
            rw [List.take_succ_eq_append_getElem h1, List.take_succ_eq_append_getElem h3, HE.out, h2, h4, he])
          have hd : decide (x = y) = true := decide_eq_true he
          rw [hd] at heq
          clear he hd
          go_wp2
          refine wp_region_bw (by kernel_rfl) (by kernel_rfl) ?_
          iterate 3 (first | go_big_quiet_step (fail) | (go_big_quiet_want; go_simp; go_big_quiet_on))
          (go_big_quiet_want; refine quiet_load_cells 23 _ rfl _ _ rfl _ _ (HCX.out) (HGA.out) Try.underlying23 rfl (idE_info x) ?_; simp only [Act.put, List.setIfInBounds_toArray, List.set_cons_zero, List.set_cons_succ]; go_big_quiet_on)
          iterate 3 (first | go_big_quiet_step (fail) | (go_big_quiet_want; go_simp; go_big_quiet_on))
          (go_big_quiet_want; refine quiet_load_cells 23 _ rfl _ _ rfl _ _ (HCY.out) (HGB.out) Try.underlying23 rfl (idE_info y) ?_; simp only [Act.put, List.setIfInBounds_toArray, List.set_cons_zero, List.set_cons_succ]; go_big_quiet_on)
          iterate 1 (first | go_big_quiet_step (fail) | (go_big_quiet_want; go_simp; go_big_quiet_on))
          refine wpQuiet_nil ?_; rintro w' ⟨X, rfl⟩
          go_wp2
          refine ⟨⟨k + 1, by omega, by go_num, HE2, hid (HM.out.trans (X.2.mono HM.out.size))⟩, ?_⟩
          simp [intOf]; omega
        · have HN : Hid (decide (a = b) = false) := hid (by
            refine decide_eq_false fun e => he ?_
            have h1 := HX.out
            have h2 := HY.out
            rw [e] at h1
            rw [h1] at h2
            exact Option.some.inj h2)
          have hd : decide (x = y) = false := decide_eq_false he
          rw [hd] at heq
          clear he hd
          go_wp2
          refine wp_region_bw (by kernel_rfl) (by kernel_rfl) ?_
          iterate 3 (first | go_big_quiet_step (fail) | (go_big_quiet_want; go_simp; go_big_quiet_on))
          (go_big_quiet_want; refine quiet_load_cells 23 _ rfl _ _ rfl _ _ (HCX.out) (HGA.out) Try.underlying23 rfl (idE_info x) ?_; simp only [Act.put, List.setIfInBounds_toArray, List.set_cons_zero, List.set_cons_succ]; go_big_quiet_on)
          iterate 3 (first | go_big_quiet_step (fail) | (go_big_quiet_want; go_simp; go_big_quiet_on))
          (go_big_quiet_want; refine quiet_load_cells 23 _ rfl _ _ rfl _ _ (HCY.out) (HGB.out) Try.underlying23 rfl (idE_info y) ?_; simp only [Act.put, List.setIfInBounds_toArray, List.set_cons_zero, List.set_cons_succ]; go_big_quiet_on)
          iterate 1 (first | go_big_quiet_step (fail) | (go_big_quiet_want; go_simp; go_big_quiet_on))
          refine wpQuiet_nil ?_; rintro w' ⟨X, rfl⟩
          go_wp2
          go_ret
          exact ⟨by rw [HN.out]; rfl, HM.out.trans (X.2.mono HM.out.size)⟩
      · have HE3 : Hid (decide (a = b) = true) := hid (by
          have h1 : a.take k = a := List.take_of_length_le (by omega)
          have h2 : b.take k = b := List.take_of_length_le (by have := HL.out; omega)
          have h3 := HE.out
          rw [h1, h2] at h3
          exact decide_eq_true h3)
        go_wp2
        go_ret
        exact ⟨by rw [HE3.out]; rfl, HM.out⟩
  · have HN : Hid (decide (a = b) = false) := hid (decide_eq_false fun e => hl (by rw [e]))
    have g1 : ((a.length : Int) != (b.length : Int)) = true := by simp; omega
    have g2 : (a.length != b.length) = true := by simp; omega
    clear hl
    go_wp2
    go_ret
    exact ⟨by rw [HN.out]; rfl, Below.refl _ _⟩
end Go.Proofs.Ytaiepkombpjjgaa
