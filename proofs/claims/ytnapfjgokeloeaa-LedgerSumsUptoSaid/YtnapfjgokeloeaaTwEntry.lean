/- Copies of lists of Entries: the mark, Twin.., Same.., Left... -/
import Derived.Test.YtnapfjgokeloeaaTwB
import Derived.Test.YtnapfjgokeloeaaLedQ
import Derived.Deep.QuietTactic
namespace Go.Proofs.Ytnapfjgokeloeaa
open Go.RowKit

def enZ : En := ⟨⟨zs 8, zs_B8⟩, ⟨zs 8, zs_B8⟩, 0⟩
theorem enE_tableZ : (Try.prog.info? 35).map (fun i => (i.zero, i.size, i.bytes)) = some (some (.agg (enE enZ)), 17, 24) := enE_table
def enM : En := ⟨⟨zs 8, zs_B8⟩, ⟨zs 8, zs_B8⟩, -8777⟩
set_option maxRecDepth 100000 in
theorem part_fr (x : En) (w : World) : (part 33 (enE x) 0).run Try.prog w = .ok (.agg (bys x.fr.1)) w := by
  obtain ⟨f, t, n⟩ := x
  obtain ⟨a, b, c, d, e, f1, g, h, hx⟩ := id8_list f
  obtain ⟨a', b', c', d', e', f', g', h', hy⟩ := id8_list t
  unfold enE; simp only [hx, hy]; kernel_rfl
set_option maxRecDepth 100000 in
theorem part_to (x : En) (w : World) : (part 33 (enE x) 8).run Try.prog w = .ok (.agg (bys x.to.1)) w := by
  obtain ⟨f, t, n⟩ := x
  obtain ⟨a, b, c, d, e, f1, g, h, hx⟩ := id8_list f
  obtain ⟨a', b', c', d', e', f', g', h', hy⟩ := id8_list t
  unfold enE; simp only [hx, hy]; kernel_rfl
set_option maxRecDepth 100000 in
theorem part_amt (x : En) (w : World) : (part 3 (enE x) 16).run Try.prog w = .ok (.int .i64 x.amt) w := by
  obtain ⟨f, t, n⟩ := x
  obtain ⟨a, b, c, d, e, f1, g, h, hx⟩ := id8_list f
  obtain ⟨a', b', c', d', e', f', g', h', hy⟩ := id8_list t
  unfold enE; simp only [hx, hy]; kernel_rfl
theorem enE_eq (x y : En) (w : World) : (Op.equalIn 10000 35 (.agg (enE x)) (.agg (enE y))).run Try.prog w = .ok (decide (x = y)) w := by
  have hu := Try.underlying35
  have hf : Try.prog.fieldsOf 35 = (match Try.prog.underlying 35 with | some (.struct fs) => fs | _ => #[]) := rfl
  rw [hu] at hf
  have h1 := run_equalIn_struct (P := Try.prog) w 9999 35 (enE x) (enE y) (by rw [hf]; exact hu) (by kernel_rfl)
  rw [hf] at h1
  have e1 : (Op.equalIn 9999 33 (.agg (bys x.fr.1)) (.agg (bys y.fr.1))).run Try.prog w = .ok (decide (x.fr.1 = y.fr.1)) w := run_equalIn_ints Try.underlying33 Try.underlying5 (by kernel_rfl) (by kernel_rfl) 9997 _ _ x.fr.2.1 y.fr.2.1 w
  have e2 : (Op.equalIn 9999 33 (.agg (bys x.to.1)) (.agg (bys y.to.1))).run Try.prog w = .ok (decide (x.to.1 = y.to.1)) w := run_equalIn_ints Try.underlying33 Try.underlying5 (by kernel_rfl) (by kernel_rfl) 9997 _ _ x.to.2.1 y.to.2.1 w
  have e3 : (Op.equalIn 9999 3 (.int .i64 x.amt) (.int .i64 y.amt)).run Try.prog w = .ok (x.amt == y.amt) w := run_equalIn_int w 9998 3 .i64 .i64 x.amt y.amt Try.underlying3
  have hd : decide (x = y) = (decide (x.fr.1 = y.fr.1) && decide (x.to.1 = y.to.1) && (x.amt == y.amt)) := by
    obtain ⟨f, t, n⟩ := x
    obtain ⟨f', t', n'⟩ := y
    rw [Bool.eq_iff_iff]
    simp only [decide_eq_true_eq, Bool.and_eq_true, beq_iff_eq, En.mk.injEq, Subtype.ext_iff, and_assoc]
  rw [show (10000 : Nat) = 9999 + 1 from rfl, h1, hd]
  simp only [Op.eqFields, part_fr, part_to, part_amt, Sem.run_bind, Sem.run_ite, Result.andThen_ok, e1, e2, e3, Sem.run_pure]
  generalize decide (x.fr.1 = y.fr.1) = p
  generalize decide (x.to.1 = y.to.1) = q
  generalize (x.amt == y.amt) = r
  cases p <;> cases q <;> cases r <;> rfl
theorem enE_all (x : En) : (enE x).all (·.oneCell') = true := Array.all_eq_true_iff_forall_mem.2 (fun v hv => enE_ones x v (by simpa using hv))
set_option maxRecDepth 100000 in
set_option maxHeartbeats 1000000 in
theorem markEntry_any (w : World) :
    Calls Try.prog 33 #[.int .i64 7777] w fun e w' => e = .returned (.agg (enE enM)) ∧ Below w.heap.size w w' := by
  go_enter Try.func33, Try.ntmps33
  go_wp2
  refine bodyPost_ret (results_cell_row rfl _ _ _ 35 _ _ _ rfl (heap_alloc_new _ _) Try.underlying35 rfl (enE_info enM)) rfl ⟨rfl, (Below.refl _ _).alloc (Nat.le_refl _) _⟩
set_option maxRecDepth 100000 in
set_option maxHeartbeats 2000000 in
theorem twinEntries_of (m : En) (hm : ∀ w, Calls Try.prog 33 #[.int .i64 7777] w fun e w' => e = .returned (.agg (enE m)) ∧ Below w.heap.size w w') (l : List En) (a : Option Addr) (cap : Nat) (hl : l.length ≤ 1048576) (w : World) (hr : RowsAt 17 enE w a l) :
    Calls Try.prog 20 #[.slice a l.length cap] w (TwAt w 35 enE m l) := by
  have HR := hid hr
  have HM := hid hm
  clear hr hm
  obtain ⟨cs, hcs⟩ : ∃ cs, cs = (fl enE (cpTo enZ l 0)).toArray := ⟨_, rfl⟩
  have hmk : (Instr.makeSlice 25 (.int .i64 ((l.length : Int) + 1)) (.int .i64 ((l.length : Int) + 1))).run Try.prog w = .ok (.slice (some ⟨w.heap.size, 0, none⟩) (l.length + 1) (l.length + 1)) (w.alloc (.cells cs 35)) := by
    obtain ⟨i, hi, hz0, hz1, hz2⟩ := info_parts enE_tableZ
    have h := run_make (P := Try.prog) w 25 35 i _ Try.underlying25 hi hz0 .i64 .i64 ((l.length : Int) + 1) ((l.length : Int) + 1) (by omega) (by omega) (by rw [hz2]; omega) (by omega)
    rw [h, hz1, hcs, show ((l.length : Int) + 1).toNat = l.length + 1 by omega]
    have e := made_fl enE_size (by omega) enZ (l.length + 1)
    rw [show (Value.agg (enE enZ)).cells = enE enZ from rfl, e]
    unfold cpTo
    rw [List.take_zero, List.nil_append, Nat.sub_zero]
  have HN0 : Hid (FlAt (w.alloc (.cells cs 35)) w.heap.size 35 enE (cpTo enZ l 0)) := hid (by unfold FlAt; rw [← hcs]; exact heap_alloc_new _ _)
  clear hcs
  have HB0 : Hid (Below w.heap.size w (w.alloc (.cells cs 35))) := hid ((Below.refl _ _).alloc (Nat.le_refl _) _)
  go_enter Try.func20, Try.ntmps20
  go_wp2
  clear hmk
  generalize w.alloc (.cells cs 35) = w1 at *
  go_loopw [4] (fun i wr => ∃ k : Nat, k ≤ l.length ∧ i = .int .i64 k ∧ Hid (FlAt wr w.heap.size 35 enE (cpTo enZ l k)) ∧ Hid (Below w.heap.size w wr)) (fun i _ => l.length - (intOf i).toNat)
  case atStart => exact ⟨0, by omega, rfl, HN0, HB0⟩
  case round =>
    clear HN0 HB0
    obtain ⟨k, hk, rfl, HN, HB⟩ := hrel
    by_cases hlt : k < l.length
    · obtain ⟨x, hx⟩ : ∃ x, l[k]? = some x := ⟨l[k], by simp [hlt]⟩
      obtain ⟨gg, o, rfl, hgg, hcc⟩ := (HR.out.kept HB.out).get hx
      have HC : Hid (CellsAt wr gg (o + k * 17) (enE x)) := hid (by rw [Nat.mul_comm]; exact hcc)
      have hkl : k < (cpTo enZ l k).length := by rw [cpTo_len _ l hk]; omega
      have HT : Hid (wr.there w.heap.size (k * 17) (enE x).size) := hid (by rw [enE_size]; exact HN.out.there enE_size hkl)
      have HE : Hid (FlAt (wr.setCells w.heap.size (k * 17) (enE x).toList) w.heap.size 35 enE (cpTo enZ l (k + 1))) := hid (by rw [← cpTo_set _ l hx]; exact HN.out.set enE_size hkl x)
      have HB2 : Hid (Below w.heap.size w (wr.setCells w.heap.size (k * 17) (enE x).toList)) := hid (below_setCells HB.out (Nat.le_refl _) _ _)
      clear hx hcc hgg hkl
      go_wp2_with (first | (refine wpList_load_cells rfl 35 _ rfl _ _ rfl _ _ HC.out Try.underlying35 rfl (enE_info x) ?_) | (refine wpList_store_mid rfl 35 _ _ rfl w.heap.size (k * 17) (enE x) rfl rfl HT.out (enE_info x) (enE_all x) ?_))
      go_roundw
      case rel => exact ⟨k + 1, by omega, by go_num, HE, HB2⟩
      case measure => simp [intOf]; omega
    · obtain rfl : k = l.length := by omega
      have hkl : l.length < (cpTo enZ l l.length).length := by rw [cpTo_len _ l hk]; omega
      have HFIN := hid (fun (w2 : World) (h : FlAt w2 w.heap.size 35 enE (cpTo enZ l l.length)) => And.intro (show w2.there w.heap.size (l.length * 17) (enE m).size by rw [enE_size]; exact h.there enE_size hkl) (show FlAt (w2.setCells w.heap.size (l.length * 17) (enE m).toList) w.heap.size 35 enE (l ++ [m]) by rw [← cpTo_end enZ m l]; exact h.set enE_size hkl m))
      have hl0 : l.length < l.length + 1 := by omega
      clear hkl
      go_wp2_with (first | (go_at_call 33; refine (HM.out _).mono ?_; rintro e w2 ⟨rfl, hb2⟩; have HN2 := hid (HFIN.out w2 (below_keep hb2 HN.out)); have HB2 := hid (HB.out.trans (hb2.mono HB.out.size)); clear hb2) | (refine wpList_store_mid rfl 35 _ _ rfl w.heap.size (l.length * 17) (enE m) rfl rfl HN2.out.1 (enE_info m) (enE_all m) ?_))
      go_ret
      exact ⟨_, rfl, Nat.le_refl _, HN2.out.2, below_setCells HB2.out (Nat.le_refl _) _ _⟩
theorem twinEntries_any (l : List En) (a : Option Addr) (cap : Nat) (hl : l.length ≤ 1048576) (w : World) (hr : RowsAt 17 enE w a l) :
    Calls Try.prog 20 #[.slice a l.length cap] w (TwAt w 35 enE enM l) := twinEntries_of enM markEntry_any l a cap hl w hr

set_option maxRecDepth 100000 in
set_option maxHeartbeats 2000000 in
theorem sameEntries_any (a b : List En) (A B : Option Addr) (ca cb : Nat) (la : a.length ≤ 4611686018427387904) (_ : b.length ≤ 4611686018427387904) (w : World) (ha : RowsAt 17 enE w A a) (hb : RowsAt 17 enE w B b) :
    Calls Try.prog 22 #[.slice A a.length ca, .slice B b.length cb] w fun e w' => e = .returned (.bool (decide (a = b))) ∧ Below w.heap.size w w' := by
  have HA := hid ha
  have HB := hid hb
  clear ha hb
  go_enter Try.func22, Try.ntmps22
  by_cases hl : a.length = b.length
  · have g1 : ((a.length : Int) != (b.length : Int)) = false := by simp [hl]
    have g2 : (a.length != b.length) = false := by simp [hl]
    have HL := hid hl
    clear hl
    go_wp2
    clear g1 g2
    go_loopw [5] (fun i wr => ∃ k : Nat, k ≤ a.length ∧ i = .int .i64 k ∧ Hid (a.take k = b.take k) ∧ Hid (Below w.heap.size w wr)) (fun i _ => a.length - (intOf i).toNat)
    case atStart => exact ⟨0, by omega, rfl, hid rfl, hid (Below.refl _ _)⟩
    case round =>
      obtain ⟨k, hk, rfl, HE, HM⟩ := hrel
      by_cases hlt : k < a.length
      · have hki : (k : Int) < (a.length : Int) := by omega
        obtain ⟨x, hx⟩ : ∃ x, a[k]? = some x := ⟨a[k], by simp [hlt]⟩
        have hkb : k < b.length := by rw [← HL.out]; exact hlt
        have hkbi : (k : Int) < (b.length : Int) := by omega
        obtain ⟨y, hy⟩ : ∃ y, b[k]? = some y := ⟨b[k], by simp [hkb]⟩
        obtain ⟨ga, oa, rfl, hga, hcx⟩ := (HA.out.kept HM.out).get hx
        obtain ⟨gb, ob, rfl, hgb, hcy⟩ := (HB.out.kept HM.out).get hy
        have HCX : Hid (CellsAt wr ga (oa + k * 17) (enE x)) := hid (by rw [Nat.mul_comm]; exact hcx)
        have HCY : Hid (CellsAt wr gb (ob + k * 17) (enE y)) := hid (by rw [Nat.mul_comm]; exact hcy)
        have HGA := hid hga
        have HGB := hid hgb
        have heq := fun w => enE_eq x y w
        have HX := hid hx
        have HY := hid hy
        clear hx hy hcx hcy hga hgb
        by_cases he : x = y
        · have HE2 : Hid (a.take (k + 1) = b.take (k + 1)) := hid (by
            obtain ⟨h1, h2⟩ := List.getElem?_eq_some_iff.1 HX.out
            obtain ⟨h3, h4⟩ := List.getElem?_eq_some_iff.1 HY.out
            rw [List.take_succ_eq_append_getElem h1, List.take_succ_eq_append_getElem h3, HE.out, h2, h4, he])
          have hd : decide (x = y) = true := decide_eq_true he
          rw [hd] at heq
          clear he hd
          go_wp2
          refine wp_region_bw (by kernel_rfl) (by kernel_rfl) ?_
          iterate 3 (first | go_big_quiet_step (fail) | (go_big_quiet_want; go_simp; go_big_quiet_on))
          (go_big_quiet_want; refine quiet_load_cells 35 _ rfl _ _ rfl _ _ (HCX.out) (HGA.out) Try.underlying35 rfl (enE_info x) ?_; simp only [Act.put, List.setIfInBounds_toArray, List.set_cons_zero, List.set_cons_succ]; go_big_quiet_on)
          iterate 3 (first | go_big_quiet_step (fail) | (go_big_quiet_want; go_simp; go_big_quiet_on))
          (go_big_quiet_want; refine quiet_load_cells 35 _ rfl _ _ rfl _ _ (HCY.out) (HGB.out) Try.underlying35 rfl (enE_info y) ?_; simp only [Act.put, List.setIfInBounds_toArray, List.set_cons_zero, List.set_cons_succ]; go_big_quiet_on)
          iterate 1 (first | go_big_quiet_step (fail) | (go_big_quiet_want; go_simp; go_big_quiet_on))
          refine wpQuiet_nil ?_; rintro w' ⟨X, rfl⟩
          go_wp2
          refine ⟨⟨k + 1, by omega, by go_num, HE2, hid (HM.out.trans (X.2.mono HM.out.size))⟩, ?_⟩
          simp [intOf]; omega
        · have HN : Hid (decide (a = b) = false) := hid (by
            refine decide_eq_false fun e => he ?_
            have h1 := HX.out
            have h2 := HY.out
            rw [e] at h1
            rw [h1] at h2
            exact Option.some.inj h2)
          have hd : decide (x = y) = false := decide_eq_false he
          rw [hd] at heq
          clear he hd
          go_wp2
          refine wp_region_bw (by kernel_rfl) (by kernel_rfl) ?_
          iterate 3 (first | go_big_quiet_step (fail) | (go_big_quiet_want; go_simp; go_big_quiet_on))
          (go_big_quiet_want; refine quiet_load_cells 35 _ rfl _ _ rfl _ _ (HCX.out) (HGA.out) Try.underlying35 rfl (enE_info x) ?_; simp only [Act.put, List.setIfInBounds_toArray, List.set_cons_zero, List.set_cons_succ]; go_big_quiet_on)
          iterate 3 (first | go_big_quiet_step (fail) | (go_big_quiet_want; go_simp; go_big_quiet_on))
          (go_big_quiet_want; refine quiet_load_cells 35 _ rfl _ _ rfl _ _ (HCY.out) (HGB.out) Try.underlying35 rfl (enE_info y) ?_; simp only [Act.put, List.setIfInBounds_toArray, List.set_cons_zero, List.set_cons_succ]; go_big_quiet_on)
          iterate 1 (first | go_big_quiet_step (fail) | (go_big_quiet_want; go_simp; go_big_quiet_on))
          refine wpQuiet_nil ?_; rintro w' ⟨X, rfl⟩
          go_wp2
          go_ret
          exact ⟨by rw [HN.out]; rfl, HM.out.trans (X.2.mono HM.out.size)⟩
      · have HE3 : Hid (decide (a = b) = true) := hid (by
          have h1 : a.take k = a := List.take_of_length_le (by omega)
          have h2 : b.take k = b := List.take_of_length_le (by have := HL.out; omega)
          have h3 := HE.out
          rw [h1, h2] at h3
          exact decide_eq_true h3)
        go_wp2
        go_ret
        exact ⟨by rw [HE3.out]; rfl, HM.out⟩
  · have HN : Hid (decide (a = b) = false) := hid (decide_eq_false fun e => hl (by rw [e]))
    have g1 : ((a.length : Int) != (b.length : Int)) = true := by simp; omega
    have g2 : (a.length != b.length) = true := by simp; omega
    clear hl
    go_wp2
    go_ret
    exact ⟨by rw [HN.out]; rfl, Below.refl _ _⟩
end Go.Proofs.Ytnapfjgokeloeaa
