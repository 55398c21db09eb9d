/- Copies of lists of IDs: the mark, Twin.., Same.., Left... -/
import Derived.Test.YtkaalppmheikgaaTwB
import Derived.Test.YtkaalppmheikgaaIdC
import Derived.Test.YtkaalppmheikgaaSrt
import Derived.Deep.QuietTactic
namespace Go.Proofs.Ytkaalppmheikgaa
open Go.RowKit

def idE (x : Id8) : Array Value := bys x.1
theorem idE_size (x : Id8) : (idE x).size = 8 := by unfold idE; rw [bys_size, x.2.1]
theorem idE_ones (x : Id8) : ∀ v ∈ (idE x).toList, v.oneCell' = true := bys_one x.1
theorem idE_info (x : Id8) : (Try.prog.info? 31).map (·.size) = some (idE x).size := by rw [idE_size]; kernel_rfl
def idZ : Id8 := ⟨zs 8, zs_B8⟩
def idM : Id8 := ⟨[0, 97, 30, 0, 0, 0, 0, 119], by unfold B8; decide⟩
theorem idE_table : (Try.prog.info? 31).map (fun i => (i.zero, i.size, i.bytes)) = some (some (.agg (idE idZ)), 8, 8) := by kernel_rfl
theorem idE_eq (x y : Id8) (w : World) : (Op.equalIn 10000 31 (.agg (idE x)) (.agg (idE y))).run Try.prog w = .ok (decide (x = y)) w := by
  have h := eq_ids x.1 y.1 x.2 y.2 w
  rw [show decide (x = y) = decide (x.1 = y.1) by rw [decide_eq_decide]; exact Subtype.ext_iff]
  exact h
theorem idE_all (x : Id8) : (idE x).all (·.oneCell') = true := Array.all_eq_true_iff_forall_mem.2 (fun v hv => idE_ones x v (by simpa using hv))
set_option maxRecDepth 100000 in
set_option maxHeartbeats 2000000 in
theorem sameIDs_any (a b : List Id8) (A B : Option Addr) (ca cb : Nat) (la : a.length ≤ 4611686018427387904) (_ : b.length ≤ 4611686018427387904) (w : World) (ha : RowsAt 8 idE w A a) (hb : RowsAt 8 idE w B b) :
    Calls Try.prog 22 #[.slice A a.length ca, .slice B b.length cb] w fun e w' => e = .returned (.bool (decide (a = b))) ∧ Below w.heap.size w w' := by
  have HA := hid ha
  have HB := hid hb
  clear ha hb
  go_enter Try.func22, Try.ntmps22
  by_cases hl : a.length = b.length
  · have g1 : ((a.length : Int) != (b.length : Int)) = false := by simp [hl]
    have g2 : (a.length != b.length) = false := by simp [hl]
    have HL := hid hl
    clear hl
    go_wp2
    clear g1 g2
    go_loopw [5] (fun i wr => ∃ k : Nat, k ≤ a.length ∧ i = .int .i64 k ∧ Hid (a.take k = b.take k) ∧ Hid (Below w.heap.size w wr)) (fun i _ => a.length - (intOf i).toNat)
    case atStart => exact ⟨0, by omega, rfl, hid rfl, hid (Below.refl _ _)⟩
    case round =>
      obtain ⟨k, hk, rfl, HE, HM⟩ := hrel
      by_cases hlt : k < a.length
      · have hki : (k : Int) < (a.length : Int) := by omega
        obtain ⟨x, hx⟩ : ∃ x, a[k]? = some x := ⟨a[k], by simp [hlt]⟩
        have hkb : k < b.length := by rw [← HL.out]; exact hlt
        have hkbi : (k : Int) < (b.length : Int) := by omega
        obtain ⟨y, hy⟩ : ∃ y, b[k]? = some y := ⟨b[k], by simp [hkb]⟩
        obtain ⟨ga, oa, rfl, hga, hcx⟩ := (HA.out.kept HM.out).get hx
        obtain ⟨gb, ob, rfl, hgb, hcy⟩ := (HB.out.kept HM.out).get hy
        have HCX : Hid (CellsAt wr ga (oa + k * 8) (idE x)) := hid (by rw [Nat.mul_comm]; exact hcx)
        have HCY : Hid (CellsAt wr gb (ob + k * 8) (idE y)) := hid (by rw [Nat.mul_comm]; exact hcy)
        have HGA := hid hga
        have HGB := hid hgb
        have heq := fun w => idE_eq x y w
        have HX := hid hx
        have HY := hid hy
        clear hx hy hcx hcy hga hgb
        by_cases he : x = y
        · have HE2 : Hid (a.take (k + 1) = b.take (k + 1)) := hid (by
            obtain ⟨h1, h2⟩ := List.getElem?_eq_some_iff.1 HX.out
            obtain ⟨h3, h4⟩ := List.getElem?_eq_some_iff.1 HY.out
            rw [List.take_succ_eq_append_getElem h1, List.take_succ_eq_append_getElem h3, HE.out, h2, h4, he])
          have hd : decide (x = y) = true := decide_eq_true he
          rw [hd] at heq
          clear he hd
          go_wp2
          refine wp_region_bw (by kernel_rfl) (by kernel_rfl) ?_
          iterate 3 (first | go_big_quiet_step (fail) | (go_big_quiet_want; go_simp; go_big_quiet_on))
          (go_big_quiet_want; refine quiet_load_cells 31 _ rfl _ _ rfl _ _ (HCX.out) (HGA.out) Try.underlying31 rfl (idE_info x) ?_; simp only [Act.put, List.setIfInBounds_toArray, List.set_cons_zero, List.set_cons_succ]; go_big_quiet_on)
          iterate 3 (first | go_big_quiet_step (fail) | (go_big_quiet_want; go_simp; go_big_quiet_on))
          (go_big_quiet_want; refine quiet_load_cells 31 _ rfl _ _ rfl _ _ (HCY.out) (HGB.out) Try.underlying31 rfl (idE_info y) ?_; simp only [Act.put, List.setIfInBounds_toArray, List.set_cons_zero, List.set_cons_succ]; go_big_quiet_on)
          iterate 1 (first | go_big_quiet_step (fail) | (go_big_quiet_want; go_simp; go_big_quiet_on))
          refine wpQuiet_nil ?_; rintro w' ⟨X, rfl⟩
          go_wp2
          refine ⟨⟨k + 1, by omega, by go_num, HE2, hid (HM.out.trans (X.2.mono HM.out.size))⟩, ?_⟩
          simp [intOf]; omega
        · have HN : Hid (decide (a = b) = false) := hid (by
            refine decide_eq_false fun e => he ?_
            have h1 := HX.out
            have h2 := HY.out
            rw [e] at h1
            rw [h1] at h2
            exact Option.some.inj h2)
          have hd : decide (x = y) = false := decide_eq_false he
          rw [hd] at heq
          clear he hd
          go_wp2
          refine wp_region_bw (by kernel_rfl) (by kernel_rfl) ?_
          iterate 3 (first | go_big_quiet_step (fail) | (go_big_quiet_want; go_simp; go_big_quiet_on))
          (go_big_quiet_want; refine quiet_load_cells 31 _ rfl _ _ rfl _ _ (HCX.out) (HGA.out) Try.underlying31 rfl (idE_info x) ?_; simp only [Act.put, List.setIfInBounds_toArray, List.set_cons_zero, List.set_cons_succ]; go_big_quiet_on)
          iterate 3 (first | go_big_quiet_step (fail) | (go_big_quiet_want; go_simp; go_big_quiet_on))
          (go_big_quiet_want; refine quiet_load_cells 31 _ rfl _ _ rfl _ _ (HCY.out) (HGB.out) Try.underlying31 rfl (idE_info y) ?_; simp only [Act.put, List.setIfInBounds_toArray, List.set_cons_zero, List.set_cons_succ]; go_big_quiet_on)
          iterate 1 (first | go_big_quiet_step (fail) | (go_big_quiet_want; go_simp; go_big_quiet_on))
          refine wpQuiet_nil ?_; rintro w' ⟨X, rfl⟩
          go_wp2
          go_ret
          exact ⟨by rw [HN.out]; rfl, HM.out.trans (X.2.mono HM.out.size)⟩
      · have HE3 : Hid (decide (a = b) = true) := hid (by
          have h1 : a.take k = a := List.take_of_length_le (by omega)
          have h2 : b.take k = b := List.take_of_length_le (by have := HL.out; omega)
          have h3 := HE.out
          rw [h1, h2] at h3
          exact decide_eq_true h3)
        go_wp2
        go_ret
        exact ⟨by rw [HE3.out]; rfl, HM.out⟩
  · have HN : Hid (decide (a = b) = false) := hid (decide_eq_false fun e => hl (by rw [e]))
    have g1 : ((a.length : Int) != (b.length : Int)) = true := by simp; omega
    have g2 : (a.length != b.length) = true := by simp; omega
    clear hl
    go_wp2
    go_ret
    exact ⟨by rw [HN.out]; rfl, Below.refl _ _⟩
end Go.Proofs.Ytkaalppmheikgaa
