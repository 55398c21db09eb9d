/- counts: how often an id stands in a list. -/
import Derived.Test.YtkaalppmheikgaaSmID
import Derived.Test.YtkaalppmheikgaaQx
namespace Go.Proofs.Ytkaalppmheikgaa
open Go.RowKit

def cnt (x : Id8) (l : List Id8) : Nat := l.countP fun y => decide (y = x)
theorem cnt_succ (x : Id8) {l : List Id8} {k : Nat} {y : Id8} (h : l[k]? = some y) : cnt x (l.take (k + 1)) = cnt x (l.take k) + if y = x then 1 else 0 := by
  obtain ⟨hk, rfl⟩ := List.getElem?_eq_some_iff.1 h
  unfold cnt
  rw [List.take_succ_eq_append_getElem hk, List.countP_append]
  by_cases he : l[k] = x <;> simp [he]
theorem cnt_le (x : Id8) (l : List Id8) : cnt x l ≤ l.length := List.countP_le_length
theorem cnt_pos {x : Id8} {l : List Id8} : 0 < cnt x l ↔ x ∈ l := by
  unfold cnt
  rw [List.countP_pos_iff]
  constructor
  · rintro ⟨y, h1, h2⟩; simp at h2; exact h2 ▸ h1
  · intro h; exact ⟨x, h, by simp⟩
theorem cnt_one {x : Id8} {l : List Id8} (hn : l.Nodup) (h : x ∈ l) : cnt x l = 1 := by
  induction l with
  | nil => cases h
  | cons a l ih =>
    rw [List.nodup_cons] at hn
    unfold cnt at *
    rw [List.countP_cons]
    by_cases he : a = x
    · subst he
      have h0 : ¬ 0 < cnt a l := fun e => hn.1 (cnt_pos.1 e)
      unfold cnt at h0
      rw [show List.countP (fun y => decide (y = a)) l = 0 by omega]; simp
    · have hx : x ∈ l := by
        rcases List.mem_cons.1 h with h | h
        · exact absurd h.symm he
        · exact h
      rw [ih hn.2 hx]; simp [he]

set_option maxRecDepth 100000 in
set_option maxHeartbeats 2000000 in
theorem count_any (l : List Id8) (a : Option Addr) (cap : Nat) (x : Id8) (hl : l.length ≤ 1152921504606846976) (w : World) (hr : RowsAt 8 idE w a l) :
    Calls Try.prog 42 #[.slice a l.length cap, .agg (idE x)] w fun e w' => e = .returned (.int .i64 (cnt x l)) ∧ Below w.heap.size w w' := by
  have HR := hid hr
  clear hr
  go_enter Try.func42, Try.ntmps42
  go_wp2_with fail
  go_loopw [5, 6] (fun n i wr => ∃ k c : Nat, k ≤ l.length ∧ i = .int .i64 k ∧ n = .int .i64 c ∧ c ≤ k ∧ Hid (cnt x (l.take k) = c) ∧ Hid (wr.heap[w.heap.size]? = some (.cells (idE x) 31 (0, 0))) ∧ Hid (Below w.heap.size w wr)) (fun _ i _ => l.length - (intOf i).toNat)
  case atStart => exact ⟨0, 0, by omega, rfl, rfl, by omega, hid (by simp [cnt]), hid (heap_alloc_new _ _), hid ((Below.refl _ _).alloc (Nat.le_refl _) _)⟩
  case round =>
    obtain ⟨k, c, hk, rfl, rfl, hck, HC, HX, HB⟩ := hrel
    by_cases hlt : k < l.length
    · have hki : (k : Int) < (l.length : Int) := by omega
      obtain ⟨y, hy⟩ : ∃ y, l[k]? = some y := ⟨l[k], by simp [hlt]⟩
      obtain ⟨ga, oa, rfl, hga, hcc⟩ := (HR.out.kept HB.out).get hy
      have HCC : Hid (CellsAt wr ga (oa + k * 8) (idE y)) := hid (by rw [Nat.mul_comm]; exact hcc)
      have HGA := hid hga
      have HGX := hid (heap_lt HX.out)
      have HCX : Hid (CellsAt wr w.heap.size 0 (idE x)) := hid (fun j v hj => by rw [Nat.zero_add]; exact row_cell HX.out _ _ hj)
      have heq := fun w => idE_eq y x w
      have HS := hid (cnt_succ x hy)
      clear hy hcc hga
      by_cases he : y = x
      · have hd : decide (y = x) = true := decide_eq_true he
        rw [hd] at heq
        have HS2 : Hid (cnt x (l.take (k + 1)) = c + 1) := hid (by rw [HS.out, HC.out, if_pos he])
        clear he hd
        go_wp2
        refine wp_region_bw (by kernel_rfl) (by kernel_rfl) ?_
        iterate 3 (first | go_big_quiet_step (fail) | (go_big_quiet_want; go_simp; go_big_quiet_on))
        (go_big_quiet_want; refine quiet_load_cells 31 _ rfl _ _ rfl _ _ (HCC.out) (HGA.out) Try.underlying31 rfl (idE_info y) ?_; simp only [Act.put, List.setIfInBounds_toArray, List.set_cons_zero, List.set_cons_succ]; go_big_quiet_on)
        (go_big_quiet_want; refine quiet_load_cells 31 _ rfl _ _ rfl _ _ (HCX.out) (HGX.out) Try.underlying31 rfl (idE_info x) ?_; simp only [Act.put, List.setIfInBounds_toArray, List.set_cons_zero, List.set_cons_succ]; go_big_quiet_on)
        iterate 1 (first | go_big_quiet_step (fail) | (go_big_quiet_want; go_simp; go_big_quiet_on))
        refine wpQuiet_nil ?_; rintro w' ⟨X, rfl⟩
        go_wp2
        refine ⟨⟨k + 1, c + 1, by omega, by go_num, by go_num, by omega, HS2, hid (below_keep X.2 HX.out), hid (HB.out.trans (X.2.mono HB.out.size))⟩, ?_⟩
        simp [intOf]; omega
      · have hd : decide (y = x) = false := decide_eq_false he
        rw [hd] at heq
        have HS2 : Hid (cnt x (l.take (k + 1)) = c) := hid (by rw [HS.out, HC.out, if_neg he, Nat.add_zero])
        clear he hd
        go_wp2
        refine wp_region_bw (by kernel_rfl) (by kernel_rfl) ?_
        iterate 3 (first | go_big_quiet_step (fail) | (go_big_quiet_want; go_simp; go_big_quiet_on))
        (go_big_quiet_want; refine quiet_load_cells 31 _ rfl _ _ rfl _ _ (HCC.out) (HGA.out) Try.underlying31 rfl (idE_info y) ?_; simp only [Act.put, List.setIfInBounds_toArray, List.set_cons_zero, List.set_cons_succ]; go_big_quiet_on)
        (go_big_quiet_want; refine quiet_load_cells 31 _ rfl _ _ rfl _ _ (HCX.out) (HGX.out) Try.underlying31 rfl (idE_info x) ?_; simp only [Act.put, List.setIfInBounds_toArray, List.set_cons_zero, List.set_cons_succ]; go_big_quiet_on)
        iterate 1 (first | go_big_quiet_step (fail) | (go_big_quiet_want; go_simp; go_big_quiet_on))
        refine wpQuiet_nil ?_; rintro w' ⟨X, rfl⟩
        go_wp2
        refine ⟨⟨k + 1, c, by omega, by go_num, rfl, by omega, HS2, hid (below_keep X.2 HX.out), hid (HB.out.trans (X.2.mono HB.out.size))⟩, ?_⟩
        simp [intOf]; omega
    · have hki : ¬ ((k : Int) < (l.length : Int)) := by omega
      have HE : Hid (c = cnt x l) := hid (by rw [← HC.out, List.take_of_length_le (by omega)])
      go_wp2
      go_ret
      exact ⟨by rw [HE.out]; rfl, HB.out⟩
end Go.Proofs.Ytkaalppmheikgaa
