/- slices.SortFunc of those that wait, by their numbers. -/
import Derived.Test.YtkaalppmheikgaaRdSt
import Derived.Test.YtkaalppmheikgaaSrtK
import Derived.Shelf.Lay
import Derived.Ground.SlsfProg
namespace Go.Proofs.Ytkaalppmheikgaa
open Go.RowKit Go.Shelf Go.Lib Go.Sort

shelf_lay_g SlLaysF0.n6 Slsf 6 at Try 26 as sortWtLay

set_option maxRecDepth 100000 in
theorem cmpW_any (x y : Wt) (hx : 0 ≤ x.num ∧ x.num ≤ 4611686018427387904) (hy : 0 ≤ y.num ∧ y.num ≤ 4611686018427387904) (w : World) :
    Calls Try.prog 27 #[.agg (wtE x), .agg (wtE y)] w fun e w' => e = .returned (.int .i64 (x.num - y.num)) ∧ ∃ q os', w' = grow (w.drewN q) os' := by
  have h1 : ((w.alloc (.cells (wtE x) 48)).alloc (.cells (wtE y) 48)).cell? ⟨w.heap.size, 17, none⟩ = some (.int .i64 x.num) := row_cell (heap2_old _ _ _ _) 17 _ (wtE_get x).2.2
  have h2 : ((w.alloc (.cells (wtE x) 48)).alloc (.cells (wtE y) 48)).cell? ⟨w.heap.size + 1, 17, none⟩ = some (.int .i64 y.num) := row_cell (heap2_new _ _ _ _) 17 _ (wtE_get y).2.2
  have hw := IntWalk.i64_in (x.num - y.num) (by omega)
  clear hx hy
  go_enter Try.func27, Try.ntmps27
  go_wp2
  go_ret
  exact ⟨rfl, 0, _, by rw [alloc_eq_grow, alloc_eq_grow, grow_grow]; rfl⟩
section
variable {L : List Wt}
def encW (x : { x : Wt // x ∈ L }) : List Value := (wtE x.1).toList
theorem encW_len (x : { x : Wt // x ∈ L }) : (encW x).length = 18 := by unfold encW; rw [Array.length_toList, wtE_size]
def cfW (x y : { x : Wt // x ∈ L }) : Int := x.1.num - y.1.num
theorem lt_cfW (x y : { x : Wt // x ∈ L }) : ltOf cfW x y = decide (x.1.num < y.1.num) := by
  unfold ltOf cfW
  by_cases h1 : x.1.num < y.1.num
  · simp [h1]; omega
  · simp [h1]; omega
theorem swoW : SWO (ltOf (cfW (L := L))) where
  irrefl x := by rw [lt_cfW]; simp
  trans x y z h1 h2 := by rw [lt_cfW] at *; simp at *; omega
  ntrans x y z h1 h2 := by rw [lt_cfW] at *; simp at *; omega
theorem totW (hn : (L.map Wt.num).Nodup) (x y : { x : Wt // x ∈ L }) (h1 : ltOf cfW x y = false) (h2 : ltOf cfW y x = false) : x = y := by
  rw [lt_cfW] at h1 h2
  simp at h1 h2
  exact Subtype.ext (inj_of_nodup hn x.2 y.2 (by omega))
theorem flW_att (l : List { x : Wt // x ∈ L }) : l.flatMap encW = fl wtE (l.map Subtype.val) := by
  unfold fl
  rw [List.flatMap_map]; rfl
theorem sortW_map (l : List { x : Wt // x ∈ L }) : (l.mergeSort fun x y => !(ltOf cfW) y x).map Subtype.val = (l.map Subtype.val).mergeSort fun a b => decide (a.num ≤ b.num) := by
  rw [List.map_mergeSort]
  intro a _ b _
  rw [lt_cfW]
  by_cases h : a.1.num ≤ b.1.num
  · simp [h, Int.not_lt.2 h]
  · simp [h, Int.not_le.1 h]
end
/-- **slices.SortFunc(l, by Number).** -/
theorem sortWts_any (L : List Wt) (hB : ∀ x ∈ L, 0 ≤ x.num ∧ x.num ≤ 4611686018427387904) (hnd : (L.map Wt.num).Nodup) (hlen : L.length < 4611686018427387904) {base n : Nat} {v : Value} {e : TypeId} (hn : n = L.length) (w : World) (ho : w.ownsRow base e 18 v n (fl wtE L)) :
    Calls Try.prog 26 #[v, .func (.func 27) #[] #[]] w fun e' w' => e' = .returned (.tuple #[]) ∧ w'.ownsRow base e 18 v n (fl wtE (L.mergeSort fun a b => decide (a.num ≤ b.num))) ∧ Kp (fun b => v.ownBlock = some b) w w' := by
  subst hn
  have eg : ∀ args w, (callFunc 27 args).run Try.prog w = .ok (.enter 27 args) w := enters_of Try.func27 (by kernel_rfl) rfl
  by_cases h0 : L.length = 0
  · have hS : L = [] := List.eq_nil_of_length_eq_zero h0
    subst hS
    obtain ⟨a, cap, rfl⟩ := ownsRow_shape ho
    have hcon := AnyF.slices_SortFunc_none sortWtLay a cap (.func (.func 27) #[] #[]) w
    change Calls Try.prog 26 _ _ _ at hcon
    refine hcon.mono ?_
    rintro e' w' ⟨rfl, rfl⟩
    exact ⟨rfl, by simpa using ho, Kp.refl _ _⟩
  · obtain ⟨g, cap, rfl⟩ := ownsRow_form' ho (by omega)
    have hal : L.attach.length = L.length := List.length_attach
    have hat : L.attach.map Subtype.val = L := List.attach_map_subtype_val L
    have hf : fl wtE L = L.attach.flatMap encW := by rw [flW_att, hat]
    rw [hf] at ho
    have hg : g < w.heap.size := ownsRow_lt ho rfl
    haveI : Inhabited { x : Wt // x ∈ L } := ⟨⟨L[0]'(by omega), List.getElem_mem _⟩⟩
    have hcmp : ∀ blk off size w, CmpLays Try.prog 27 #[] (encW (L := L)) 18 cfW blk off size w := fun _ _ _ _ _ _ _ _ x y => by
      have h := cmpW_any x.1 y.1 (hB x.1 x.2) (hB y.1 y.2)
      exact h _
    have hcon := AnyQ.slices_SortFunc_total sortWtLay 18 Try.isAgg48 Try.sizeOf48 encW encW_len (fun x v hv => wtE_ones x.1 v hv) cfW swoW 27 #[] g 0 cap L.attach.toArray w eg (hcmp _ _ _ _) (holdsK_of_own encW_len ho) hg (by simpa [hal] using hlen) (totW hnd)
    change Calls Try.prog 26 _ _ _ at hcon
    rw [List.size_toArray, hal] at hcon
    refine hcon.mono ?_
    rintro e' w' ⟨rfl, n, os, rfl⟩
    refine ⟨rfl, ?_, (kp_sortedK _).mono fun b _ hb => by have : b = g := hb; rw [this]; rfl⟩
    have h1 := own_sortedK (m := n) (os := os) encW_len ho (ts := L.attach.mergeSort fun x y => !(ltOf cfW) y x) (by simp)
    rw [flW_att, sortW_map, hat] at h1
    exact h1
end Go.Proofs.Ytkaalppmheikgaa
