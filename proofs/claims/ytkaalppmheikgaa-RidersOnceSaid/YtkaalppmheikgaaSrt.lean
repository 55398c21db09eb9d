/- slices.SortFunc of ids by ident.Cmp. -/
import Derived.Test.YtkaalppmheikgaaIdC
import Derived.Test.YtkaalppmheikgaaSrtK
import Derived.Shelf.Lay
import Derived.Ground.SlsfProg
namespace Go.Proofs.Ytkaalppmheikgaa
open Go.RowKit Go.Shelf Go.Lib Go.Sort

shelf_lay_g SlLaysF0.n6 Slsf 6 at Try 46 as sortIdLay

set_option maxRecDepth 100000 in
theorem cmpG_any (l k : List Int) (hl : B8 l) (hk : B8 k) (w : World) :
    Calls Try.prog 39 #[.agg (bys l), .agg (bys k)] w fun e w' => e = .returned (.int .i64 (cmpN (num l) (num k))) ∧ ∃ q os', w' = grow (w.drewN q) os' := by
  have HL := hid (info_id l hl)
  have HK := hid (info_id k hk)
  have heq := fun w => eq_ids l k hl hk w
  have HC := hid (fun n => compare_any (((w.alloc (.cells (bys l) 31)).alloc (.cells (bys k) 31)).drewN n) w.heap.size (w.heap.size + 1) l k _ _ _ _ (heap2_old w (bys l) _ _) (heap2_new w _ (bys k) _) hl hk)
  clear hl hk
  go_enter Try.func39, Try.ntmps39
  go_wp2_with (first | (refine wpList_load_row rfl 31 _ rfl _ rfl 31 _ _ _ (heap2_old _ _ _ _) Try.underlying31 rfl HL.out ?_) | (refine wpList_load_row rfl 31 _ rfl _ rfl 31 _ _ _ (heap2_new _ _ _ _) Try.underlying31 rfl HK.out ?_))
  · rename_i h
    have e : num l = num k := by rw [h]
    go_ret
    exact ⟨by rw [e]; simp [cmpN], 0, _, by rw [alloc_eq_grow, alloc_eq_grow, grow_grow]; rfl⟩
  · go_quiet ((go_at_call 50; exact Calls.quiet_of_same (HC.out _)))
    go_wp2
    go_ret
    exact ⟨rfl, _, _, by rw [alloc_eq_grow, alloc_eq_grow, grow_grow]; rfl⟩

abbrev Id8 := { l : List Int // B8 l }
instance : Inhabited Id8 := ⟨⟨zs 8, zs_B8⟩⟩
def encId (x : Id8) : List Value := (bys x.1).toList
theorem encId_len (x : Id8) : (encId x).length = 8 := by unfold encId; rw [Array.length_toList, bys_size, x.2.1]
def cfId (x y : Id8) : Int := cmpN (num x.1) (num y.1)
theorem lt_cfId (x y : Id8) : ltOf cfId x y = decide (num x.1 < num y.1) := by
  unfold ltOf cfId cmpN
  by_cases h1 : num x.1 < num y.1
  · simp [h1]
  · by_cases h2 : num x.1 > num y.1 <;> simp [h1, h2]
theorem swoId : SWO (ltOf cfId) where
  irrefl x := by rw [lt_cfId]; simp
  trans x y z h1 h2 := by rw [lt_cfId] at *; simp at *; omega
  ntrans x y z h1 h2 := by rw [lt_cfId] at *; simp at *; omega
theorem totId (x y : Id8) (h1 : ltOf cfId x y = false) (h2 : ltOf cfId y x = false) : x = y := by
  rw [lt_cfId] at h1 h2
  simp at h1 h2
  exact Subtype.ext (num_inj8 x.2 y.2 (by omega))
theorem cmpLaysId (blk off size : Nat) (w : World) : CmpLays Try.prog 39 #[] encId 8 cfId blk off size w := fun _ _ _ _ x y => by
  have h := cmpG_any x.1 y.1 x.2 y.2
  exact h _
/-- The ids' cells, one behind the other. -/
def flatB (l : List (List Int)) : List Value := l.flatMap fun x => (bys x).toList
/-- In order. -/
def sortB (l : List (List Int)) : List (List Int) := l.mergeSort fun x y => decide (num x ≤ num y)
def att (l : List (List Int)) (h : ∀ x ∈ l, B8 x) : List Id8 := l.attach.map fun x => ⟨x.1, h x.1 x.2⟩
theorem att_val (l : List (List Int)) (h : ∀ x ∈ l, B8 x) : (att l h).map Subtype.val = l := by
  unfold att
  rw [List.map_map]
  exact List.attach_map_subtype_val l
theorem att_flat (l : List Id8) : l.flatMap encId = flatB (l.map Subtype.val) := by
  unfold flatB
  rw [List.flatMap_map]; rfl
theorem sort_map (l : List Id8) : (l.mergeSort fun x y => !(ltOf cfId) y x).map Subtype.val = sortB (l.map Subtype.val) := by
  unfold sortB
  rw [List.map_mergeSort]
  intro a _ b _
  rw [lt_cfId]
  by_cases h : num a.1 ≤ num b.1
  · simp [h, Int.not_lt.2 h]
  · simp [h, Int.not_le.1 h]
theorem sortB_perm (l : List (List Int)) : (sortB l).Perm l := List.mergeSort_perm _ _
theorem sortB_len (l : List (List Int)) : (sortB l).length = l.length := (sortB_perm l).length_eq
theorem sortB_mem {l : List (List Int)} {x : List Int} : x ∈ sortB l ↔ x ∈ l := (sortB_perm l).mem_iff
theorem info_id8 : (Try.prog.info? 31).map (·.size) = some 8 := by kernel_rfl

/-- **slices.SortFunc(l, ident.Cmp): the ids in order.** -/
theorem sortIds_any (S : List (List Int)) (hB : ∀ x ∈ S, B8 x) (hlen : S.length < 4611686018427387904) {base n : Nat} {v : Value} {e : TypeId} (hn : n = S.length) (w : World) (ho : w.ownsRow base e 8 v n (flatB S)) :
    Calls Try.prog 46 #[v, .func (.func 39) #[] #[]] w fun e' w' => e' = .returned (.tuple #[]) ∧ w'.ownsRow base e 8 v n (flatB (sortB S)) ∧ Kp (fun b => v.ownBlock = some b) w w' := by
  subst hn
  have eg : ∀ args w, (callFunc 39 args).run Try.prog w = .ok (.enter 39 args) w := enters_of Try.func39 (by kernel_rfl) rfl
  by_cases h0 : S.length = 0
  · have hS : S = [] := List.eq_nil_of_length_eq_zero h0
    subst hS
    obtain ⟨a, cap, rfl⟩ := ownsRow_shape ho
    have hcon := AnyF.slices_SortFunc_none sortIdLay a cap (.func (.func 39) #[] #[]) w
    change Calls Try.prog 46 _ _ _ at hcon
    refine hcon.mono ?_
    rintro e' w' ⟨rfl, rfl⟩
    exact ⟨rfl, by simpa [sortB] using ho, Kp.refl _ _⟩
  · obtain ⟨g, cap, rfl⟩ := ownsRow_form' ho (by omega)
    have hf : flatB S = (att S hB).flatMap encId := by rw [att_flat, att_val]
    have hal : (att S hB).length = S.length := by unfold att; simp
    rw [hf] at ho
    have hg : g < w.heap.size := ownsRow_lt ho rfl
    have hcon := AnyQ.slices_SortFunc_total sortIdLay 8 Try.isAgg31 Try.sizeOf31 encId encId_len (fun x v hv => bys_one x.1 v hv) cfId swoId 39 #[] g 0 cap (att S hB).toArray w eg (cmpLaysId _ _ _ _) (holdsK_of_own encId_len ho) hg (by simpa [hal] using hlen) totId
    change Calls Try.prog 46 _ _ _ at hcon
    rw [List.size_toArray, hal] at hcon
    refine hcon.mono ?_
    rintro e' w' ⟨rfl, n, os, rfl⟩
    refine ⟨rfl, ?_, (kp_sortedK _).mono fun b _ hb => by have : b = g := hb; rw [this]; rfl⟩
    have h1 := own_sortedK (m := n) (os := os) encId_len ho (ts := (att S hB).mergeSort fun x y => !(ltOf cfId) y x) (by simp)
    rw [att_flat, sort_map, att_val] at h1
    exact h1
end Go.Proofs.Ytkaalppmheikgaa
