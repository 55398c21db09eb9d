/- A heap in memory; its order; how many; which one comes first. -/
import Derived.Test.YtkaalppmheikgaaHpPl
import Derived.Test.YtkaalppmheikgaaRow
import Derived.Test.YtkaalppmheikgaaSmID
import Derived.OrdersHeld
import Derived.Deep.RegionHeld3
import Derived.StillTailTactics
import Derived.IntWalk
namespace Go.Proofs.Ytkaalppmheikgaa
open Go.RowKit

theorem keyId : KeyOk Try.prog 31 8 5 .u8 := ⟨Try.underlying31, Try.underlying5, by kernel_rfl, by kernel_rfl⟩
theorem idV_info (x : Id8) : (Try.prog.info? 31).map (·.size) = some (bys x.1).size := info_id x.1 x.2
theorem cells_at {w : World} {g : Nat} {cs : Array Value} {t : TypeId} {fr : Nat × Nat} (h : w.heap[g]? = some (.cells cs t fr)) : ∀ j u, cs.toList[j]? = some u → w.cell? ((⟨g, 0, none⟩ : Addr).add j) = some u := fun j u hj => by
  have hadd : (⟨g, 0, none⟩ : Addr).add j = ⟨g, j, none⟩ := by unfold Addr.add; split <;> simp_all
  rw [hadd, cell_of_row _ _ _ _ _ _ h, ← Array.getElem?_toList]; exact hj
theorem box_cells {w : World} {g : Nat} {cs : Array Value} {t : TypeId} {fr : Nat × Nat} (h : w.heap[g]? = some (.cells cs t fr)) : CellsAt w g 0 cs := fun j v hj => by rw [Nat.zero_add]; exact row_cell h j v hj
/-- A rank. -/
def rkV (a : It) : Array Value := #[.int .i64 a.tick, .int .i64 a.num]
/-- An item's cells. -/
def itE (a : It) : Array Value := bys a.key.1 ++ #[.int .i64 a.tick, .int .i64 a.num, .int .i64 a.came]
theorem itE_size (a : It) : (itE a).size = 11 := by unfold itE; rw [Array.size_append, bys_size, a.key.2.1]; rfl
theorem itE_ones (a : It) : ∀ v ∈ (itE a).toList, v.oneCell' = true := by
  intro v hv
  unfold itE at hv
  rw [Array.toList_append, List.mem_append] at hv
  rcases hv with hv | hv
  · exact bys_one _ v hv
  · simp at hv; rcases hv with rfl | rfl | rfl <;> rfl
theorem itE_info (a : It) : (Try.prog.info? 103).map (·.size) = some (itE a).size := by rw [itE_size]; kernel_rfl
theorem rkV_info (a : It) : (Try.prog.info? 79).map (·.size) = some (rkV a).size := by kernel_rfl
theorem itE_get (a : It) : (∀ (j : Nat) v, (bys a.key.1)[j]? = some v → (itE a)[j]? = some v) ∧ (itE a)[8]? = some (.int .i64 a.tick) ∧ (itE a)[9]? = some (.int .i64 a.num) ∧ (itE a)[10]? = some (.int .i64 a.came) := by
  have hs : (bys a.key.1).size = 8 := by rw [bys_size, a.key.2.1]
  refine ⟨fun j v hj => ?_, ?_, ?_, ?_⟩
  · unfold itE; rw [Array.getElem?_append_left (Array.getElem?_eq_some_iff.1 hj).1]; exact hj
  · unfold itE; rw [Array.getElem?_append_right (by omega), hs]; rfl
  · unfold itE; rw [Array.getElem?_append_right (by omega), hs]; rfl
  · unfold itE; rw [Array.getElem?_append_right (by omega), hs]; rfl
theorem it_key {w : World} {g o : Nat} {a : It} (h : CellsAt w g o (itE a)) : CellsAt w g o (bys a.key.1) := fun j v hj => h j v ((itE_get a).1 j v hj)
theorem it_rank {w : World} {g o : Nat} {a : It} (h : CellsAt w g o (itE a)) : CellsAt w g (o + 8) (rkV a) := fun j v hj => by
  have hj2 : j = 0 ∨ j = 1 := by have := (Array.getElem?_eq_some_iff.1 hj).1; simp [rkV] at this; omega
  rcases hj2 with rfl | rfl
  · simp [rkV] at hj; subst hj; exact h 8 _ (itE_get a).2.1
  · simp [rkV] at hj; subst hj; exact h 9 _ (itE_get a).2.2.1
theorem it_came {w : World} {g o : Nat} {a : It} (h : CellsAt w g o (itE a)) : w.cell? ⟨g, o + 10, none⟩ = some (.int .i64 a.came) := h 10 _ (itE_get a).2.2.2
abbrev lessV : Value := .func (.func 38) #[] #[]
def numI (i : Int) : Value := .int .i64 i
/-- The heap at h: the block of its map, its row. -/
structure HpAt (w : World) (h b : Nat) (T : List (Id8 × Int)) (v : Value) (l : List It) (came : Int) : Prop where
  blk : w.heap[h]? = some (.cells #[lessV, v, .map (some b), .int .i64 came] 107 (0, 0))
  at' : MapIs numI w b T
  row : Row w 0 103 11 v l.length (fl itE l)
  ok : AtOk T l
/-- Its blocks. -/
def HOwn (h b : Nat) (v : Value) (k : Nat) : Prop := k = h ∨ k = b ∨ v.ownBlock = some k
section
variable {w w' : World} {h b : Nat} {T : List (Id8 × Int)} {v : Value} {l : List It} {came : Int}
theorem HpAt.lt (H : HpAt w h b T v l came) {k : Nat} (hk : HOwn h b v k) : k < w.heap.size := by
  rcases hk with rfl | rfl | hk
  · exact heap_lt H.blk
  · exact H.at'.lt
  · exact H.row.lt hk
theorem HpAt.same (H : HpAt w h b T v l came) (hs : ∀ k, HOwn h b v k → w'.heap[k]? = w.heap[k]?) : HpAt w' h b T v l came :=
  ⟨(hs h (.inl rfl)).trans H.blk, H.at'.same (hs b (.inr (.inl rfl))), H.row.other fun g hg => hs g (.inr (.inr hg)), H.ok⟩
theorem HpAt.kept (H : HpAt w h b T v l came) (hb : Below w.heap.size w w') : HpAt w' h b T v l came := H.same fun k hk => hb.block k (H.lt hk)
theorem HpAt.cell0 (H : HpAt w h b T v l came) : w.cell? ⟨h, 0, none⟩ = some lessV := by rw [cell_of_row _ _ _ _ _ _ H.blk]; rfl
theorem HpAt.cell1 (H : HpAt w h b T v l came) : w.cell? ⟨h, 1, none⟩ = some v := by rw [cell_of_row _ _ _ _ _ _ H.blk]; rfl
theorem HpAt.cell2 (H : HpAt w h b T v l came) : w.cell? ⟨h, 2, none⟩ = some (.map (some b)) := by rw [cell_of_row _ _ _ _ _ _ H.blk]; rfl
theorem HpAt.cell3 (H : HpAt w h b T v l came) : w.cell? ⟨h, 3, none⟩ = some (.int .i64 came) := by rw [cell_of_row _ _ _ _ _ _ H.blk]; rfl
theorem HpAt.ne (H : HpAt w h b T v l came) : h ≠ b := fun e => by
  obtain ⟨o, ho, hc⟩ := H.at'.obj
  rw [← e, H.blk] at ho; cases ho; cases hc
theorem HpAt.row_ne (H : HpAt w h b T v l came) {g : Nat} (hg : v.ownBlock = some g) : g ≠ h ∧ g ≠ b := by
  obtain ⟨cur, h1⟩ := H.row.type hg
  refine ⟨fun e => ?_, fun e => ?_⟩
  · rw [e, H.blk] at h1; cases h1
  · obtain ⟨o, ho, hc⟩ := H.at'.obj
    rw [e, ho] at h1; cases h1; cases hc
/-- Where its items lie. -/
theorem HpAt.item (H : HpAt w h b T v l came) {i : Nat} {a : It} (hi : l[i]? = some a) : ∃ g cap, v = .slice (some ⟨g, 0, none⟩) l.length cap ∧ l.length ≤ cap ∧ CellsAt w g (i * 11) (itE a) := by
  have hrow := H.row
  obtain ⟨h0, a', cap, e1, h2⟩ := H.row
  rcases h2 with ⟨_, h3, _⟩ | ⟨g, cur, rfl, h3, h4, h5, h6⟩
  · have := (List.getElem?_eq_some_iff.1 hi).1; omega
  · refine ⟨g, cap, e1, h5, fun j u hj => ?_⟩
    have hj2 : j < 11 := by have := (Array.getElem?_eq_some_iff.1 hj).1; rw [itE_size] at this; exact this
    refine hrow.cells (by rw [e1]; rfl) ?_
    rw [fl_get itE_size hi hj2, hj]
end
/-! ### The order -/
theorem decide_rk (a b : It) : rkLt a b = (decide (a.tick < b.tick) || (decide (a.tick = b.tick) && decide (a.num < b.num))) := by unfold rkLt; simp
set_option maxRecDepth 100000 in
set_option maxHeartbeats 2000000 in
theorem less_any (a b : It) (w : World) : Calls Try.prog 38 #[.agg (rkV a), .agg (rkV b)] w fun e w' => e = .returned (.bool (rkLt a b)) ∧ Below w.heap.size w w' := by
  unfold rkV
  by_cases h1 : a.tick < b.tick
  · have HR : Hid (rkLt a b = true) := hid (by rw [decide_rk, decide_eq_true h1]; rfl)
    obtain ⟨R, hR⟩ : ∃ R, R = rkLt a b := ⟨_, rfl⟩
    rw [← hR] at HR ⊢
    clear hR
    go_enter Try.func38, Try.ntmps38
    go_wp2
    go_ret
    exact ⟨by rw [HR.out]; rfl, ((Below.refl _ _).alloc (Nat.le_refl _) _).alloc (by simp) _⟩
  by_cases h2 : a.tick = b.tick
  · by_cases h3 : a.num < b.num
    · have HR : Hid (rkLt a b = true) := hid (by rw [decide_rk, decide_eq_true h2, decide_eq_true h3]; simp)
      obtain ⟨R, hR⟩ : ∃ R, R = rkLt a b := ⟨_, rfl⟩
      rw [← hR] at HR ⊢
      rw [h2]
      clear hR h2 h1
      go_enter Try.func38, Try.ntmps38
      go_wp2
      go_ret
      exact ⟨by rw [HR.out]; rfl, ((Below.refl _ _).alloc (Nat.le_refl _) _).alloc (by simp) _⟩
    · have HR : Hid (rkLt a b = false) := hid (by rw [decide_rk, decide_eq_false h1, decide_eq_false h3]; simp)
      obtain ⟨R, hR⟩ : ∃ R, R = rkLt a b := ⟨_, rfl⟩
      rw [← hR] at HR ⊢
      rw [h2]
      clear hR h2 h1
      go_enter Try.func38, Try.ntmps38
      go_wp2
      go_ret
      exact ⟨by rw [HR.out]; rfl, ((Below.refl _ _).alloc (Nat.le_refl _) _).alloc (by simp) _⟩
  · have HR : Hid (rkLt a b = false) := hid (by rw [decide_rk, decide_eq_false h1, decide_eq_false h2]; rfl)
    obtain ⟨R, hR⟩ : ∃ R, R = rkLt a b := ⟨_, rfl⟩
    rw [← hR] at HR ⊢
    have hne : (a.tick == b.tick) = false := by simpa using h2
    clear hR h2
    go_enter Try.func38, Try.ntmps38
    go_wp2
    go_ret
    exact ⟨by rw [HR.out]; rfl, ((Below.refl _ _).alloc (Nat.le_refl _) _).alloc (by simp) _⟩
set_option maxRecDepth 100000 in
theorem hlen_any {w : World} {h b : Nat} {T : List (Id8 × Int)} {v : Value} {l : List It} {came : Int} (H : HpAt w h b T v l came) :
    Calls Try.prog 49 #[.pointer (some ⟨h, 0, none⟩)] w fun e w' => e = .returned (.int .i64 l.length) ∧ w' = w := by
  have hc := H.cell1
  obtain ⟨a, cap, rfl⟩ := H.row.shape
  clear H
  go_enter Try.func49, Try.ntmps49
  go_wp2
  go_ret
  exact ⟨rfl, rfl⟩
end Go.Proofs.Ytkaalppmheikgaa
