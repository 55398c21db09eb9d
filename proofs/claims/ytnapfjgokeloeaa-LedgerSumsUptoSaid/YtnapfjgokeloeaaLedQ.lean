/- The ledger with an entry more. -/
import Derived.Test.YtnapfjgokeloeaaBuE
namespace Go.Proofs.Ytnapfjgokeloeaa
open Go.RowKit

theorem cells_at {w : World} {g : Nat} {cs : Array Value} {t : TypeId} {fr : Nat × Nat} (h : w.heap[g]? = some (.cells cs t fr)) : ∀ j u, cs.toList[j]? = some u → w.cell? ((⟨g, 0, none⟩ : Addr).add j) = some u := fun j u hj => by
  have hadd : (⟨g, 0, none⟩ : Addr).add j = ⟨g, j, none⟩ := by unfold Addr.add; split <;> simp_all
  rw [hadd, cell_of_row _ _ _ _ _ _ h, ← Array.getElem?_toList]; exact hj
/-- What Pay answers. -/
def payE (T : List (Id8 × Ac)) (f t : Id8) (n : Int) : Int :=
  if n < 1 ∨ 4611686018427387903 < n ∨ f = t then 1 else if (acOf T f).bal - n < -(acOf T f).lim then 230 else if 4611686018427387903 < (acOf T t).bal + n then 3 else 0
def payT (T : List (Id8 × Ac)) (f t : Id8) (n : Int) : List (Id8 × Ac) :=
  if payE T f t n = 0 then putM (putM T f ⟨(acOf T f).bal + -n, (acOf T f).lim⟩) t ⟨(acOf T t).bal + n, (acOf T t).lim⟩ else T
def payN (T : List (Id8 × Ac)) (E : List En) (f t : Id8) (n : Int) : List En := if payE T f t n = 0 then E ++ [⟨f, t, n⟩] else E
/-- What a call that writes a ledger leaves. -/
def LedPost (w w' : World) (p b : Nat) (v : Value) (T2 : List (Id8 × Ac)) (E2 : List En) : Prop :=
  ∃ v', LedAt w' p b T2 v' E2 ∧ Kp (LOwn p b v) w w' ∧ ∀ k, LOwn p b v' k → LOwn p b v k ∨ w.heap.size ≤ k
section
variable {w W w5 : World} {p b : Nat} {T : List (Id8 × Ac)} {v v5 : Value} {E : List En}
theorem LedAt.ent_ne (h : LedAt w p b T v E) {k : Nat} (hk : k = p ∨ k = b) : some k ≠ v.ownBlock := fun e => by
  obtain ⟨cur, h1⟩ := h.ent.type e.symm
  rcases hk with rfl | rfl
  · rw [h.blk] at h1; cases h1
  · obtain ⟨o, ho, hc⟩ := h.acc.obj
    rw [h1] at ho; cases ho; cases hc
theorem LedAt.far (h : LedAt W p b T v E) (hg : W.grownBy w5 v.ownBlock) : w5.heap[p]? = W.heap[p]? ∧ w5.heap[b]? = W.heap[b]? :=
  ⟨hg.block p (heap_lt h.blk) (h.ent_ne (.inl rfl)), hg.block b h.acc.lt (h.ent_ne (.inr rfl))⟩
theorem LedAt.far1 (h : LedAt W p b T v E) (hg : W.grownBy w5 v.ownBlock) : w5.cell? ⟨p, 1, none⟩ = some v ∧ w5.frozen? ⟨p, 1, none⟩ = false :=
  ⟨row_cell ((h.far hg).1.trans h.blk) 1 v rfl, free_row ((h.far hg).1.trans h.blk) 1⟩
theorem led_append (h : LedAt W p b T v E) (x : En) (hr : Row w5 0 35 17 v5 (E.length + 1) (fl enE E ++ (enE x).toList)) (hg : W.grownBy w5 v.ownBlock)
    (ho : v5.ownBlock = v.ownBlock ∨ ∀ g, v5.ownBlock = some g → W.heap.size ≤ g) : LedPost W (w5.setCell ⟨p, 1, none⟩ v5) p b v T (E ++ [x]) := by
  have hp := (h.far hg).1.trans h.blk
  have hpl := heap_lt h.blk
  have hne : ∀ g, v5.ownBlock = some g → g ≠ p := fun g hgo e => by
    subst e
    rcases ho with ho | ho
    · exact h.ent_ne (.inl rfl) (hgo.symm.trans ho)
    · have := ho g hgo; omega
  refine ⟨v5, ⟨by rw [row_setCell hp]; rfl, h.acc.same (by rw [heap_setCell_ne h.ne.symm]; exact (h.far hg).2), ?_⟩, ((Kp.refl _ W).grown hg fun k hk => .inl (.inr (.inr hk))).setCell (.inl (.inl rfl)) _ _, ?_⟩
  · have e1 : fl enE (E ++ [x]) = fl enE E ++ (enE x).toList := by unfold fl; simp
    rw [List.length_append, e1]
    exact hr.other fun g hgo => heap_setCell_ne (hne g hgo)
  · rintro k (rfl | rfl | hk)
    · exact .inl (.inl rfl)
    · exact .inl (.inr (.inl rfl))
    · rcases ho with ho | ho
      · exact .inl (.inr (.inr (ho ▸ hk)))
      · exact .inr (ho k hk)
theorem ent_id (h : LedAt W p b T v E) {k : Nat} {cs : Array Value} {fr : Nat × Nat} (hk : W.heap[k]? = some (.cells cs 33 fr)) : some k ≠ v.ownBlock := fun e => by
  obtain ⟨cur, h1⟩ := h.ent.type e.symm
  rw [hk] at h1; cases h1
theorem entry_info : ∃ i, Try.prog.info? 35 = some i ∧ i.zero = some (.agg (enE ⟨⟨zs 8, zs_B8⟩, ⟨zs 8, zs_B8⟩, 0⟩)) ∧ i.size = 17 ∧ i.bytes = 24 := by
  obtain ⟨i, h1, h2⟩ := Option.map_eq_some_iff.1 enE_table
  rw [Prod.mk.injEq, Prod.mk.injEq] at h2
  exact ⟨i, h1, h2⟩
theorem LedPost.after {w0 : World} {T2 : List (Id8 × Ac)} {E2 : List En} (h : LedPost W w5 p b v T2 E2) (hk : Kp (LOwn p b v) w0 W) : LedPost w0 w5 p b v T2 E2 := by
  obtain ⟨v', h1, h2, h3⟩ := h
  refine ⟨v', h1, hk.trans h2 (fun _ _ h => h), fun k hk' => (h3 k hk').imp id fun h => ?_⟩
  have := hk.size; omega
end
end Go.Proofs.Ytnapfjgokeloeaa
