/- The ledger's walk: Entries (slices.Clone). -/
import Derived.Test.YtnapfjgokeloeaaLedQ
import Derived.Test.YtnapfjgokeloeaaApL
namespace Go.Proofs.Ytnapfjgokeloeaa
open Go.RowKit

section
variable {P : Program} {ops : Array Oper} {rest : List Oper} {o : Oper} {a : Act} {w : World} {Q : Exit → Act → World → Prop}
theorem run_build0 (t e : TypeId) (ie : TypeInfo) (hu : P.underlying t = some (.slice e)) (hie : P.info? e = some ie) (w : World) :
    (Instr.buildSlice t 0 #[]).run P w = .ok (.slice (some ⟨w.heap.size, 0, none⟩) 0 0) (w.alloc (.cells #[] e)) := by
  simp [Instr.buildSlice, run_underlying hu, sizeOf, typeInfo, hie, Instr.fill, newRow]
  rw [show Array.range 0 = #[] from rfl, Array.map_empty]
theorem eq_sliceNil {t e : TypeId} (hu : P.underlying t = some (.slice e)) (a : Option Addr) (n c : Nat) (w : World) : (binOp .eql t (.slice a n c) (.slice none 0 0)).run P w = .ok (.bool a.isNone) w := by
  have h0 : ∀ d, (Op.equalIn (d + 1) t (.slice a n c) (.slice none 0 0)).run P w = .ok a.isNone w := fun d => by
    unfold Op.equalIn
    rw [Sem.run_bind, run_underlying hu]
    cases a <;> rfl
  have h : (Op.equalIn Op.maxDepth t (.slice a n c) (.slice none 0 0)).run P w = .ok a.isNone w := h0 9999
  simp [binOp, Op.equal, h]
theorem wpList_build0 (hg : o.guard = none) (t e : TypeId) (ho : o.op = .buildSlice t 0 #[]) (ie : TypeInfo)
    (hu : P.underlying t = some (.slice e)) (hie : P.info? e = some ie)
    (h : wpList P ops Q rest (a.put o.dst (.slice (some ⟨w.heap.size, 0, none⟩) 0 0)) (w.alloc (.cells #[] e))) : wpList P ops Q (o :: rest) a w := by
  refine wpList_plain hg fun K' hK' => ?_
  have hrun := run_build0 (P := P) t e ie hu hie w
  unfold Oper.wp
  simp [execOp, ho, hrun, Result.andThen]
  exact hK' _ _ h
end
set_option maxRecDepth 100000 in
set_option maxHeartbeats 4000000 in
theorem clone_nil (w : World) : Calls Try.prog 31 #[.slice none 0 0] w fun e w' => e = .returned (.slice none 0 0) ∧ w' = w := by
  have heq := fun a n c w => eq_sliceNil (P := Try.prog) Try.underlying25 a n c w
  go_enter Try.func31, Try.ntmps31
  go_wp2
  go_ret
  exact ⟨rfl, rfl⟩
set_option maxRecDepth 100000 in
set_option maxHeartbeats 4000000 in
theorem clone_some {w : World} (g c : Nat) (l : List En) (hr : RowsAt 17 enE w (some ⟨g, 0, none⟩) l) (hlen : l.length ≤ 4398046511104) :
    Calls Try.prog 31 #[.slice (some ⟨g, 0, none⟩) l.length c] w fun e w' => ∃ v, e = .returned v ∧ w'.ownsRow w.heap.size 35 17 v l.length (fl enE l) ∧ Below w.heap.size w w' := by
  obtain ⟨i0, hi, hz0, hz1, hz2⟩ := entry_info
  have HR := hid (hr.alloc (.cells #[] 35))
  have HO : Hid ((w.alloc (.cells #[] 35)).ownsRow w.heap.size 35 17 (.slice (some ⟨w.heap.size, 0, none⟩) 0 0) 0 []) := hid ⟨by simp, .inr ⟨w.heap.size, 0, #[], rfl, Nat.le_refl _, heap_alloc_new _ _, Nat.le_refl _, by decide, by simp, by simp⟩⟩
  have HB := hid ((Below.refl w.heap.size w).alloc (Nat.le_refl _) (.cells #[] 35))
  clear hr
  have heq := fun a n c w => eq_sliceNil (P := Try.prog) Try.underlying25 a n c w
  go_enter Try.func31, Try.ntmps31
  go_wp2_with (first | (refine wpList_build0 rfl 25 35 rfl i0 Try.underlying25 hi ?_) | (at_builtin; refine wpList_append_list rfl _ _ 25 rfl w.heap.size 35 i0 _ 17 24 Try.underlying25 hi hz0 hz1 hz2 (by rfl) (by decide) _ _ _ rfl HO.out enE_size _ _ l rfl HR.out enE_ones (by unfold maxLen; omega) (by omega) (by simp) ?_))
  intro v' w' h1 h2
  go_wp2
  go_ret
  refine ⟨_, rfl, by simpa using h1, HB.out.grown h2 (by simp) (fun k e => by cases e; exact Nat.le_refl _)⟩
set_option maxRecDepth 100000 in
set_option maxHeartbeats 4000000 in
theorem entries_nil (w : World) : Calls Try.prog 12 #[.pointer none] w fun e w' => e = .returned (.slice none 0 0) ∧ w' = w := by
  go_enter Try.func12, Try.ntmps12
  go_wp2
  go_ret
  exact ⟨rfl, rfl⟩
theorem clone_row {w : World} {v : Value} {E : List En} (h : Row w 0 35 17 v E.length (fl enE E)) (hlen : E.length ≤ 4398046511104) :
    Calls Try.prog 31 #[v] w fun e w' => ∃ v, e = .returned v ∧ w'.ownsRow w.heap.size 35 17 v E.length (fl enE E) ∧ Below w.heap.size w w' := by
  obtain ⟨h0, a, cap, rfl, h1⟩ := h
  rcases h1 with ⟨rfl, h2, rfl⟩ | ⟨g, cur, rfl, h3⟩
  · obtain rfl := List.eq_nil_of_length_eq_zero h2
    refine (clone_nil w).mono ?_
    rintro e w' ⟨rfl, rfl⟩
    exact ⟨_, rfl, World.ownsRow_nil _ _ _ _, Below.refl _ _⟩
  · obtain ⟨a', c', e1, hr⟩ := Row.rows (l := E) enE_size rfl (⟨h0, _, _, rfl, .inr ⟨g, cur, rfl, h3⟩⟩ : Row w 0 35 17 (.slice (some ⟨g, 0, none⟩) E.length cap) E.length (fl enE E))
    cases e1
    exact clone_some g cap E hr hlen
set_option maxRecDepth 100000 in
set_option maxHeartbeats 4000000 in
theorem entries_any {w : World} {p b : Nat} {T : List (Id8 × Ac)} {v : Value} {E : List En} (h : LedAt w p b T v E) (hlen : E.length ≤ 4398046511104) :
    Calls Try.prog 12 #[.pointer (some ⟨p, 0, none⟩)] w fun e w' => ∃ v, e = .returned v ∧ w'.ownsRow w.heap.size 35 17 v E.length (fl enE E) ∧ Below w.heap.size w w' := by
  have hc := h.cell1
  have HC := hid (clone_row h.ent hlen)
  clear h
  go_enter Try.func12, Try.ntmps12
  go_wp2_with (go_at_call 31; refine HC.out.mono ?_; rintro e' w3 ⟨v', rfl, ho3, hk3⟩; have HO3 := hid ho3; have HK3 := hid hk3; clear ho3 hk3)
  go_ret
  exact ⟨_, rfl, HO3.out, HK3.out⟩
end Go.Proofs.Ytnapfjgokeloeaa
