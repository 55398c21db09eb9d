/- A ledger in memory: its accounts, its entries. -/
import Derived.Test.YtnapfjgokeloeaaMapV
import Derived.Test.YtnapfjgokeloeaaRow
import Derived.OrdersHeld
import Derived.Deep.RegionHeld3
import Derived.StillTailTactics
import Derived.IntWalk
namespace Go.Proofs.Ytnapfjgokeloeaa
open Go.RowKit

theorem keyId : KeyOk Try.prog 33 8 5 .u8 := ⟨Try.underlying33, Try.underlying5, by kernel_rfl, by kernel_rfl⟩
/-- An account. -/
structure Ac where
  bal : Int
  lim : Int
deriving DecidableEq
def ac0 : Ac := ⟨0, 0⟩
def acV (a : Ac) : Array Value := #[.int .i64 a.bal, .int .i64 a.lim]
def accV (a : Ac) : Value := .agg (acV a)
theorem zero_acc (w : World) : (zeroValue 62).run Try.prog w = .ok (accV ac0) w := by kernel_rfl
theorem acc_info (a : Ac) : (Try.prog.info? 62).map (·.size) = some (acV a).size := by kernel_rfl
theorem accV_get (o : Option Ac) : (o.map accV).getD (accV ac0) = accV (o.getD ac0) := by cases o <;> rfl
/-- What an account has. -/
def acOf (T : List (Id8 × Ac)) (x : Id8) : Ac := (lkp x T).getD ac0
/-- An entry. -/
structure En where
  fr : Id8
  to : Id8
  amt : Int
deriving DecidableEq
def enE (e : En) : Array Value := (bys e.fr.1 ++ bys e.to.1).push (.int .i64 e.amt)
theorem enE_size (e : En) : (enE e).size = 17 := by unfold enE; rw [Array.size_push, Array.size_append, bys_size, bys_size, e.fr.2.1, e.to.2.1]
theorem enE_ones (e : En) : ∀ v ∈ (enE e).toList, v.oneCell' = true := by
  intro v hv
  unfold enE at hv
  rw [Array.toList_push, Array.toList_append, List.mem_append, List.mem_append] at hv
  rcases hv with (hv | hv) | hv
  · exact bys_one _ v hv
  · exact bys_one _ v hv
  · simp at hv; rw [hv]; rfl
theorem enE_info (e : En) : (Try.prog.info? 35).map (·.size) = some (enE e).size := by rw [enE_size]; kernel_rfl
theorem idV_info (x : Id8) : (Try.prog.info? 33).map (·.size) = some (bys x.1).size := info_id x.1 x.2

/-- The ledger at p. -/
structure LedAt (w : World) (p b : Nat) (T : List (Id8 × Ac)) (v : Value) (E : List En) : Prop where
  blk : w.heap[p]? = some (.cells #[.map (some b), v] 58 (0, 0))
  acc : MapIs accV w b T
  ent : Row w 0 35 17 v E.length (fl enE E)
/-- Its blocks. -/
def LOwn (p b : Nat) (v : Value) (k : Nat) : Prop := k = p ∨ k = b ∨ v.ownBlock = some k
section
variable {w w' : World} {p b : Nat} {T : List (Id8 × Ac)} {v : Value} {E : List En}
theorem LedAt.lt (h : LedAt w p b T v E) {k : Nat} (hk : LOwn p b v k) : k < w.heap.size := by
  rcases hk with rfl | rfl | hk
  · exact heap_lt h.blk
  · exact h.acc.lt
  · exact h.ent.lt hk
theorem LedAt.same (h : LedAt w p b T v E) (hs : ∀ k, LOwn p b v k → w'.heap[k]? = w.heap[k]?) : LedAt w' p b T v E :=
  ⟨(hs p (.inl rfl)).trans h.blk, h.acc.same (hs b (.inr (.inl rfl))), h.ent.other fun g hg => hs g (.inr (.inr hg))⟩
theorem LedAt.kept (h : LedAt w p b T v E) (hb : Below w.heap.size w w') : LedAt w' p b T v E := h.same fun k hk => hb.block k (h.lt hk)
theorem LedAt.ne (h : LedAt w p b T v E) : p ≠ b := fun e => by
  obtain ⟨o, ho, hc⟩ := h.acc.obj
  rw [← e, h.blk] at ho; cases ho; cases hc
theorem LedAt.cell0 (h : LedAt w p b T v E) : w.cell? ⟨p, 0, none⟩ = some (.map (some b)) := by rw [cell_of_row _ _ _ _ _ _ h.blk]; rfl
theorem LedAt.cell1 (h : LedAt w p b T v E) : w.cell? ⟨p, 1, none⟩ = some v := by rw [cell_of_row _ _ _ _ _ _ h.blk]; rfl
/-- Behind the turn of its map. -/
theorem LedAt.turn (h : LedAt w p b T v E) (hg : w.grownBy w' (some b)) {T2 : List (Id8 × Ac)} (hm : MapIs accV w' b T2) : LedAt w' p b T2 v E := by
  refine ⟨(hg.block p (heap_lt h.blk) (fun e => h.ne (by cases e; rfl))).trans h.blk, hm, h.ent.other fun g hgo => hg.block g (h.ent.lt hgo) fun e => ?_⟩
  cases e
  obtain ⟨o, ho, hc⟩ := h.acc.obj
  obtain ⟨cur, h1⟩ := h.ent.type hgo
  rw [h1] at ho; cases ho; cases hc
end
theorem eq_mapNil (a : Option Nat) (w : World) : (binOp .neq 56 (.map a) (.map none)).run Try.prog w = .ok (.bool a.isSome) w := by
  have hu := Try.underlying56
  have h0 : ∀ d, (Op.equalIn (d + 1) 56 (.map a) (.map none)).run Try.prog w = .ok a.isNone w := fun d => by
    unfold Op.equalIn
    rw [Sem.run_bind, run_underlying hu]
    cases a <;> rfl
  have h : (Op.equalIn Op.maxDepth 56 (.map a) (.map none)).run Try.prog w = .ok a.isNone w := h0 9999
  simp [binOp, Op.equal, h]
section
variable {P : Program} {ρ : Operand → Value} {o : Oper} {w : World}
theorem exec_load (ty : TypeId) (x : Operand) (ho : o.op = .load ty x) (g : Nat) (hx : ρ x = .pointer (some ⟨g, 0, none⟩)) {t : TypeId} {cs : Array Value} {fr : Nat × Nat} {d : TypeDesc} (hg : w.heap[g]? = some (.cells cs t fr))
    (hu : P.underlying ty = some d) (hd : (match d with | .struct _ | .array _ _ => true | _ => false) = true) (hi : (P.info? ty).map (·.size) = some cs.size) : (execOp ρ o).run P w = .ok (.value (.agg cs)) w := by
  unfold execOp
  simp only [ho, hx, Instr.loadAt, Instr.sureAddr, Sem.run_bind, Sem.run_pure, Result.andThen_ok, run_loadVar_row w g t ty cs fr d hg hu hd hi]
theorem exec_lookup (T : TypeId) (m x : Operand) (ok : Bool) (ho : o.op = .lookup T m x ok) {mv key v : Value} (hm : ρ m = mv) (hx : ρ x = key) (hr : (Instr.lookup T mv key ok).run P w = .ok v w) : (execOp ρ o).run P w = .ok (.value v) w := by
  unfold execOp
  simp only [ho, hm, hx, Sem.run_bind, Sem.run_pure, Result.andThen_ok, hr]
end
theorem LedAt.look {w : World} {p b : Nat} {T : List (Id8 × Ac)} {v : Value} {E : List En} (h : LedAt w p b T v E) (x : Id8) : (Instr.lookup 56 (.map (some b)) (.agg (bys x.1)) false).run Try.prog w = .ok (accV (acOf T x)) w := by
  have h1 := h.acc.val keyId Try.underlying56 x (zero_acc w)
  rw [accV_get] at h1
  exact h1
theorem LedAt.put {w : World} {p b : Nat} {T : List (Id8 × Ac)} {v : Value} {E : List En} (h : LedAt w p b T v E) (x : Id8) (a : Ac) :
    ∃ w', (Instr.mapUpdate 56 (.map (some b)) (.agg (bys x.1)) (.agg (acV a))).run Try.prog w = .ok () w' ∧ LedAt w' p b (putM T x a) v E ∧ w.grownBy w' (some b) := by
  obtain ⟨w', h1, h2, h3⟩ := h.acc.put keyId Try.underlying56 x a
  exact ⟨w', h1, h.turn h3 h2, h3⟩
end Go.Proofs.Ytnapfjgokeloeaa
