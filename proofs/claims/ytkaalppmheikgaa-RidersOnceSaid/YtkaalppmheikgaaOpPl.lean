/- Steps of a script of riders. -/
import Derived.Test.YtkaalppmheikgaaRdFt
namespace Go.Proofs.Ytkaalppmheikgaa
open Go.RowKit

abbrev I64 (n : Int) : Prop := -9223372036854775808 ≤ n ∧ n ≤ 9223372036854775807
/-- A step. -/
structure ROp where
  who : Int
  kind : Int
  now : Int
  later : Bool
  x : Rq
  id : Id8
def opE (o : ROp) : Array Value := #[.int .i64 o.who, .int .i64 o.kind, .int .i64 o.now, .bool o.later] ++ rqE o.x ++ bys o.id.1
theorem opE_size (o : ROp) : (opE o).size = 28 := by unfold opE; rw [Array.size_append, Array.size_append, rqE_size, bys_size, o.id.2.1]; rfl
theorem opE_ones (o : ROp) : ∀ v ∈ (opE o).toList, v.oneCell' = true := by
  intro v hv
  unfold opE at hv
  rw [Array.toList_append, List.mem_append, Array.toList_append, List.mem_append] at hv
  rcases hv with (hv | hv) | hv
  · simp at hv; rcases hv with rfl | rfl | rfl | rfl <;> rfl
  · exact rqE_ones _ v hv
  · exact bys_one _ v hv
theorem opE_info (o : ROp) : (Try.prog.info? 58).map (·.size) = some (opE o).size := by rw [opE_size]; kernel_rfl
theorem opE_get (o : ROp) : (opE o)[1]? = some (.int .i64 o.kind) ∧ (opE o)[2]? = some (.int .i64 o.now) ∧ (opE o)[3]? = some (.bool o.later) ∧ (∀ (j : Nat) v, (rqE o.x)[j]? = some v → (opE o)[4 + j]? = some v) ∧ ∀ (j : Nat) v, (bys o.id.1)[j]? = some v → (opE o)[20 + j]? = some v := by
  have hr := rqE_size o.x
  have h4 : (#[.int .i64 o.who, .int .i64 o.kind, .int .i64 o.now, .bool o.later] ++ rqE o.x : Array Value).size = 20 := by rw [Array.size_append, hr]; rfl
  refine ⟨?_, ?_, ?_, fun j v hj => ?_, fun j v hj => ?_⟩
  · unfold opE; rw [Array.getElem?_append_left (by omega), Array.getElem?_append_left (by simp)]; rfl
  · unfold opE; rw [Array.getElem?_append_left (by omega), Array.getElem?_append_left (by simp)]; rfl
  · unfold opE; rw [Array.getElem?_append_left (by omega), Array.getElem?_append_left (by simp)]; rfl
  · have hj2 := (Array.getElem?_eq_some_iff.1 hj).1
    unfold opE
    rw [Array.getElem?_append_left (by omega), Array.getElem?_append_right (by simp)]
    simpa using hj
  · unfold opE
    rw [Array.getElem?_append_right (by omega), h4]
    simpa using hj
section
variable {w : World} {g o : Nat} {x : ROp}
theorem op_kind (h : CellsAt w g o (opE x)) : w.cell? ⟨g, o + 1, none⟩ = some (.int .i64 x.kind) := h 1 _ (opE_get x).1
theorem op_now (h : CellsAt w g o (opE x)) : w.cell? ⟨g, o + 2, none⟩ = some (.int .i64 x.now) := h 2 _ (opE_get x).2.1
theorem op_later (h : CellsAt w g o (opE x)) : w.cell? ⟨g, o + 3, none⟩ = some (.bool x.later) := h 3 _ (opE_get x).2.2.1
theorem op_rq (h : CellsAt w g o (opE x)) : CellsAt w g (o + 4) (rqE x.x) := fun j v hj => by rw [Nat.add_assoc]; exact h (4 + j) v ((opE_get x).2.2.2.1 j v hj)
theorem op_id (h : CellsAt w g o (opE x)) : CellsAt w g (o + 20) (bys x.id.1) := fun j v hj => by rw [Nat.add_assoc]; exact h (20 + j) v ((opE_get x).2.2.2.2 j v hj)
end
/-- The tick that a step names. -/
def tickOf (now : Int) (o : ROp) : Int := if o.later then now + o.now % 64 else o.now
/-- A script as it lies. -/
structure ScAt (w : World) (A : Option Addr) (S : List ROp) : Prop where
  rows : RowsAt 28 opE w A S
  nums : ∀ o ∈ S, I64 o.kind ∧ I64 o.now ∧ I64 o.x.base ∧ I64 o.x.ttl ∧ 0 ≤ o.x.seats ∧ 0 ≤ o.x.cls
  most : S.length * 80 ≤ 140737488351232
theorem ScAt.kept {w w' : World} {A : Option Addr} {S : List ROp} (h : ScAt w A S) (hb : Below w.heap.size w w') : ScAt w' A S := ⟨h.rows.kept hb, h.nums, h.most⟩
end Go.Proofs.Ytkaalppmheikgaa
