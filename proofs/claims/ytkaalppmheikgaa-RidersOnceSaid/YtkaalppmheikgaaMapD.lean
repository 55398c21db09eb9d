/- A key of a map deleted. -/
import Derived.Test.YtkaalppmheikgaaMapE
namespace Go.Proofs.Ytkaalppmheikgaa
open Go.RowKit

theorem del_cons (e : Ent) (m : List Ent) (x : List Int) : del (e :: m) x = if x = e.id then m else e :: del m x := by
  by_cases h : x = e.id
  · rw [if_pos h]
    unfold del
    have hf : fnd x (e :: m) 0 = some (0, e.val) := by unfold fnd; rw [if_pos h]
    rw [hf]; rfl
  · rw [if_neg h]
    have hf : fnd x (e :: m) 0 = (fnd x m 0).map fun p => (p.1 + 1, p.2) := by
      conv => lhs; unfold fnd
      rw [if_neg h]; exact fnd_shift x m 0
    unfold del
    rw [hf]
    cases fnd x m 0 with
    | none => rfl
    | some p => rfl
theorem del_sub (m : List Ent) (x : List Int) : (del m x).Sublist m := by
  unfold del
  split
  · exact List.eraseIdx_sublist _ _
  · exact List.Sublist.refl _
section
variable {V : Type} {f : V → Value}
theorem del_keys (x : Id8) : ∀ (m : List Ent) (U : List (Id8 × V)), m.map Ent.id = U.map (fun p => p.1.1) → m.map Ent.val = U.map (fun p => f p.2) → (Keys U).Nodup → (del m x.1).map Ent.id = (delM U x).map (fun p => p.1.1) ∧ (del m x.1).map Ent.val = (delM U x).map (fun p => f p.2)
  | [], [], _, _, _ => ⟨rfl, rfl⟩
  | [], _ :: _, h, _, _ => by simp at h
  | _ :: _, [], h, _, _ => by simp at h
  | e :: m, (y, u) :: U, h1, h2, hn => by
    simp only [List.map_cons, List.cons.injEq] at h1 h2
    unfold Keys at hn
    rw [List.map_cons, List.nodup_cons] at hn
    rw [del_cons]
    by_cases h : y = x
    · subst h
      rw [if_pos h1.1.symm]
      have hd : delM ((y, u) :: U) y = U := by
        have h3 := delM_none (T := U) (x := y) hn.1
        unfold delM at *
        rw [List.filter_cons_of_neg (by simp), h3]
      rw [hd]
      exact ⟨h1.2, h2.2⟩
    · rw [if_neg (fun e2 => h (Subtype.ext (h1.1.symm.trans e2.symm)))]
      obtain ⟨p2, p3⟩ := del_keys x m U h1.2 h2.2 hn.2
      have hd : delM ((y, u) :: U) x = (y, u) :: delM U x := by
        unfold delM
        rw [List.filter_cons_of_pos (by simpa using h)]
      rw [hd]
      exact ⟨by simp [h1.1, p2], by simp [h2.1, p3]⟩
variable {w : World} {b : Nat} {T : List (Id8 × V)} {P : Program} {TM K VT e : Nat} (H : KeyOk P K 8 e .u8) (hT : P.underlying TM = some (.map K VT))
include H hT
theorem MapIs.dele (h : MapIs f w b T) (x : Id8) (ty t2 : TypeId) : ∃ w', (Builtin.delete_ #[TM, t2] ty #[.map (some b), .agg (bys x.1)]).run P w = .ok (.tuple #[]) w' ∧ MapIs f w' b (delM T x) ∧ w.grownBy w' (some b) := by
  obtain ⟨m, clk, U, h1, h2, h3, h4, h5, h6, h7⟩ := h
  have hr := run_delete H hT ty t2 x.1 x.2.1 w b m clk h1 (ids_len h3)
  obtain ⟨p2, p3⟩ := del_keys (f := f) x m U h3 h4 h5
  have hs := del_sub m x.1
  exact ⟨_, hr, ⟨del m x.1, clk, delM U x, putObj_same h1, h2.filter _, p2, p3, nodup_delM h5 x, h6.sublist (hs.map _), fun y hy => h7 y (hs.subset hy)⟩, ⟨rfl, rfl, rfl, by rw [putObj_size]; exact Nat.le_refl _, fun j _ hj => putObj_other w b _ (fun e => hj (by rw [e]))⟩⟩
end
end Go.Proofs.Ytkaalppmheikgaa
