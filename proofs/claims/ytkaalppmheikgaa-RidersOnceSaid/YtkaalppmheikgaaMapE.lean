/- An entry of a map met, then stored into: as 'm[x] = v' at a key that is there. -/
import Derived.Test.YtkaalppmheikgaaMapV
namespace Go.Proofs.Ytkaalppmheikgaa
open Go.RowKit

theorem fnd_at (x : List Int) : ∀ (m : List Ent) (s i : Nat) (u : Value), fnd x m s = some (i, u) → ∃ e, s ≤ i ∧ m[i - s]? = some e ∧ e.id = x ∧ e.val = u
  | [], s, i, u, h => by simp [fnd] at h
  | y :: m, s, i, u, h => by
    unfold fnd at h
    split at h
    · rename_i he
      simp only [Option.some.injEq, Prod.mk.injEq] at h
      obtain ⟨rfl, rfl⟩ := h
      exact ⟨y, Nat.le_refl _, by simp, he.symm, rfl⟩
    · obtain ⟨e, h1, h2, h3⟩ := fnd_at x m _ _ _ h
      refine ⟨e, by omega, ?_, h3⟩
      have : i - s = (i - (s + 1)) + 1 := by omega
      rw [this]; simpa using h2
theorem born_idx : ∀ (m : List Ent) (i : Nat) (e : Ent) (k : IntKind), (m.map Ent.born).Nodup → m[i]? = some e → (m.map (entV k)).findIdx? (fun y => (y.born : Int) == (e.born : Int)) = some i
  | [], i, e, k, _, h => by simp at h
  | y :: m, 0, e, k, _, h => by
    simp at h; subst h
    rw [List.map_cons, List.findIdx?_cons]
    simp [entV]
  | y :: m, i + 1, e, k, hn, h => by
    rw [List.map_cons, List.nodup_cons] at hn
    have hm : m[i]? = some e := by simpa using h
    have hne : ¬ y.born = e.born := fun he => hn.1 (by rw [he]; exact List.mem_map_of_mem (List.mem_of_getElem? hm))
    have ih := born_idx m i e k hn.2 hm
    rw [List.map_cons, List.findIdx?_cons, ih]
    have : (((entV k y).born : Int) == (e.born : Int)) = false := by
      simp [entV]; omega
    rw [this]; rfl
theorem modify_self {m : List MapEntry} {i : Nat} {g : MapEntry → MapEntry} (h : ∀ e, m[i]? = some e → g e = e) : m.modify i g = m := by
  apply List.ext_getElem?
  intro j
  rw [List.getElem?_modify]
  by_cases e : i = j
  · subst e
    cases hm : m[i]? with
    | none => rfl
    | some y => simp [h y hm]
  · cases m[j]? <;> simp [e]
theorem putObj_self {w : World} {b : Nat} {o : Obj} (h : w.heap[b]? = some o) : putObj w b o = w := by
  unfold putObj
  have : w.heap.setIfInBounds b o = w.heap := by
    apply Array.ext_getElem?
    intro j
    rw [Array.getElem?_setIfInBounds]
    by_cases e : b = j
    · subst e; rw [if_pos rfl, if_pos (heap_lt h), h]
    · rw [if_neg e]
  rw [this]
section
variable {V : Type} {f : V → Value} {w : World} {b : Nat} {T : List (Id8 × V)} {P : Program} {TM K VT e : Nat} (H : KeyOk P K 8 e .u8) (hT : P.underlying TM = some (.map K VT))
include H hT
theorem MapIs.entry (h : MapIs f w b T) (x : Id8) {v : V} (hx : lkp x T = some v) :
    ∃ born : Nat, (Instr.mapEntry TM (.map (some b)) (.agg (bys x.1))).run P w = .ok (.tuple #[f v, .int .i64 born]) w ∧
      ∀ u : V, ∃ w', (Instr.entryStore TM (.map (some b)) (.int .i64 born) (f u)).run P w = .ok () w' ∧ MapIs f w' b (putM T x u) ∧ w.grownBy w' (some b) := by
  obtain ⟨m, clk, U, h1, h2, h3, h4, h5, h6, h7⟩ := h
  have hf := run_findKey_ids H x.1 x.2.1 w m (ids_len h3)
  have hg := Go.MapKept.run_getObj_map (P := P) h1
  have hfl := fnd_lkp (f := f) x m U 0 h3 h4
  rw [← lkp_perm h2 h5] at hx
  rw [hx] at hfl
  obtain ⟨⟨i, u0⟩, hq, hu0⟩ := Option.map_eq_some_iff.1 hfl
  dsimp only at hu0
  subst hu0
  obtain ⟨e0, _, he, hex, hev⟩ := fnd_at x.1 m 0 i _ hq
  rw [Nat.sub_zero] at he
  refine ⟨e0.born, ?_, fun u => ?_⟩
  · have hkey : ((((m.map (entV .u8)).toArray[i]?).map (·.key)).getD (.agg (bys x.1))) = keyV .u8 x.1 := by simp [he, entV, hex]
    have hborn : ((((m.map (entV .u8)).toArray[i]?).map (fun x => (x.born : Int))).getD 0) = (e0.born : Int) := by simp [he, entV]
    have hself : ((m.map (entV .u8)).toArray.modify i fun e => { e with key := keyV .u8 x.1 }) = (m.map (entV .u8)).toArray := by
      apply Array.toList_inj.1
      rw [Array.toList_modify]
      exact modify_self fun y hy => by
        simp only [List.getElem?_map, he, Option.map_some, Option.some.injEq] at hy
        subst hy
        simp [entV, hex]
    rw [← keyV_bys'] at hkey ⊢
    simp only [Instr.mapEntry, Sem.run_bind, run_underlying hT w, Result.andThen_ok, hg, run_checkKey_ids H _ x.1 x.2.1 w, hf, hq, hkey, Instr.keyThatStays, sameBits_key, if_true, Sem.run_pure]
    rw [Go.MapKept.run_setObj_map _ h1, hself, hborn]
    have := putObj_self h1
    unfold putObj at this
    simp only [Result.andThen_ok]
    rw [this]; rfl
  · obtain ⟨U', p1, p2, p3⟩ := upd_put (f := f) x u clk m U h3 h4 h5
    obtain ⟨q1, q2⟩ := upd_born x.1 (f u) clk m h6 h7
    refine ⟨putObj w b (.map ((upd m x.1 (f u) clk).map (entV .u8)).toArray (updClk m x.1 clk)), ?_, ⟨upd m x.1 (f u) clk, updClk m x.1 clk, U', putObj_same h1, p1.trans (List.Perm.cons _ (h2.filter _)), p2, p3, (List.Perm.map (fun p : Id8 × V => p.1) p1).nodup_iff.2 (nodup_putM h5 x u), q1, q2⟩, ⟨rfl, rfl, rfl, by rw [putObj_size]; exact Nat.le_refl _, fun j _ hj => putObj_other w b _ (fun e => hj (by rw [e]))⟩⟩
    have hidx : (m.map (entV .u8)).toArray.findIdx? (fun y => (y.born : Int) == (e0.born : Int)) = some i := by
      rw [List.findIdx?_toArray]; exact born_idx m i e0 .u8 h6 he
    have hA : (asInt (.int .i64 (e0.born : Int))).run P w = .ok (e0.born : Int) w := by simp [asInt, asIntOf]
    simp only [Instr.entryStore, Sem.run_bind, hg, Result.andThen_ok, hA, hidx]
    rw [Go.MapKept.run_setObj_map _ h1]
    unfold putObj
    congr 2
    simp only [upd, updClk, hq, Option.isSome_some, if_true]
    congr 1
    congr 1
    apply Array.toList_inj.1
    rw [Array.toList_modify]
    apply List.ext_getElem?
    intro j
    simp only [List.getElem?_modify, List.getElem?_map]
    by_cases ej : i = j
    · subst ej
      rw [he]; simp [entV, hex]
    · cases m[j]? <;> simp [ej]
end
end Go.Proofs.Ytkaalppmheikgaa
