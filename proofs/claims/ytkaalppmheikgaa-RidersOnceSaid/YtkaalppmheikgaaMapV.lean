/- Maps from ids to values of some kind: what they hold, whatever the order. -/
import Derived.Test.YtkaalppmheikgaaMapRg
import Derived.Test.YtkaalppmheikgaaSrt
import Derived.RangeFuncBox
namespace Go.Proofs.Ytkaalppmheikgaa
open Go.RowKit

theorem keyV_bys' (l : List Int) : keyV .u8 l = .agg (bys l) := rfl
section
variable {V : Type}
/-- What a key has. -/
def lkp (x : Id8) : List (Id8 × V) → Option V
  | [] => none
  | (y, v) :: T => if y = x then some v else lkp x T
/-- Without a key. -/
def delM (T : List (Id8 × V)) (x : Id8) : List (Id8 × V) := T.filter fun p => decide (p.1 ≠ x)
/-- A key set. -/
def putM (T : List (Id8 × V)) (x : Id8) (v : V) : List (Id8 × V) := (x, v) :: delM T x
def Keys (T : List (Id8 × V)) : List Id8 := T.map (·.1)
theorem lkp_mem {T : List (Id8 × V)} (hn : (Keys T).Nodup) {x : Id8} {v : V} : lkp x T = some v ↔ (x, v) ∈ T := by
  induction T with
  | nil => simp [lkp]
  | cons p T ih =>
    obtain ⟨y, u⟩ := p
    unfold Keys at hn ih
    rw [List.map_cons, List.nodup_cons] at hn
    by_cases h : y = x
    · subst h
      rw [lkp, if_pos rfl]
      constructor
      · intro e; cases e; exact List.mem_cons_self
      · intro e
        rcases List.mem_cons.1 e with e | e
        · cases e; rfl
        · exact absurd (List.mem_map.2 ⟨_, e, rfl⟩) hn.1
    · rw [lkp, if_neg h, ih hn.2, List.mem_cons]
      exact ⟨.inr, fun e => e.elim (fun e => absurd (by cases e; rfl) h) id⟩
theorem lkp_none {T : List (Id8 × V)} {x : Id8} : lkp x T = none ↔ x ∉ Keys T := by
  induction T with
  | nil => simp [lkp, Keys]
  | cons p T ih =>
    obtain ⟨y, u⟩ := p
    unfold Keys at *
    by_cases h : y = x
    · subst h; simp [lkp]
    · rw [lkp, if_neg h, ih]
      simp [Ne.symm h]
theorem lkp_perm {T U : List (Id8 × V)} (h : T.Perm U) (hn : (Keys T).Nodup) (x : Id8) : lkp x T = lkp x U := by
  have hn2 : (Keys U).Nodup := (h.map _).nodup_iff.1 hn
  cases hv : lkp x T with
  | none =>
    symm
    rw [lkp_none] at hv ⊢
    exact fun e => hv ((h.map (·.1)).mem_iff.2 e)
  | some v =>
    symm
    rw [lkp_mem hn] at hv
    rw [lkp_mem hn2]
    exact h.mem_iff.1 hv
theorem keys_delM (T : List (Id8 × V)) (x : Id8) : Keys (delM T x) = (Keys T).filter fun y => decide (y ≠ x) := by
  unfold Keys delM
  rw [List.filter_map]; rfl
theorem delM_none {T : List (Id8 × V)} {x : Id8} (h : x ∉ Keys T) : delM T x = T := by
  unfold delM
  rw [List.filter_eq_self]
  intro p hp
  simp
  intro e
  exact h (List.mem_map.2 ⟨p, hp, e⟩)
theorem nodup_delM {T : List (Id8 × V)} (h : (Keys T).Nodup) (x : Id8) : (Keys (delM T x)).Nodup := by rw [keys_delM]; exact h.sublist List.filter_sublist
theorem nodup_putM {T : List (Id8 × V)} (h : (Keys T).Nodup) (x : Id8) (v : V) : (Keys (putM T x v)).Nodup := by
  unfold putM
  show (x :: Keys (delM T x)).Nodup
  rw [List.nodup_cons]
  refine ⟨?_, nodup_delM h x⟩
  rw [keys_delM]; simp
theorem lkp_putM (T : List (Id8 × V)) (x y : Id8) (v : V) : lkp y (putM T x v) = if x = y then some v else lkp y T := by
  unfold putM
  rw [lkp]
  by_cases h : x = y
  · rw [if_pos h, if_pos h]
  · rw [if_neg h, if_neg h]
    unfold delM
    induction T with
    | nil => rfl
    | cons p T ih =>
      obtain ⟨z, u⟩ := p
      by_cases hz : z = x
      · subst hz
        rw [List.filter_cons_of_neg (by simp), ih, lkp, if_neg h]
      · rw [List.filter_cons_of_pos (by simpa using hz), lkp, lkp, ih]
theorem mem_keys_putM {T : List (Id8 × V)} {x y : Id8} {v : V} : y ∈ Keys (putM T x v) ↔ y = x ∨ y ∈ Keys T := by
  unfold putM
  show y ∈ x :: Keys (delM T x) ↔ _
  rw [List.mem_cons, keys_delM, List.mem_filter]
  by_cases h : y = x
  · simp [h]
  · simp [h]

/-- Block b of w is a map that holds T. -/
def MapIs (f : V → Value) (w : World) (b : Nat) (T : List (Id8 × V)) : Prop :=
  ∃ m clk U, mapAt w .u8 b m clk ∧ U.Perm T ∧ m.map Ent.id = U.map (fun p => p.1.1) ∧ m.map Ent.val = U.map (fun p => f p.2) ∧ (Keys U).Nodup ∧ (m.map Ent.born).Nodup ∧ ∀ e ∈ m, e.born < clk
variable {f : V → Value} {w w' : World} {b : Nat} {T : List (Id8 × V)}
theorem MapIs.nodup (h : MapIs f w b T) : (Keys T).Nodup := by
  obtain ⟨m, clk, U, _, hp, _, _, hn, _⟩ := h
  exact (hp.map _).nodup_iff.1 hn
theorem MapIs.perm (h : MapIs f w b T) {T2 : List (Id8 × V)} (hp : T.Perm T2) : MapIs f w b T2 := by
  obtain ⟨m, clk, U, h1, h2, h3⟩ := h
  exact ⟨m, clk, U, h1, h2.trans hp, h3⟩
theorem MapIs.same (h : MapIs f w b T) (hb : w'.heap[b]? = w.heap[b]?) : MapIs f w' b T := by
  obtain ⟨m, clk, U, h1, h3⟩ := h
  exact ⟨m, clk, U, hb.trans h1, h3⟩
theorem MapIs.lt (h : MapIs f w b T) : b < w.heap.size := by
  obtain ⟨m, clk, U, h1, _⟩ := h
  exact heap_lt h1
theorem MapIs.kept (h : MapIs f w b T) (hb : Below w.heap.size w w') : MapIs f w' b T := h.same (hb.block b h.lt)
theorem MapIs.obj (h : MapIs f w b T) : ∃ o, w.heap[b]? = some o ∧ o.isCells = false := by
  obtain ⟨m, clk, U, h1, _⟩ := h
  exact ⟨_, h1, rfl⟩
theorem MapIs.new (w : World) : MapIs f (w.alloc (.map #[] 0)) w.heap.size [] :=
  ⟨[], 0, [], heap_alloc_new _ _, List.Perm.nil, rfl, rfl, List.nodup_nil, List.nodup_nil, by simp⟩
theorem fnd_shift (x : List Int) : ∀ (m : List Ent) (i : Nat), fnd x m (i + 1) = (fnd x m i).map fun p => (p.1 + 1, p.2)
  | [], _ => rfl
  | e :: m, i => by
    unfold fnd
    by_cases h : x = e.id
    · rw [if_pos h, if_pos h]; rfl
    · rw [if_neg h, if_neg h]; exact fnd_shift x m (i + 1)
theorem fnd_lkp (x : Id8) : ∀ (m : List Ent) (U : List (Id8 × V)) (i : Nat), m.map Ent.id = U.map (fun p => p.1.1) → m.map Ent.val = U.map (fun p => f p.2) → (fnd x.1 m i).map (·.2) = (lkp x U).map f
  | [], [], _, _, _ => rfl
  | [], _ :: _, _, h, _ => by simp at h
  | _ :: _, [], _, h, _ => by simp at h
  | e :: m, (y, u) :: U, i, h1, h2 => by
    simp only [List.map_cons, List.cons.injEq] at h1 h2
    unfold fnd lkp
    by_cases h : y = x
    · subst h
      rw [if_pos h1.1.symm, if_pos rfl]
      simp [h2.1]
    · rw [if_neg (fun e2 => h (Subtype.ext (h1.1.symm.trans e2.symm))), if_neg h]
      exact fnd_lkp x m U (i + 1) h1.2 h2.2
theorem upd_cons (e : Ent) (m : List Ent) (x : List Int) (v : Value) (clk : Nat) : upd (e :: m) x v clk = if x = e.id then { e with id := x, val := v } :: m else e :: upd m x v clk := by
  by_cases h : x = e.id
  · rw [if_pos h]
    unfold upd
    have hf : fnd x (e :: m) 0 = some (0, e.val) := by unfold fnd; rw [if_pos h]
    rw [hf]; rfl
  · rw [if_neg h]
    have hf : fnd x (e :: m) 0 = (fnd x m 0).map fun p => (p.1 + 1, p.2) := by
      conv => lhs; unfold fnd
      rw [if_neg h]; exact fnd_shift x m 0
    unfold upd
    rw [hf]
    cases fnd x m 0 with
    | none => rfl
    | some p => rfl
theorem upd_put (x : Id8) (v : V) (clk : Nat) : ∀ (m : List Ent) (U : List (Id8 × V)), m.map Ent.id = U.map (fun p => p.1.1) → m.map Ent.val = U.map (fun p => f p.2) → (Keys U).Nodup → ∃ U' : List (Id8 × V), U'.Perm (putM U x v) ∧ (upd m x.1 (f v) clk).map Ent.id = U'.map (fun p => p.1.1) ∧ (upd m x.1 (f v) clk).map Ent.val = U'.map (fun p => f p.2)
  | [], [], _, _, _ => ⟨[(x, v)], List.Perm.refl _, rfl, rfl⟩
  | [], _ :: _, h, _, _ => by simp at h
  | _ :: _, [], h, _, _ => by simp at h
  | e :: m, (y, u) :: U, h1, h2, hn => by
    simp only [List.map_cons, List.cons.injEq] at h1 h2
    unfold Keys at hn
    rw [List.map_cons, List.nodup_cons] at hn
    rw [upd_cons]
    by_cases h : y = x
    · subst h
      rw [if_pos h1.1.symm]
      refine ⟨(y, v) :: U, ?_, by simp [h1.2], by simp [h2.2]⟩
      unfold putM
      have hd : delM ((y, u) :: U) y = U := by
        have h3 := delM_none (T := U) (x := y) hn.1
        unfold delM at *
        rw [List.filter_cons_of_neg (by simp), h3]
      rw [hd]
    · rw [if_neg (fun e2 => h (Subtype.ext (h1.1.symm.trans e2.symm)))]
      obtain ⟨U', p1, p2, p3⟩ := upd_put x v clk m U h1.2 h2.2 hn.2
      refine ⟨(y, u) :: U', ?_, by simp [h1.1, p2], by simp [h2.1, p3]⟩
      unfold putM at *
      have hd : delM ((y, u) :: U) x = (y, u) :: delM U x := by
        unfold delM
        rw [List.filter_cons_of_pos (by simpa using h)]
      rw [hd]
      exact (List.Perm.cons _ p1).trans (List.Perm.swap _ _ _)
theorem upd_born (x : List Int) (v : Value) (clk : Nat) (m : List Ent) (hn : (m.map Ent.born).Nodup) (hl : ∀ e ∈ m, e.born < clk) : ((upd m x v clk).map Ent.born).Nodup ∧ ∀ e ∈ upd m x v clk, e.born < updClk m x clk := by
  unfold upd updClk
  cases hf : fnd x m 0 with
  | none =>
    refine ⟨?_, ?_⟩
    · show ((m ++ [_]).map Ent.born).Nodup
      rw [List.map_append, List.nodup_append]
      refine ⟨hn, by simp, ?_⟩
      intro a ha c hc
      simp at hc
      obtain ⟨e, he, rfl⟩ := List.mem_map.1 ha
      have := hl e he
      omega
    · intro e he
      show e.born < clk + 1
      rcases List.mem_append.1 he with he | he
      · have := hl e he; omega
      · simp at he; rw [he]; exact Nat.lt_succ_self clk
  | some p =>
    have hb : (m.modify p.1 fun e => { e with id := x, val := v }).map Ent.born = m.map Ent.born := by
      apply List.ext_getElem?
      intro j
      rw [List.getElem?_map, List.getElem?_map, List.getElem?_modify]
      cases m[j]? with
      | none => rfl
      | some e => by_cases h : p.1 = j <;> simp [h]
    refine ⟨by show ((m.modify p.1 _).map Ent.born).Nodup; rw [hb]; exact hn, fun e he => ?_⟩
    have h1 : e.born ∈ (m.modify p.1 fun e => { e with id := x, val := v }).map Ent.born := List.mem_map.2 ⟨e, he, rfl⟩
    rw [hb] at h1
    obtain ⟨e', he', h2⟩ := List.mem_map.1 h1
    show e.born < clk
    rw [← h2]; exact hl e' he'
theorem ids_len {m : List Ent} {U : List (Id8 × V)} (h : m.map Ent.id = U.map (fun p => p.1.1)) : ∀ y ∈ m, y.id.length = 8 := fun y hy => by
  have h1 : y.id ∈ m.map Ent.id := List.mem_map_of_mem hy
  rw [h] at h1
  obtain ⟨p, _, hp⟩ := List.mem_map.1 h1
  rw [← hp]; exact p.1.2.1
section
variable {P : Program} {TM K VT e : Nat} (H : KeyOk P K 8 e .u8) (hT : P.underlying TM = some (.map K VT))
include H hT
theorem MapIs.val (h : MapIs f w b T) (x : Id8) {z : Value} (hz : (zeroValue VT).run P w = .ok z w) : (Instr.lookup TM (.map (some b)) (.agg (bys x.1)) false).run P w = .ok (((lkp x T).map f).getD z) w := by
  have hnT := h.nodup
  obtain ⟨m, clk, U, h1, h2, h3, h4, h5, _⟩ := h
  have hr := run_lookup_val H hT x.1 x.2.1 w b m clk h1 (ids_len h3) z hz
  rw [fnd_lkp (f := f) x m U 0 h3 h4, lkp_perm h2 h5] at hr
  exact hr
theorem MapIs.ok (h : MapIs f w b T) (x : Id8) {z : Value} (hz : (zeroValue VT).run P w = .ok z w) : (Instr.lookup TM (.map (some b)) (.agg (bys x.1)) true).run P w = .ok (.tuple #[((lkp x T).map f).getD z, .bool (lkp x T).isSome]) w := by
  obtain ⟨m, clk, U, h1, h2, h3, h4, h5, _⟩ := h
  have hr := run_lookup_ok H hT x.1 x.2.1 w b m clk h1 (ids_len h3) z hz
  have hs : (fnd x.1 m 0).isSome = (lkp x U).isSome := by
    have := fnd_lkp (f := f) x m U 0 h3 h4
    rw [← Option.isSome_map (f := (·.2)), this, Option.isSome_map]
  rw [fnd_lkp (f := f) x m U 0 h3 h4, hs, lkp_perm h2 h5] at hr
  exact hr
theorem MapIs.put (h : MapIs f w b T) (x : Id8) (v : V) : ∃ w', (Instr.mapUpdate TM (.map (some b)) (.agg (bys x.1)) (f v)).run P w = .ok () w' ∧ MapIs f w' b (putM T x v) ∧ w.grownBy w' (some b) := by
  obtain ⟨m, clk, U, h1, h2, h3, h4, h5, h6, h7⟩ := h
  have hr := run_update H hT x.1 x.2.1 (f v) w b m clk h1 (ids_len h3)
  obtain ⟨U', p1, p2, p3⟩ := upd_put (f := f) x v clk m U h3 h4 h5
  obtain ⟨q1, q2⟩ := upd_born x.1 (f v) clk m h6 h7
  refine ⟨_, hr, ⟨upd m x.1 (f v) clk, updClk m x.1 clk, U', putObj_same h1, p1.trans ?_, p2, p3, (List.Perm.map (fun p : Id8 × V => p.1) p1).nodup_iff.2 (nodup_putM h5 x v), q1, q2⟩, ⟨rfl, rfl, rfl, by rw [putObj_size]; exact Nat.le_refl _, fun j _ hj => putObj_other w b _ (fun e => hj (by rw [e]))⟩⟩
  exact List.Perm.cons _ (h2.filter _)
omit H in
theorem MapIs.len (h : MapIs f w b T) (ty : TypeId) : (Builtin.len_ #[TM] ty #[.map (some b)]).run P w = .ok (.int .i64 T.length) w := by
  obtain ⟨m, clk, U, h1, h2, h3, _⟩ := h
  have h4 : m.length = T.length := by rw [← h2.length_eq, ← List.length_map (f := Ent.id), h3, List.length_map]
  rw [← h4]
  exact run_len_map hT ty w b m clk h1
end
end
end Go.Proofs.Ytkaalppmheikgaa
