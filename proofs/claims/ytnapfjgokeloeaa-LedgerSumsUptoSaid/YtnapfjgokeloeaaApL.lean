/- A list in memory that is appended to one of the call's own. -/
import Derived.Test.YtnapfjgokeloeaaTwB
import Derived.Maps.AppendAt
namespace Go.Proofs.Ytnapfjgokeloeaa
open Go.RowKit

theorem fl_at {α : Type} {f : α → Array Value} {s : Nat} (hs : ∀ x, (f x).size = s) : ∀ (l : List α) (j : Nat) (u : Value), (fl f l)[j]? = some u → ∃ i x r, l[i]? = some x ∧ (f x)[r]? = some u ∧ j = s * i + r
  | [], j, u, h => by simp [fl] at h
  | a :: l, j, u, h => by
    have h0 : fl f (a :: l) = (f a).toList ++ fl f l := rfl
    rw [h0] at h
    by_cases hj : j < s
    · rw [List.getElem?_append_left (by rw [Array.length_toList, hs]; exact hj), Array.getElem?_toList] at h
      exact ⟨0, a, j, rfl, h, by omega⟩
    · rw [List.getElem?_append_right (by rw [Array.length_toList, hs]; omega), Array.length_toList, hs] at h
      obtain ⟨i, x, r, h1, h2, h3⟩ := fl_at hs l _ u h
      exact ⟨i + 1, x, r, by simpa using h1, h2, by rw [Nat.mul_add]; omega⟩
section
variable {P : Program} {w : World}
theorem run_append_none (base : Nat) (t ty e : TypeId) (i : TypeInfo) (size : Nat) (ht : P.underlying t = some (.slice e)) (hi : P.info? e = some i) (v : Value) (n : Nat) (xs : List Value) (hown : w.ownsRow base e size v n xs) (c : Nat) :
    (Builtin.append_ #[t, t] ty #[v, .slice none 0 c]).run P w = .ok v w := by
  rcases hown.2 with ⟨rfl, rfl⟩ | ⟨g, cap, cur, rfl, hbg, hg, hnc, hcm, hcs, htake⟩
  · simp [Builtin.append_, run_underlying ht, sizeOf, typeInfo, hi, Builtin.lenOf, Builtin.firstCells]
  · have hn : n + 0 ≤ cap := by omega
    simp [Builtin.append_, run_underlying ht, sizeOf, typeInfo, hi, Builtin.lenOf, Builtin.firstCells, loadCells, hnc, storeCells]
/-- append(v, l...): v is the call's own. -/
theorem run_append_list {α : Type} {f : α → Array Value} (base : Nat) (t ty e : TypeId) (i : TypeInfo) (z : Value) (size bytes : Nat) (ht : P.underlying t = some (.slice e)) (hi : P.info? e = some i) (hz : i.zero = some z)
    (hsize : i.size = size) (hby : i.bytes = bytes) (hzs : z.cells.size = size) (hsz : 0 < size) (v : Value) (n : Nat) (xs : List Value) (hown : w.ownsRow base e size v n xs)
    (hf : ∀ x, (f x).size = size) (A : Option Addr) (c : Nat) (l : List α) (hr : RowsAt size f w A l) (h1 : ∀ x, ∀ u ∈ (f x).toList, u.oneCell' = true)
    (h63 : n + l.length ≤ maxLen) (hbytes : (n + l.length) * bytes ≤ 140737488355328) (hbase : base ≤ w.heap.size) :
    ∃ v' w', (Builtin.append_ #[t, t] ty #[v, .slice A l.length c]).run P w = .ok v' w' ∧ w'.ownsRow base e size v' (n + l.length) (xs ++ fl f l) ∧ w.grownBy w' v.ownBlock := by
  have h1' : ∀ u ∈ fl f l, u.oneCell' = true := fun u hu => by
    obtain ⟨x, _, hx⟩ := List.mem_flatMap.1 hu
    exact h1 x u hx
  rcases hr with rfl | ⟨g, o, rfl, hg, hc⟩
  · cases A with
    | none =>
      refine ⟨v, w, run_append_none base t ty e i size ht hi v n xs hown c, ?_, ⟨rfl, rfl, rfl, Nat.le_refl _, fun _ _ _ => rfl⟩⟩
      simpa [fl] using hown
    | some ad =>
      obtain ⟨v', w', hr, h2, h3, _⟩ := run_append_own_at (P := P) w base t ty e i z size bytes ht hi hz hsize hby hzs hsz v n xs hown ad 0 c [] (by simp) (fun j u h => by simp at h) (fun u h => by simp at h) (by simpa using h63) (by simpa using hbytes) hbase
      exact ⟨v', w', hr, by simpa [fl] using h2, h3⟩
  · obtain ⟨v', w', hr, h2, h3, _⟩ := run_append_own_at (P := P) w base t ty e i z size bytes ht hi hz hsize hby hzs hsz v n xs hown ⟨g, o, none⟩ l.length c (fl f l) (by rw [fl_len hf]) (fun j u h => by
      obtain ⟨k, x, r, q1, q2, q3⟩ := fl_at hf l j u h
      have := hc k x q1 r u q2
      have ha : (⟨g, o, none⟩ : Addr).add j = ⟨g, o + j, none⟩ := by unfold Addr.add; split <;> simp_all
      rw [ha, q3, show o + (size * k + r) = o + size * k + r by omega]; exact this) h1' h63 hbytes hbase
    exact ⟨v', w', hr, h2, h3⟩
theorem wpList_append_list {ops : Array Oper} {rest : List Oper} {o : Oper} {a : Act} {Q : Exit → Act → World → Prop} (hgd : o.guard = none) (s x : Operand) (t : TypeId)
    (ho : o.op = .call { callee := .builtin .append, args := #[s, x], argTypes := #[t, t] })
    {α : Type} {f : α → Array Value} (base : Nat) (e : TypeId) (i : TypeInfo) (z : Value) (size bytes : Nat) (ht : P.underlying t = some (.slice e)) (hi : P.info? e = some i) (hz : i.zero = some z)
    (hsize : i.size = size) (hby : i.bytes = bytes) (hzs : z.cells.size = size) (hsz : 0 < size) (v : Value) (n : Nat) (xs : List Value) (hs : a.eval s = v) (hown : w.ownsRow base e size v n xs)
    (hf : ∀ x, (f x).size = size) (A : Option Addr) (c : Nat) (l : List α) (hx : a.eval x = .slice A l.length c) (hr : RowsAt size f w A l) (h1 : ∀ x, ∀ u ∈ (f x).toList, u.oneCell' = true)
    (h63 : n + l.length ≤ maxLen) (hbytes : (n + l.length) * bytes ≤ 140737488355328) (hbase : base ≤ w.heap.size)
    (h : ∀ v' w', w'.ownsRow base e size v' (n + l.length) (xs ++ fl f l) → w.grownBy w' v.ownBlock → wpList P ops Q rest (a.put o.dst v') w') :
    wpList P ops Q (o :: rest) a w := by
  refine wpList_plain hgd fun K hK => ?_
  obtain ⟨v', w', hrun, h2, h3⟩ := run_append_list (P := P) base t o.type e i z size bytes ht hi hz hsize hby hzs hsz v n xs hown hf A c l hr h1 h63 hbytes hbase
  unfold Oper.wp execOp
  simp only [ho, resolve, invoke, builtin, Sem.run_bind, Sem.run_pure, Result.andThen_ok, List.map_toArray, List.map_cons, List.map_nil, hs, hx, hrun]
  exact hK _ _ (h v' w' h2 h3)
theorem wpList_append_listN {ops : Array Oper} {rest : List Oper} {o : Oper} {a : Act} {Q : Exit → Act → World → Prop} (hgd : o.guard = none) (s x : Operand) (t : TypeId)
    (ho : o.op = .call { callee := .builtin .append, args := #[s, x], argTypes := #[t, t] })
    {α : Type} {f : α → Array Value} (base : Nat) (e : TypeId) (i : TypeInfo) (z : Value) (size bytes : Nat) (ht : P.underlying t = some (.slice e)) (hi : P.info? e = some i) (hz : i.zero = some z)
    (hsize : i.size = size) (hby : i.bytes = bytes) (hzs : z.cells.size = size) (hsz : 0 < size) (v : Value) (n : Nat) (xs : List Value) (hs : a.eval s = v) (hown : w.ownsRow base e size v n xs)
    (hf : ∀ x, (f x).size = size) (A : Option Addr) (c : Nat) (l : List α) (m : Nat) (hm : l.length = m) (hx : a.eval x = .slice A m c) (hr : RowsAt size f w A l) (h1 : ∀ x, ∀ u ∈ (f x).toList, u.oneCell' = true)
    (h63 : n + m ≤ maxLen) (hbytes : (n + m) * bytes ≤ 140737488355328) (hbase : base ≤ w.heap.size)
    (h : ∀ v' w', w'.ownsRow base e size v' (n + m) (xs ++ fl f l) → w.grownBy w' v.ownBlock → wpList P ops Q rest (a.put o.dst v') w') :
    wpList P ops Q (o :: rest) a w := by
  subst hm
  refine wpList_plain hgd fun K hK => ?_
  obtain ⟨v', w', hrun, h2, h3⟩ := run_append_list (P := P) base t o.type e i z size bytes ht hi hz hsize hby hzs hsz v n xs hown hf A c l hr h1 h63 hbytes hbase
  unfold Oper.wp execOp
  simp only [ho, resolve, invoke, builtin, Sem.run_bind, Sem.run_pure, Result.andThen_ok, List.map_toArray, List.map_cons, List.map_nil, hs, hx, hrun]
  exact hK _ _ (h v' w' h2 h3)
end
end Go.Proofs.Ytnapfjgokeloeaa
