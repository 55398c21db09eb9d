/- The ledger's walk: Settle. -/
import Derived.Test.YtnapfjgokeloeaaLedA
import Derived.Test.YtnapfjgokeloeaaTwEntry
namespace Go.Proofs.Ytnapfjgokeloeaa
open Go.RowKit

def zId : Id8 := ⟨zs 8, zs_B8⟩
/-- Whose balance is above 0; below it. -/
def hasL (T : List (Id8 × Ac)) (l : List Id8) : List En := l.flatMap fun x => if 0 < (acOf T x).bal then [⟨x, zId, (acOf T x).bal⟩] else []
def owesL (T : List (Id8 × Ac)) (l : List Id8) : List En := l.flatMap fun x => if (acOf T x).bal < 0 then [⟨zId, x, -(acOf T x).bal⟩] else []
theorem hasL_snoc (T : List (Id8 × Ac)) (l : List Id8) (x : Id8) : hasL T (l ++ [x]) = hasL T l ++ (if 0 < (acOf T x).bal then [⟨x, zId, (acOf T x).bal⟩] else []) := by unfold hasL; simp
theorem owesL_snoc (T : List (Id8 × Ac)) (l : List Id8) (x : Id8) : owesL T (l ++ [x]) = owesL T l ++ (if (acOf T x).bal < 0 then [⟨zId, x, -(acOf T x).bal⟩] else []) := by unfold owesL; simp
theorem hasL_len (T : List (Id8 × Ac)) (l : List Id8) : (hasL T l).length ≤ l.length := by
  induction l with
  | nil => simp [hasL]
  | cons x l ih =>
    have h : hasL T (x :: l) = (if 0 < (acOf T x).bal then [⟨x, zId, (acOf T x).bal⟩] else []) ++ hasL T l := rfl
    rw [h, List.length_append, List.length_cons]
    split <;> simp <;> omega
theorem owesL_len (T : List (Id8 × Ac)) (l : List Id8) : (owesL T l).length ≤ l.length := by
  induction l with
  | nil => simp [owesL]
  | cons x l ih =>
    have h : owesL T (x :: l) = (if (acOf T x).bal < 0 then [⟨zId, x, -(acOf T x).bal⟩] else []) ++ owesL T l := rfl
    rw [h, List.length_append, List.length_cons]
    split <;> simp <;> omega
/-- The pairs. -/
def lessN (e : En) (n : Int) (l : List En) : List En := if e.amt - n = 0 then l else ⟨e.fr, e.to, e.amt - n⟩ :: l
def stlF : Nat → List En → List En → List En
  | 0, _, _ => []
  | _ + 1, [], _ => []
  | _ + 1, _ :: _, [] => []
  | n + 1, h :: hs, o :: os => ⟨h.fr, o.to, min h.amt o.amt⟩ :: stlF n (lessN h (min h.amt o.amt) hs) (lessN o (min h.amt o.amt) os)
def stl (hs os : List En) : List En := stlF (hs.length + os.length) hs os
/-- What Settle tells. -/
def settleF (T : List (Id8 × Ac)) : List En := stl (hasL T (sortI (Keys T))) (owesL T (sortI (Keys T)))
set_option maxRecDepth 100000 in
theorem build_has (x : Id8) (n : Int) (w : World) : (Instr.build 35 #[(0, .agg (bys x.1)), (2, .int .i64 n)]).run Try.prog w = .ok (.agg (enE ⟨x, zId, n⟩)) w := by
  obtain ⟨a, b, c, d, e, f, g, h, hx⟩ := id8_list x
  unfold enE
  simp only [hx]
  kernel_rfl
set_option maxRecDepth 100000 in
theorem build_owes (x : Id8) (n : Int) (w : World) : (Instr.build 35 #[(1, .agg (bys x.1)), (2, .int .i64 n)]).run Try.prog w = .ok (.agg (enE ⟨zId, x, n⟩)) w := by
  obtain ⟨a, b, c, d, e, f, g, h, hx⟩ := id8_list x
  unfold enE
  simp only [hx]
  kernel_rfl
theorem wpList_build_run {P : Program} {ops : Array Oper} {rest : List Oper} {o : Oper} {a : Act} {w : World} {Q : Exit → Act → World → Prop} (hg : o.guard = none) (t : TypeId) (parts : Array (Nat × Operand)) (ho : o.op = .build t parts) (v : Value)
    (hr : (Instr.build t (parts.map fun q => (q.1, a.eval q.2))).run P w = .ok v w) (h : wpList P ops Q rest (a.put o.dst v) w) : wpList P ops Q (o :: rest) a w :=
  wpList_plain hg fun K' hK' => by
    unfold Oper.wp
    rw [exec_build t parts ho hr]
    exact hK' _ _ h
/-- What is left of a row of entries. -/
def TlAt (w : World) (g o c : Nat) (l : List En) : Prop := l.length ≤ c ∧ (∃ cur, w.heap[g]? = some (.cells cur 35 (0, 0))) ∧ ∀ (i : Nat) x, l[i]? = some x → CellsAt w g (o + 17 * i) (enE x)
section
variable {w w' : World} {g o c : Nat} {h : En} {l : List En}
theorem TlAt.same (ht : TlAt w g o c l) (hs : w'.heap[g]? = w.heap[g]?) : TlAt w' g o c l :=
  ⟨ht.1, by rw [hs]; exact ht.2.1, fun i x hx j v hj => by
    have := ht.2.2 i x hx j v hj
    unfold World.cell? at this ⊢
    rw [hs]; exact this⟩
theorem TlAt.lt (ht : TlAt w g o c l) : g < w.heap.size := by obtain ⟨cur, h⟩ := ht.2.1; exact heap_lt h
theorem TlAt.head (ht : TlAt w g o c (h :: l)) : CellsAt w g o (enE h) := ht.2.2 0 h rfl
theorem TlAt.free (ht : TlAt w g o c l) (k : Nat) : w.frozen? ⟨g, k, none⟩ = false := by obtain ⟨cur, h⟩ := ht.2.1; exact free_row h k
theorem TlAt.tail (ht : TlAt w g o c (h :: l)) : TlAt w g (o + 17) (c - 1) l := by
  have h1 := ht.1
  rw [List.length_cons] at h1
  refine ⟨by omega, ht.2.1, fun i x hx => ?_⟩
  have := ht.2.2 (i + 1) x hx
  rwa [show o + 17 * (i + 1) = o + 17 + 17 * i by omega] at this
theorem enE_amt (x : En) (m : Int) (j : Nat) : (enE ⟨x.fr, x.to, m⟩)[j]? = if j = 16 then some (.int .i64 m) else (enE x)[j]? := by
  have h1 : (bys x.fr.1).size = 8 := by rw [bys_size, x.fr.2.1]
  have h2 : (bys x.to.1).size = 8 := by rw [bys_size, x.to.2.1]
  unfold enE
  rw [Array.getElem?_push, Array.getElem?_push, Array.size_append, h1, h2]
  by_cases h : j = 16
  · rw [if_pos (by omega), if_pos h]
  · rw [if_neg (by omega), if_neg h, if_neg (by omega)]
theorem cell_setCell {w : World} {g o k : Nat} {cs : Array Value} {t : TypeId} {fr : Nat × Nat} {v : Value} (hg : w.heap[g]? = some (.cells cs t fr)) : (w.setCell ⟨g, o, none⟩ v).cell? ⟨g, k, none⟩ = (cs.setIfInBounds o v)[k]? :=
  cell_of_row _ _ _ _ _ _ (row_setCell hg o v)
theorem TlAt.set (ht : TlAt w g o c (h :: l)) (m : Int) : TlAt (w.setCell ⟨g, o + 16, none⟩ (.int .i64 m)) g o c (⟨h.fr, h.to, m⟩ :: l) := by
  obtain ⟨h1, ⟨cur, h2⟩, h3⟩ := ht
  refine ⟨h1, ⟨_, row_setCell h2 _ _⟩, fun i x hx j v hj => ?_⟩
  rw [cell_setCell h2, Array.getElem?_setIfInBounds]
  cases i with
  | zero =>
    obtain rfl : (⟨h.fr, h.to, m⟩ : En) = x := by simpa using hx
    rw [enE_amt] at hj
    by_cases hj6 : j = 16
    · rw [if_pos hj6] at hj
      have h4 := h3 0 h rfl 16 (.int .i64 h.amt) (enE_get h).2.2
      rw [cell_of_row _ _ _ _ _ _ h2] at h4
      have h5 := (Array.getElem?_eq_some_iff.1 h4).1
      rw [if_pos (by omega), if_pos (by omega)]; exact hj
    · rw [if_neg hj6] at hj
      rw [if_neg (by omega)]
      have h4 := h3 0 h rfl j v hj
      rwa [cell_of_row _ _ _ _ _ _ h2] at h4
  | succ i =>
    have hx' : l[i]? = some x := hx
    have hj' : j < 17 := by have := (Array.getElem?_eq_some_iff.1 hj).1; rwa [enE_size] at this
    rw [if_neg (by omega)]
    have h4 := h3 (i + 1) x hx j v hj
    rwa [cell_of_row _ _ _ _ _ _ h2] at h4
theorem TlAt.of_own {base n cap : Nat} {a : Option Addr} (ho : w.ownsRow base 35 17 (.slice a n cap) n (fl enE l)) (hn : n = l.length) (hne : l ≠ []) : ∃ g, a = some ⟨g, 0, none⟩ ∧ base ≤ g ∧ TlAt w g 0 cap l := by
  subst hn
  obtain ⟨a', c', e1, hr⟩ := Row.rows enE_size rfl (Row.of_owns ho)
  obtain ⟨_, ⟨h1, h2⟩ | ⟨g, c2, cur, h1, h2, h3, h4, _⟩⟩ := ho
  · exact absurd (List.eq_nil_of_length_eq_zero h2) hne
  · cases h1
    cases e1
    refine ⟨g, rfl, h2, h4, ⟨cur, h3⟩, fun i x hx => ?_⟩
    rcases hr with hr | ⟨g', o', h5, _, h7⟩
    · exact absurd hr hne
    · cases h5; exact h7 i x hx
theorem ownsRow_low {b2 base size n : Nat} {e : TypeId} {v : Value} {xs : List Value} (hb : b2 ≤ base) (h : w.ownsRow base e size v n xs) : w.ownsRow b2 e size v n xs := by
  obtain ⟨h0, h1 | ⟨g, cap, cur, h1, h2, h3⟩⟩ := h
  · exact ⟨h0, .inl h1⟩
  · exact ⟨h0, .inr ⟨g, cap, cur, h1, Nat.le_trans hb h2, h3⟩⟩
theorem exec_load_cells {P : Program} {ρ : Operand → Value} {o : Oper} {w : World} (ty : TypeId) (x : Operand) (ho : o.op = .load ty x) (g off : Nat) (hx : ρ x = .pointer (some ⟨g, off, none⟩)) {vs : Array Value} {d : TypeDesc} (hc : CellsAt w g off vs)
    (hu : P.underlying ty = some d) (hd : (match d with | .struct _ | .array _ _ => true | _ => false) = true) (hi : (P.info? ty).map (·.size) = some vs.size) : (execOp ρ o).run P w = .ok (.value (.agg vs)) w := by
  unfold execOp
  simp only [ho, hx, Instr.loadAt, Instr.sureAddr, Sem.run_bind, Sem.run_pure, Result.andThen_ok, run_loadVar_cells w g off d vs hc hu hd hi]
theorem step_append_own {P : Program} {w : World} {ops : Array Oper} {o : Oper} {a : Act} {K : Act → World → Prop} {Q : Exit → Act → World → Prop} {EE : Prop} (hgd : o.guard = none) (s x : Operand) (t : TypeId)
    (ho : o.op = .call { callee := .builtin .append, args := #[s, x], argTypes := #[t, t] })
    (base : Nat) (e : TypeId) (i : TypeInfo) (z : Value) (size bytes : Nat) (ht : P.underlying t = some (.slice e)) (hi : P.info? e = some i) (hz : i.zero = some z)
    (hsize : i.size = size) (hby : i.bytes = bytes) (hzs : z.cells.size = size) (hsz : 0 < size)
    (v : Value) (n : Nat) (xs : List Value) (hs : a.eval s = v) (hown : w.ownsRow base e size v n xs)
    (ad : Addr) (m c : Nat) (news : List Value) (hx : a.eval x = .slice (some ad) m c) (hl : news.length = m * size) (hnews : ∀ j u, news[j]? = some u → w.cell? (ad.add j) = some u) (h1 : ∀ u ∈ news, u.oneCell' = true)
    (h63 : n + m ≤ maxLen) (hbytes : (n + m) * bytes ≤ 140737488355328) (hbase : base ≤ w.heap.size)
    (h : ∀ v' w', w'.ownsRow base e size v' (n + m) (xs ++ news) → w.grownBy w' v.ownBlock → K (a.put o.dst v') w') :
    if Region.wanted o (yielded ops a.tmps) = true then Oper.wp P o a w K Q else EE := by
  have hw : Region.wanted o (yielded ops a.tmps) = true := by simp [Region.wanted, hgd]
  rw [if_pos hw]
  obtain ⟨v', w', hrun, r1, r2, _⟩ := run_append_own_at (P := P) w base t o.type e i z size bytes ht hi hz hsize hby hzs hsz v n xs hown ad m c news hl hnews h1 h63 hbytes hbase
  unfold Oper.wp execOp
  simp only [ho, resolve, invoke, builtin, Sem.run_bind, Sem.run_pure, Result.andThen_ok, List.map_toArray, List.map_cons, List.map_nil, hs, hx, hrun]
  exact h v' w' r1 r2
def slLen : Value → Nat
  | .slice _ n _ => n
  | _ => 0
/-- What is left of a list, as a value. -/
def TlV (w : World) (gh base : Nat) (u : Value) (l : List En) : Prop := ∃ a c, u = .slice a l.length c ∧ (l ≠ [] → ∃ o, a = some ⟨gh, o, none⟩ ∧ TlAt w gh o c l ∧ base ≤ gh)
theorem TlV.same {gh base : Nat} {u : Value} (h : TlV w gh base u l) (hs : w'.heap[gh]? = w.heap[gh]?) : TlV w' gh base u l := by
  obtain ⟨a, c, h1, h2⟩ := h
  refine ⟨a, c, h1, fun hl => ?_⟩
  obtain ⟨o, h3, h4, h5⟩ := h2 hl
  exact ⟨o, h3, h4.same hs, h5⟩
theorem TlV.tail {base : Nat} (ht : TlAt w g o c (h :: l)) (hb : base ≤ g) : TlV w g base (.slice (if c = 1 then some ⟨g, o, none⟩ else some ⟨g, o + 17, none⟩) l.length (c - 1)) l := by
  refine ⟨_, _, rfl, fun hl => ⟨o + 17, ?_, ht.tail, hb⟩⟩
  have h1 := ht.1
  rw [List.length_cons] at h1
  have h2 : 0 < l.length := List.length_pos_iff.2 hl
  rw [if_neg (by omega)]
theorem TlV.stay {base : Nat} (ht : TlAt w g o c (h :: l)) (hb : base ≤ g) : TlV w g base (.slice (some ⟨g, o, none⟩) (l.length + 1) c) (h :: l) := ⟨_, _, rfl, fun _ => ⟨o, rfl, ht, hb⟩⟩
theorem tl_start {base n cap : Nat} {a : Option Addr} (ho : w.ownsRow base 35 17 (.slice a n cap) n (fl enE l)) : ∃ gh, TlV w gh base (.slice a n cap) l ∧ (l ≠ [] → (Value.slice a n cap).ownBlock = some gh) := by
  have hn : n = l.length := by
    have h := ho.1
    rw [fl_len enE_size] at h; omega
  by_cases hl : l = []
  · exact ⟨0, ⟨a, cap, by rw [hn], fun h => absurd hl h⟩, fun h => absurd hl h⟩
  · obtain ⟨g, rfl, h1, h2⟩ := TlAt.of_own ho hn hl
    exact ⟨g, ⟨_, cap, by rw [hn], fun _ => ⟨0, rfl, h2, h1⟩⟩, fun _ => rfl⟩
end
theorem has_amt {T : List (Id8 × Ac)} (hok : OkT T) (L : List Id8) : ∀ e ∈ hasL T L ++ owesL T L, 0 < e.amt ∧ e.amt ≤ 4611686018427387903 := by
  intro e he
  rcases List.mem_append.1 he with h | h
  · obtain ⟨x, _, hx⟩ := List.mem_flatMap.1 h
    have := hok x
    unfold AcOk at this
    split at hx
    · simp at hx; subst hx; dsimp only; omega
    · simp at hx
  · obtain ⟨x, _, hx⟩ := List.mem_flatMap.1 h
    have := hok x
    unfold AcOk at this
    split at hx
    · simp at hx; subst hx; dsimp only; omega
    · simp at hx
set_option maxRecDepth 100000 in
set_option maxHeartbeats 8000000 in
theorem settle_any {w : World} {p b : Nat} {T : List (Id8 × Ac)} {v : Value} {E : List En} (h : LedAt w p b T v E) (hok : OkT T) (hTl : T.length ≤ 1099511627776) :
    Calls Try.prog 17 #[.pointer (some ⟨p, 0, none⟩)] w fun e w' => ∃ v, e = .returned v ∧ w'.ownsRow w.heap.size 35 17 v (settleF T).length (fl enE (settleF T)) ∧ Below w.heap.size w w' := by
  have HL := hid h
  have HOK := hid hok
  have KA := hid (accounts_any h (by omega))
  have hIL : (sortI (Keys T)).length = T.length := by rw [sortI_len]; unfold Keys; rw [List.length_map]
  obtain ⟨i0, hi, hz0, hz1, hz2⟩ := entry_info
  obtain ⟨L, hL⟩ : ∃ L, L = sortI (Keys T) := ⟨_, rfl⟩
  have HSF : Hid (settleF T = stl (hasL T L) (owesL T L)) := hid (by unfold settleF; rw [hL])
  obtain ⟨S, hS⟩ : ∃ S, S = settleF T := ⟨_, rfl⟩
  rw [← hS] at HSF ⊢
  rw [← hL] at KA hIL
  have hll : L.length ≤ 1099511627776 := by omega
  have hbh := build_has
  have hbo := build_owes
  clear h hok hL hS hIL
  go_enter Try.func17, Try.ntmps17
  go_wp2_with (go_at_call 11; refine KA.out.mono ?_; rintro e1 w1 ⟨v1, rfl, ho1, hb1⟩; obtain ⟨A, c1, rfl⟩ := ownsRow_shape ho1; have HO1 := hid ho1; have HB1 := hid hb1; clear ho1 hb1)
  clear KA
  have HR1 : Hid (RowsAt 8 idE w1 A L) := hid (by
    obtain ⟨a', c', e1, hr⟩ := Row.rows idE_size rfl (Row.of_owns HO1.out)
    cases e1; exact hr)
  clear HO1
  go_loopw [3, 4, 13] (fun u u2 i wr => ∃ k : Nat, k ≤ L.length ∧ i = .int .i64 k ∧ Hid (wr.ownsRow w1.heap.size 35 17 u (hasL T (L.take k)).length (fl enE (hasL T (L.take k)))) ∧ Hid (wr.ownsRow w1.heap.size 35 17 u2 (owesL T (L.take k)).length (fl enE (owesL T (L.take k)))) ∧ Hid (∀ g, u.ownBlock = some g → u2.ownBlock = some g → False) ∧ Hid (Below w1.heap.size w1 wr)) (fun _ _ i _ => L.length - (intOf i).toNat)
  case atStart => exact ⟨0, by omega, rfl, hid (by rw [List.take_zero]; exact World.ownsRow_nil _ _ _ _), hid (by rw [List.take_zero]; exact World.ownsRow_nil _ _ _ _), hid (fun g h => by cases h), hid (Below.refl _ _)⟩
  case round =>
    obtain ⟨k, hk, rfl, hH, hO, hD, hBw⟩ := hrel
    by_cases hlt : k < L.length
    · obtain ⟨x, hx⟩ : ∃ x, L[k]? = some x := ⟨L[k], by simp [hlt]⟩
      obtain ⟨gg, o, rfl, hgg, hcc⟩ := (HR1.out.kept hBw.out).get hx
      have HC : Hid (CellsAt wr gg (o + k * 8) (bys x.1)) := hid (by rw [Nat.mul_comm]; exact hcc)
      have HX8 : Hid ((bys x.1).size = 8) := hid (by rw [bys_size, x.2.1])
      have KB := hid (balance_any x (HL.out.kept ((HB1.out.trans (hBw.out.mono HB1.out.size)).alloc (HB1.out.trans (hBw.out.mono HB1.out.size)).size (.cells (bys x.1) 33))))
      have hac := HOK.out x
      have hB := hid (HB1.out.trans (hBw.out.mono HB1.out.size))
      have HXS : Hid (L.take (k + 1) = L.take k ++ [x]) := hid (by
        obtain ⟨hk', e⟩ := List.getElem?_eq_some_iff.1 hx
        rw [← e, List.take_succ_eq_append_getElem hk'])
      have hh1 : (hasL T (L.take k)).length ≤ L.length := Nat.le_trans (hasL_len _ _) (by rw [List.length_take]; omega)
      have hh2 : (owesL T (L.take k)).length ≤ L.length := Nat.le_trans (owesL_len _ _) (by rw [List.length_take]; omega)
      obtain ⟨va, ca, rfl⟩ := ownsRow_shape hH.out
      obtain ⟨vb, cb, rfl⟩ := ownsRow_shape hO.out
      unfold AcOk at hac
      have hbl := hBw.out.size
      have HBQ : Hid (∀ w5, Below (wr.alloc (.cells (bys x.1) 33)).heap.size (wr.alloc (.cells (bys x.1) 33)) w5 → Below w1.heap.size w1 w5 ∧ wr.heap.size ≤ w5.heap.size ∧ w5.ownsRow w1.heap.size 35 17 (.slice va (hasL T (L.take k)).length ca) (hasL T (L.take k)).length (fl enE (hasL T (L.take k))) ∧ w5.ownsRow w1.heap.size 35 17 (.slice vb (owesL T (L.take k)).length cb) (owesL T (L.take k)).length (fl enE (owesL T (L.take k)))) := hid (fun w5 h5 => by
        have q := ((Below.refl wr.heap.size wr).alloc (Nat.le_refl _) (.cells (bys x.1) 33)).trans (h5.mono (by simp))
        exact ⟨hBw.out.trans (q.mono hBw.out.size), q.size, ownsRow_other hH.out fun g hg => q.block g (ownsRow_lt hH.out hg), ownsRow_other hO.out fun g hg => q.block g (ownsRow_lt hO.out hg)⟩)
      clear hx hcc hgg
      obtain ⟨n, hn⟩ : ∃ n, n = (acOf T x).bal := ⟨_, rfl⟩
      rw [← hn] at KB hac
      have HN := hid hn
      have hneg := IntWalk.i64_in (-n) (by omega)
      clear hn
      by_cases h1 : 0 < n
      · have HQ : Hid (hasL T (L.take (k + 1)) = hasL T (L.take k) ++ [⟨x, zId, n⟩] ∧ owesL T (L.take (k + 1)) = owesL T (L.take k)) := hid (by
          rw [HXS.out, hasL_snoc, owesL_snoc, ← HN.out, if_pos h1, if_neg (by omega), List.append_nil]; exact ⟨rfl, rfl⟩)
        go_wp2_with (first | (refine wpList_load_cells rfl 33 _ rfl _ _ rfl _ _ HC.out Try.underlying33 rfl (idV_info x) ?_) | (refine wpList_store_row rfl 33 _ _ rfl _ rfl _ rfl _ _ (heap_alloc_new _ _) (by rw [HX8.out]; rfl) (bys_one _) (idV_info x) _ (setRow_alloc _ _ _ _) ?_) | (refine wpList_load_w rfl 33 _ rfl _ rfl _ _ _ _ HBX.out Try.underlying33 rfl (idV_info x) ?_) | (refine wpList_load_w rfl 33 _ rfl _ rfl _ _ _ _ (heap_alloc_new _ _) Try.underlying33 rfl (idV_info x) ?_) | (go_at_call 13; refine KB.out.mono ?_; rintro e5 w5 ⟨rfl, hp5⟩; have HP5 := hid hp5; have HBX : Hid (w5.heap[wr.heap.size]? = some (.cells (bys x.1) 33 (0, 0))) := hid (below_keep hp5 (heap_alloc_new _ _)); clear hp5) | (refine wpList_build_run rfl 35 _ rfl (.agg (enE ⟨x, zId, n⟩)) (by simp only [List.map_toArray, List.map_cons, List.map_nil]; exact build_has x n _) ?_) | (refine wpList_build1 rfl 25 35 _ rfl (enE ⟨x, zId, n⟩) rfl i0 _ Try.underlying25 hi hz0 (by rw [hz1, enE_size]) (by rw [enE_size]; decide) (by rw [enE_size]; decide) ?_) | (at_builtin; refine wpList_append_own_at _ rfl _ _ 25 rfl w1.heap.size 35 i0 _ 17 24 Try.underlying25 hi hz0 hz1 hz2 rfl (by decide) _ _ _ rfl ((HBQ.out _ HP5.out).2.2.1.alloc _) ⟨_, 0, none⟩ 1 1 (enE ⟨x, zId, n⟩).toList rfl (by rw [Array.length_toList, enE_size]) (cells_at (heap_alloc_new _ _)) (enE_ones ⟨x, zId, n⟩) (by unfold maxLen; omega) (by omega) (by have := (HBQ.out _ HP5.out).2.1; simp; omega) ?_))
        intro v' w6 ho6 hg6 hnil6 hat6
        have HO6 := hid ho6
        obtain ⟨q2, q3, q4, q5⟩ := HBQ.out w5 HP5.out
        go_wp2
        refine ⟨⟨k + 1, by omega, by go_num, hid ?_, hid ?_, hid ?_, hid ?_⟩, by simp [intOf]; omega⟩
        · rw [HQ.out.1, fl_append, fl_one, List.length_append]; exact ho6
        · rw [HQ.out.2]
          exact ownsRow_other q5 fun g hg => (hg6.block g (by have := ownsRow_lt q5 hg; simp; omega) (fun e => hD.out g e.symm hg)).trans (Below.heap_alloc _ _ _ (ownsRow_lt q5 hg))
        · intro g h1 h2
          rcases hat6 with e | e
          · exact hD.out g (e ▸ h1) h2
          · have h3 := ownsRow_lt q5 h2; rw [e] at h1; injection h1 with h1; rw [← h1] at h3; omega
        · exact (q2.alloc q2.size _).grown hg6 (by have := q2.size; simp; omega) (fun j e => own_base q4 e)
      · have HQ : Hid (hasL T (L.take (k + 1)) = hasL T (L.take k)) := hid (by
          rw [HXS.out, hasL_snoc, ← HN.out, if_neg h1, List.append_nil])
        by_cases h2 : n < 0
        · have HQ2 : Hid (owesL T (L.take (k + 1)) = owesL T (L.take k) ++ [⟨zId, x, -n⟩]) := hid (by
            rw [HXS.out, owesL_snoc, ← HN.out, if_pos h2])
          go_wp2_with (first | (refine wpList_load_cells rfl 33 _ rfl _ _ rfl _ _ HC.out Try.underlying33 rfl (idV_info x) ?_) | (refine wpList_store_row rfl 33 _ _ rfl _ rfl _ rfl _ _ (heap_alloc_new _ _) (by rw [HX8.out]; rfl) (bys_one _) (idV_info x) _ (setRow_alloc _ _ _ _) ?_) | (refine wpList_load_w rfl 33 _ rfl _ rfl _ _ _ _ HBX.out Try.underlying33 rfl (idV_info x) ?_) | (refine wpList_load_w rfl 33 _ rfl _ rfl _ _ _ _ (heap_alloc_new _ _) Try.underlying33 rfl (idV_info x) ?_) | (go_at_call 13; refine KB.out.mono ?_; rintro e5 w5 ⟨rfl, hp5⟩; have HP5 := hid hp5; have HBX : Hid (w5.heap[wr.heap.size]? = some (.cells (bys x.1) 33 (0, 0))) := hid (below_keep hp5 (heap_alloc_new _ _)); clear hp5) | (refine wpList_build_run rfl 35 _ rfl (.agg (enE ⟨zId, x, -n⟩)) (by simp only [List.map_toArray, List.map_cons, List.map_nil]; exact build_owes x (-n) _) ?_) | (refine wpList_build1 rfl 25 35 _ rfl (enE ⟨zId, x, -n⟩) rfl i0 _ Try.underlying25 hi hz0 (by rw [hz1, enE_size]) (by rw [enE_size]; decide) (by rw [enE_size]; decide) ?_) | (at_builtin; refine wpList_append_own_at _ rfl _ _ 25 rfl w1.heap.size 35 i0 _ 17 24 Try.underlying25 hi hz0 hz1 hz2 rfl (by decide) _ _ _ rfl ((HBQ.out _ HP5.out).2.2.2.alloc _) ⟨_, 0, none⟩ 1 1 (enE ⟨zId, x, -n⟩).toList rfl (by rw [Array.length_toList, enE_size]) (cells_at (heap_alloc_new _ _)) (enE_ones ⟨zId, x, -n⟩) (by unfold maxLen; omega) (by omega) (by have := (HBQ.out _ HP5.out).2.1; simp; omega) ?_))
          intro v' w6 ho6 hg6 hnil6 hat6
          obtain ⟨q2, q3, q4, q5⟩ := HBQ.out w5 HP5.out
          go_wp2
          refine ⟨⟨k + 1, by omega, by go_num, hid ?_, hid ?_, hid ?_, hid ?_⟩, by simp [intOf]; omega⟩
          · rw [HQ.out]
            exact ownsRow_other q4 fun g hg => (hg6.block g (by have := ownsRow_lt q4 hg; simp; omega) (fun e => hD.out g hg e.symm)).trans (Below.heap_alloc _ _ _ (ownsRow_lt q4 hg))
          · rw [HQ2.out, fl_append, fl_one, List.length_append]; exact ho6
          · intro g h1 h2
            rcases hat6 with e | e
            · exact hD.out g h1 (e ▸ h2)
            · have h3 := ownsRow_lt q4 h1; rw [e] at h2; injection h2 with h2; rw [← h2] at h3; omega
          · exact (q2.alloc q2.size _).grown hg6 (by have := q2.size; simp; omega) (fun j e => own_base q5 e)
        · have HQ2 : Hid (owesL T (L.take (k + 1)) = owesL T (L.take k)) := hid (by
            rw [HXS.out, owesL_snoc, ← HN.out, if_neg h2, List.append_nil])
          go_wp2_with (first | (refine wpList_load_cells rfl 33 _ rfl _ _ rfl _ _ HC.out Try.underlying33 rfl (idV_info x) ?_) | (refine wpList_store_row rfl 33 _ _ rfl _ rfl _ rfl _ _ (heap_alloc_new _ _) (by rw [HX8.out]; rfl) (bys_one _) (idV_info x) _ (setRow_alloc _ _ _ _) ?_) | (refine wpList_load_w rfl 33 _ rfl _ rfl _ _ _ _ HBX.out Try.underlying33 rfl (idV_info x) ?_) | (refine wpList_load_w rfl 33 _ rfl _ rfl _ _ _ _ (heap_alloc_new _ _) Try.underlying33 rfl (idV_info x) ?_) | (go_at_call 13; refine KB.out.mono ?_; rintro e5 w5 ⟨rfl, hp5⟩; have HP5 := hid hp5; have HBX : Hid (w5.heap[wr.heap.size]? = some (.cells (bys x.1) 33 (0, 0))) := hid (below_keep hp5 (heap_alloc_new _ _)); clear hp5) | fail)
          obtain ⟨q2, q3, q4, q5⟩ := HBQ.out w5 HP5.out
          refine ⟨⟨k + 1, by omega, by go_num, hid (by rw [HQ.out]; exact q4), hid (by rw [HQ2.out]; exact q5), hD, hid q2⟩, by simp [intOf]; omega⟩
    · obtain rfl : k = L.length := by omega
      rw [List.take_length] at hH hO
      have HAM : Hid (∀ e ∈ hasL T L ++ owesL T L, 0 < e.amt ∧ e.amt ≤ 4611686018427387903) := hid (has_amt HOK.out L)
      have hB := hid (HB1.out.trans (hBw.out.mono HB1.out.size))
      obtain ⟨va, ca, rfl⟩ := ownsRow_shape hH.out
      obtain ⟨vb, cb, rfl⟩ := ownsRow_shape hO.out
      obtain ⟨HS0, hHS0⟩ : ∃ HS0, HS0 = hasL T L := ⟨_, rfl⟩
      obtain ⟨OS0, hOS0⟩ : ∃ OS0, OS0 = owesL T L := ⟨_, rfl⟩
      have hh1 : HS0.length ≤ L.length := hHS0 ▸ hasL_len _ _
      have hh2 : OS0.length ≤ L.length := hOS0 ▸ owesL_len _ _
      rw [← hHS0, ← hOS0] at HSF HAM
      rw [← hHS0] at hH hD ⊢
      rw [← hOS0] at hO hD ⊢
      have HHH := hid (tl_start hH.out)
      have HOO := hid (tl_start hO.out)
      clear hHS0 hOS0
      go_wp2_with fail
      obtain ⟨gh, hTH, hgh⟩ := HHH.out
      obtain ⟨go, hTO, hgo⟩ := HOO.out
      have HNEQ : Hid (HS0 ≠ [] → OS0 ≠ [] → gh ≠ go) := hid (fun h1 h2 e => hD.out gh (hgh h1) (by rw [e]; exact hgo h2))
      have HTH := hid hTH
      have HTO := hid hTO
      obtain ⟨nz, hnz⟩ : ∃ nz, nz = wr.heap.size := ⟨_, rfl⟩
      have HNZ := hid hnz
      have HLT : Hid (∀ g l, (l ≠ [] → ∃ o c, TlAt wr g o c l) → l ≠ [] → g < nz) := hid (fun g l h hl => by rw [hnz]; obtain ⟨o, c, h1⟩ := h hl; exact h1.lt)
      clear hTH hTO hgh hgo hH hO hD HHH HOO hlt hnz
      go_loopw [3, 4, 8] (fun u u2 u3 wx => ∃ (hs os out : List En) (n : Nat), out.length + n ≤ HS0.length + OS0.length ∧ Hid (hs.length + os.length ≤ n) ∧ Hid (TlV wx gh w1.heap.size u hs) ∧ Hid (TlV wx go w1.heap.size u2 os) ∧ Hid (wx.ownsRow nz 35 17 u3 out.length (fl enE out)) ∧ Hid (out ++ stlF n hs os = S) ∧ Hid (∀ e ∈ hs ++ os, 0 < e.amt ∧ e.amt ≤ 4611686018427387903) ∧ Hid (Below w.heap.size w wx) ∧ nz ≤ wx.heap.size ∧ Hid ((hs ≠ [] → os ≠ [] → gh ≠ go) ∧ (hs ≠ [] → gh < nz) ∧ (os ≠ [] → go < nz))) (fun u u2 _ _ => slLen u + slLen u2)
      case atStart => exact ⟨HS0, OS0, [], HS0.length + OS0.length, by simp, hid (Nat.le_refl _), HTH, HTO, hid (World.ownsRow_nil _ _ _ _), hid (by rw [HSF.out]; rfl), HAM, hB, Nat.le_of_eq HNZ.out, hid ⟨HNEQ.out, HLT.out gh HS0 (fun hl => by obtain ⟨a, c, _, h⟩ := HTH.out; obtain ⟨o, _, h2, _⟩ := h hl; exact ⟨o, c, h2⟩), HLT.out go OS0 (fun hl => by obtain ⟨a, c, _, h⟩ := HTO.out; obtain ⟨o, _, h2, _⟩ := h hl; exact ⟨o, c, h2⟩)⟩⟩
      case round =>
        obtain ⟨hs, os, out, n, hon, HN, HTH, HTO, HOUT, HSS, HAMT, HBL, hnzx, HQ⟩ := hrel
        obtain ⟨vo, co, rfl⟩ := ownsRow_shape HOUT.out
        cases hs with
        | nil =>
          obtain ⟨a1, c1', rfl, _⟩ := HTH.out
          have HE : Hid (S = out) := hid (by rw [← HSS.out]; cases n <;> simp [stlF])
          go_wp2
          go_ret
          exact ⟨_, rfl, by rw [HE.out]; exact ownsRow_low (by have := HNZ.out; have := hB.out.size; omega) HOUT.out, HBL.out⟩
        | cons h hs =>
          cases os with
          | nil =>
            obtain ⟨a1, c1', rfl, _⟩ := HTH.out
            obtain ⟨a2, c2', rfl, _⟩ := HTO.out
            have HE : Hid (S = out) := hid (by rw [← HSS.out]; cases n <;> simp [stlF])
            go_wp2
            go_ret
            exact ⟨_, rfl, by rw [HE.out]; exact ownsRow_low (by have := HNZ.out; have := hB.out.size; omega) HOUT.out, HBL.out⟩
          | cons o os =>
            obtain ⟨_, ch, rfl, hch⟩ := HTH.out
            obtain ⟨oh, rfl, hth, hb1⟩ := hch (by simp)
            obtain ⟨_, cq, rfl, hcq⟩ := HTO.out
            obtain ⟨oo, rfl, hto, hb2⟩ := hcq (by simp)
            have HTH2 := hid hth
            have HTO2 := hid hto
            have HGB := hid (And.intro hb1 hb2)
            have hgg : gh ≠ go := HQ.out.1 (by simp) (by simp)
            have HGG := hid hgg
            obtain ⟨m, rfl⟩ : ∃ m, n = m + 1 := ⟨n - 1, by have := HN.out; simp at this; omega⟩
            have ha1 := HAMT.out h (by simp)
            have ha2 := HAMT.out o (by simp)
            obtain ⟨N, hN⟩ : ∃ N, N = min h.amt o.amt := ⟨_, rfl⟩
            have hN3 : 0 < N ∧ N ≤ h.amt ∧ N ≤ o.amt ∧ (h.amt - N = 0 ∨ o.amt - N = 0) := by omega
            have HSN : Hid (out ++ (⟨h.fr, o.to, N⟩ :: stlF m (lessN h N hs) (lessN o N os)) = S) := hid (by rw [hN]; exact HSS.out)
            have HNN := hid hN
            clear hth hto hb1 hb2 hch hcq hgg HTH HTO HSS hN
            rw [List.length_cons, List.length_cons]
            have hc1 : wr.drew.cell? ⟨gh, oh + 16, none⟩ = some (.int .i64 h.amt) := box_amt HTH2.out.head
            have hc2 : wr.drew.cell? ⟨go, oo + 16, none⟩ = some (.int .i64 o.amt) := box_amt HTO2.out.head
            go_wp2_with fail
            refine wp_region_held_drew (S := fun w' => w'.cell? ⟨gh, oh + 16, none⟩ = some (.int .i64 h.amt) ∧ w'.cell? ⟨go, oo + 16, none⟩ = some (.int .i64 o.amt)) (by kernel_rfl) ⟨hc1, hc2⟩ ?_
            intro hHeld
            clear hc1 hc2
            refine wpAnyH_take (i := 0) (oi := _) (v := ?_) rfl (by kernel_rfl) (by kernel_rfl) (by kernel_rfl) (fun _ _ _ h => h) (Or.inl ⟨by rfl, ?_⟩) (by assumption) ?_
            rotate_left
            · intro w hSw
              try dsimp only at hSw
              first | (go_simp; done) | (go_simp; with_reducible rfl)
            (try simp only [Act.put, List.getElem_toArray, List.getElem_cons_zero]); (try simp only [List.setIfInBounds_toArray]); (try simp only [List.set_cons_succ]); (try simp only [List.set_cons_zero])
            refine wpAnyH_take (i := 1) (oi := _) (v := ?_) rfl (by kernel_rfl) (by kernel_rfl) (by kernel_rfl) (fun _ _ _ h => h) (Or.inl ⟨by rfl, ?_⟩) (by assumption) ?_
            rotate_left
            · intro w hSw
              try dsimp only at hSw
              first | (go_simp; done) | (go_simp; with_reducible rfl)
            (try simp only [Act.put, List.getElem_toArray, List.getElem_cons_succ, List.getElem_cons_zero]); (try simp only [List.setIfInBounds_toArray]); (try simp only [List.set_cons_succ]); (try simp only [List.set_cons_zero])
            refine wpAnyH_take (i := 2) (oi := _) (v := ?_) rfl (by kernel_rfl) (by kernel_rfl) (by kernel_rfl) (fun _ _ _ h => h) (Or.inl ⟨by rfl, ?_⟩) (by assumption) ?_
            rotate_left
            · intro w hSw
              try dsimp only at hSw
              first | (go_simp; done) | (go_simp; with_reducible rfl)
            (try simp only [Act.put, List.getElem_toArray, List.getElem_cons_succ, List.getElem_cons_zero]); (try simp only [List.setIfInBounds_toArray]); (try simp only [List.set_cons_succ]); (try simp only [List.set_cons_zero])
            refine wpAnyH_take (i := 3) (oi := _) (v := ?_) rfl (by kernel_rfl) (by kernel_rfl) (by kernel_rfl) (fun _ _ _ h => h) (Or.inl ⟨by rfl, ?_⟩) (by assumption) ?_
            rotate_left
            · intro w hSw
              try dsimp only at hSw
              first | (go_simp; done) | (go_simp; with_reducible rfl)
            (try simp only [Act.put, List.getElem_toArray, List.getElem_cons_succ, List.getElem_cons_zero]); (try simp only [List.setIfInBounds_toArray]); (try simp only [List.set_cons_succ]); (try simp only [List.set_cons_zero])
            refine wpAnyH_take (i := 4) (oi := _) (v := ?_) rfl (by kernel_rfl) (by kernel_rfl) (by kernel_rfl) (fun _ _ _ h => h) (Or.inl ⟨by rfl, ?_⟩) (by assumption) ?_
            rotate_left
            · intro w hSw
              try dsimp only at hSw
              first | (go_simp; done) | (go_simp; with_reducible rfl)
            (try simp only [Act.put, List.getElem_toArray, List.getElem_cons_succ, List.getElem_cons_zero]); (try simp only [List.setIfInBounds_toArray]); (try simp only [List.set_cons_succ]); (try simp only [List.set_cons_zero])
            refine wpAnyH_take (i := 5) (oi := _) (v := ?_) rfl (by kernel_rfl) (by kernel_rfl) (by kernel_rfl) (fun _ _ _ h => h) (Or.inl ⟨by rfl, ?_⟩) (by assumption) ?_
            rotate_left
            · intro w hSw
              try dsimp only at hSw
              first | (go_simp; done) | (go_simp; with_reducible rfl)
            (try simp only [Act.put, List.getElem_toArray, List.getElem_cons_succ, List.getElem_cons_zero]); (try simp only [List.setIfInBounds_toArray]); (try simp only [List.set_cons_succ]); (try simp only [List.set_cons_zero])
            refine wpAnyH_take (i := 6) (oi := _) (v := ?_) rfl (by kernel_rfl) (by kernel_rfl) (by kernel_rfl) (fun _ _ _ h => h) (Or.inl ⟨by rfl, ?_⟩) (by assumption) ?_
            rotate_left
            · intro w hSw
              try dsimp only at hSw
              first | (go_simp; done) | (go_simp; with_reducible rfl)
            (try simp only [Act.put, List.getElem_toArray, List.getElem_cons_succ, List.getElem_cons_zero]); (try simp only [List.setIfInBounds_toArray]); (try simp only [List.set_cons_succ]); (try simp only [List.set_cons_zero])
            refine wpAnyH_take (i := 7) (oi := _) (v := ?_) rfl (by kernel_rfl) (by kernel_rfl) (by kernel_rfl) (fun _ _ _ h => h) (Or.inl ⟨by rfl, ?_⟩) (by assumption) ?_
            rotate_left
            · intro w hSw
              try dsimp only at hSw
              first | (go_simp; done) | (go_simp; with_reducible rfl)
            (try simp only [Act.put, List.getElem_toArray, List.getElem_cons_succ, List.getElem_cons_zero]); (try simp only [List.setIfInBounds_toArray]); (try simp only [List.set_cons_succ]); (try simp only [List.set_cons_zero])
            refine wpAnyH_take (i := 8) (oi := _) (v := (.int .i64 N)) rfl (by kernel_rfl) (by kernel_rfl) (by kernel_rfl) (fun _ _ _ h => h) (Or.inl ⟨by rfl, ?_⟩) (by assumption) ?_
            · intro w hSw
              rw [HNN.out]; go_simp
            (try simp only [Act.put, List.getElem_toArray, List.getElem_cons_succ, List.getElem_cons_zero]); (try simp only [List.setIfInBounds_toArray]); (try simp only [List.set_cons_succ]); (try simp only [List.set_cons_zero])
            refine wpAnyH_take (i := 9) (oi := _) (v := ?_) rfl (by kernel_rfl) (by kernel_rfl) (by kernel_rfl) (fun _ _ _ h => h) (Or.inl ⟨by rfl, ?_⟩) (by assumption) ?_
            rotate_left
            · intro w hSw
              try dsimp only at hSw
              first | (go_simp; done) | (go_simp; with_reducible rfl)
            (try simp only [Act.put, List.getElem_toArray, List.getElem_cons_succ, List.getElem_cons_zero]); (try simp only [List.setIfInBounds_toArray]); (try simp only [List.set_cons_succ]); (try simp only [List.set_cons_zero])
            refine wpAnyH_done (by kernel_rfl) ?_ _
            clear hHeld
            go_wp2_with fail
            obtain ⟨W1, hW1⟩ : ∃ W1, W1 = wr.drew.drew := ⟨_, rfl⟩
            have hbw1 : Below wr.heap.size wr W1 := hW1 ▸ ((Below.refl _ wr).drew).drew
            have HBL1 := hid (HBL.out.trans (hbw1.mono HBL.out.size))
            have hsz1 : W1.heap.size = wr.heap.size := by rw [hW1]; rfl
            have hob1 : W1.heap = wr.heap := by rw [hW1]; rfl
            obtain ⟨W2, hW2⟩ : ∃ W2, W2 = W1.alloc (.cells (enE ⟨h.fr, o.to, N⟩) 35) := ⟨_, rfl⟩
            have hsz2 : W2.heap.size = wr.heap.size + 1 := by rw [hW2, alloc_size, hsz1]
            have hbw2 : Below wr.heap.size W1 W2 := by rw [hW2]; exact (Below.refl _ W1).alloc (by omega) _
            have hq := HQ.out
            have hgq := hq.2.1 (by simp)
            have hoq := hq.2.2 (by simp)
            have HGL : Hid (gh < wr.heap.size ∧ go < wr.heap.size ∧ gh < nz ∧ go < nz) := hid ⟨by omega, by omega, hgq, hoq⟩
            have hown2 : Hid (W2.ownsRow nz 35 17 (.slice vo out.length co) out.length (fl enE out)) := hid (ownsRow_other HOUT.out fun g hg => by rw [hbw2.block g (ownsRow_lt HOUT.out hg), hob1])
            have hn2 : W2.heap[W1.heap.size]? = some (.cells (enE ⟨h.fr, o.to, N⟩) 35 (0, 0)) := by rw [hW2]; exact heap_alloc_new _ _
            have HN2 := hid hn2
            have htl2 : ∀ w4, W2.grownBy w4 (Value.slice vo out.length co).ownBlock → TlAt w4 gh oh ch (h :: hs) ∧ TlAt w4 go oo cq (o :: os) := fun w4 hg => by
              have hne : ∀ g, g < nz → some g ≠ (Value.slice vo out.length co).ownBlock := fun g hg e => by have := own_base HOUT.out e.symm; omega
              exact ⟨HTH2.out.same (by rw [hg.block gh (by have := HGL.out; omega) (hne gh hgq), hbw2.block gh HGL.out.1, hob1]), HTO2.out.same (by rw [hg.block go (by have := HGL.out; omega) (hne go hoq), hbw2.block go HGL.out.2.1, hob1])⟩
            have HTL := hid htl2
            have HT1 : Hid (TlAt W1 gh oh ch (h :: hs) ∧ TlAt W1 go oo cq (o :: os)) := hid ⟨HTH2.out.same (by rw [hob1]), HTO2.out.same (by rw [hob1])⟩
            have HT2 : Hid (TlAt W2 gh oh ch (h :: hs) ∧ TlAt W2 go oo cq (o :: os)) := hid (htl2 W2 (World.grownBy.refl _ _))
            have HSZ := hid (And.intro hsz1 hsz2)
            have HB12 := hid hbw2
            have HW2 := hid hW2
            clear hbw1 hob1 hq hgq hoq hn2 htl2 hsz1 hsz2 hbw2 hW2
            refine wp_region_held_drew (S := fun w' => CellsAt w' gh oh (bys h.fr.1) ∧ CellsAt w' go (oo + 8) (bys o.to.1)) (by kernel_rfl) (by rw [← hW1]; exact ⟨box_fr HT1.out.1.head, box_to HT1.out.2.head⟩) ?_
            rw [← hW1]
            intro hHeld
            clear hW1
            refine wpAnyH_take (i := 0) (oi := _) (v := ?_) rfl (by kernel_rfl) (by kernel_rfl) (by kernel_rfl) (fun _ _ _ h => h) (Or.inl ⟨by rfl, ?_⟩) (by assumption) ?_
            rotate_left
            · intro w hSw
              try dsimp only at hSw
              first | (go_simp; done) | (go_simp; with_reducible rfl)
            (try simp only [Act.put, List.getElem_toArray, List.getElem_cons_zero]); (try simp only [List.setIfInBounds_toArray]); (try simp only [List.set_cons_succ]); (try simp only [List.set_cons_zero])
            refine wpAnyH_take (i := 1) (oi := _) (v := ?_) rfl (by kernel_rfl) (by kernel_rfl) (by kernel_rfl) (fun _ _ _ h => h) (Or.inl ⟨by rfl, ?_⟩) (by assumption) ?_
            rotate_left
            · intro w hSw
              try dsimp only at hSw
              first | (go_simp; done) | (go_simp; with_reducible rfl)
            (try simp only [Act.put, List.getElem_toArray, List.getElem_cons_succ, List.getElem_cons_zero]); (try simp only [List.setIfInBounds_toArray]); (try simp only [List.set_cons_succ]); (try simp only [List.set_cons_zero])
            refine wpAnyH_take (i := 2) (oi := _) (v := ?_) rfl (by kernel_rfl) (by kernel_rfl) (by kernel_rfl) (fun _ _ _ h => h) (Or.inl ⟨by rfl, ?_⟩) (by assumption) ?_
            rotate_left
            · intro w hSw
              try dsimp only at hSw
              first | (go_simp; done) | (go_simp; with_reducible rfl)
            (try simp only [Act.put, List.getElem_toArray, List.getElem_cons_succ, List.getElem_cons_zero]); (try simp only [List.setIfInBounds_toArray]); (try simp only [List.set_cons_succ]); (try simp only [List.set_cons_zero])
            refine wpAnyH_take (i := 3) (oi := _) (v := ?_) rfl (by kernel_rfl) (by kernel_rfl) (by kernel_rfl) (fun _ _ _ h => h) (Or.inl ⟨by rfl, ?_⟩) (by assumption) ?_
            rotate_left
            · intro w hSw
              try dsimp only at hSw
              first | (go_simp; done) | (go_simp; with_reducible rfl)
            (try simp only [Act.put, List.getElem_toArray, List.getElem_cons_succ, List.getElem_cons_zero]); (try simp only [List.setIfInBounds_toArray]); (try simp only [List.set_cons_succ]); (try simp only [List.set_cons_zero])
            refine wpAnyH_take (i := 4) (oi := _) (v := (.agg (bys h.fr.1))) rfl (by kernel_rfl) (by kernel_rfl) (by kernel_rfl) (fun _ _ _ h => h) (Or.inl ⟨by rfl, ?_⟩) (by assumption) ?_
            · intro w hSw
              exact exec_load_cells 33 _ rfl _ _ rfl hSw.1 Try.underlying33 rfl (idV_info h.fr)
            (try simp only [Act.put, List.getElem_toArray, List.getElem_cons_succ, List.getElem_cons_zero]); (try simp only [List.setIfInBounds_toArray]); (try simp only [List.set_cons_succ]); (try simp only [List.set_cons_zero])
            refine wpAnyH_take (i := 5) (oi := _) (v := ?_) rfl (by kernel_rfl) (by kernel_rfl) (by kernel_rfl) (fun _ _ _ h => h) (Or.inl ⟨by rfl, ?_⟩) (by assumption) ?_
            rotate_left
            · intro w hSw
              try dsimp only at hSw
              first | (go_simp; done) | (go_simp; with_reducible rfl)
            (try simp only [Act.put, List.getElem_toArray, List.getElem_cons_succ, List.getElem_cons_zero]); (try simp only [List.setIfInBounds_toArray]); (try simp only [List.set_cons_succ]); (try simp only [List.set_cons_zero])
            refine wpAnyH_take (i := 6) (oi := _) (v := ?_) rfl (by kernel_rfl) (by kernel_rfl) (by kernel_rfl) (fun _ _ _ h => h) (Or.inl ⟨by rfl, ?_⟩) (by assumption) ?_
            rotate_left
            · intro w hSw
              try dsimp only at hSw
              first | (go_simp; done) | (go_simp; with_reducible rfl)
            (try simp only [Act.put, List.getElem_toArray, List.getElem_cons_succ, List.getElem_cons_zero]); (try simp only [List.setIfInBounds_toArray]); (try simp only [List.set_cons_succ]); (try simp only [List.set_cons_zero])
            refine wpAnyH_take (i := 7) (oi := _) (v := ?_) rfl (by kernel_rfl) (by kernel_rfl) (by kernel_rfl) (fun _ _ _ h => h) (Or.inl ⟨by rfl, ?_⟩) (by assumption) ?_
            rotate_left
            · intro w hSw
              try dsimp only at hSw
              first | (go_simp; done) | (go_simp; with_reducible rfl)
            (try simp only [Act.put, List.getElem_toArray, List.getElem_cons_succ, List.getElem_cons_zero]); (try simp only [List.setIfInBounds_toArray]); (try simp only [List.set_cons_succ]); (try simp only [List.set_cons_zero])
            refine wpAnyH_take (i := 8) (oi := _) (v := (.agg (bys o.to.1))) rfl (by kernel_rfl) (by kernel_rfl) (by kernel_rfl) (fun _ _ _ h => h) (Or.inl ⟨by rfl, ?_⟩) (by assumption) ?_
            · intro w hSw
              exact exec_load_cells 33 _ rfl _ _ rfl hSw.2 Try.underlying33 rfl (idV_info o.to)
            (try simp only [Act.put, List.getElem_toArray, List.getElem_cons_succ, List.getElem_cons_zero]); (try simp only [List.setIfInBounds_toArray]); (try simp only [List.set_cons_succ]); (try simp only [List.set_cons_zero])
            refine wpAnyH_take (i := 9) (oi := _) (v := ?_) rfl (by kernel_rfl) (by kernel_rfl) (by kernel_rfl) (fun _ _ _ h => h) (Or.inl ⟨by rfl, ?_⟩) (by assumption) ?_
            rotate_left
            · intro w hSw
              try dsimp only at hSw
              first | (go_simp; done) | (go_simp; with_reducible rfl)
            (try simp only [Act.put, List.getElem_toArray, List.getElem_cons_succ, List.getElem_cons_zero]); (try simp only [List.setIfInBounds_toArray]); (try simp only [List.set_cons_succ]); (try simp only [List.set_cons_zero])
            refine wpAnyH_take (i := 10) (oi := _) (v := (.agg (enE ⟨h.fr, o.to, N⟩))) rfl (by kernel_rfl) (by kernel_rfl) (by kernel_rfl) (fun _ _ _ h => h) (Or.inl ⟨by rfl, ?_⟩) (by assumption) ?_
            · intro w hSw
              refine exec_build _ _ rfl ?_; simp only [List.map_toArray, List.map_cons, List.map_nil]; exact build_entry h.fr o.to N w
            (try simp only [Act.put, List.getElem_toArray, List.getElem_cons_succ, List.getElem_cons_zero]); (try simp only [List.setIfInBounds_toArray]); (try simp only [List.set_cons_succ]); (try simp only [List.set_cons_zero])
            refine wpAnyH_ready (rs := [11]) (by kernel_rfl) (by simp) ?_
            refine AllReadyH.cons rfl (fun K hK => ?_) AllReadyH.nil
            (refine step_build1 rfl 25 35 _ (by rfl) (enE ⟨h.fr, o.to, N⟩) (by rfl) i0 _ Try.underlying25 hi hz0 (by rw [hz1, enE_size]) (by rw [enE_size]; decide) (by rw [enE_size]; decide) ?_); rw [← HW2.out]
            refine hK.out _ _ ?_ (fun hHeld => ?_)
            · first | exact ⟨box_fr HT5.out.1.head, box_to HT5.out.2.head⟩ | exact ⟨box_fr HT2.out.1.head, box_to HT2.out.2.head⟩
            clear hK K
            (try simp only [Act.put, List.getElem_toArray, List.getElem_cons_succ, List.getElem_cons_zero]); (try simp only [List.setIfInBounds_toArray]); (try simp only [List.set_cons_succ]); (try simp only [List.set_cons_zero])
            refine wpAnyH_ready (rs := [12]) (by kernel_rfl) (by simp) ?_
            refine AllReadyH.cons rfl (fun K hK => ?_) AllReadyH.nil
            (refine step_append_own rfl _ _ 25 (by rfl) nz 35 i0 _ 17 24 Try.underlying25 hi hz0 hz1 hz2 (by rfl) (by decide) _ _ _ (by rfl) hown2.out ⟨_, 0, none⟩ 1 1 (enE ⟨h.fr, o.to, N⟩).toList (by rfl) (by rw [Array.length_toList, enE_size]) (cells_at HN2.out) (enE_ones _) (by unfold maxLen; omega) (by omega) (by have := HSZ.out; omega) ?_; intro v5 w5 hr5 hg5; have HT5 := hid (HTL.out w5 hg5); have HR5 := hid hr5; have HG5 := hid hg5; obtain ⟨a5, c5, rfl⟩ := ownsRow_shape hr5; clear hr5 hg5)
            refine hK.out _ _ ?_ (fun hHeld => ?_)
            · first | exact ⟨box_fr HT5.out.1.head, box_to HT5.out.2.head⟩ | exact ⟨box_fr HT2.out.1.head, box_to HT2.out.2.head⟩
            clear hK K
            (try simp only [Act.put, List.getElem_toArray, List.getElem_cons_succ, List.getElem_cons_zero]); (try simp only [List.setIfInBounds_toArray]); (try simp only [List.set_cons_succ]); (try simp only [List.set_cons_zero])
            refine wpAnyH_take (i := 13) (oi := _) (v := ?_) rfl (by kernel_rfl) (by kernel_rfl) (by kernel_rfl) (fun _ _ _ h => h) (Or.inl ⟨by rfl, ?_⟩) (by assumption) ?_
            rotate_left
            · intro w hSw
              try dsimp only at hSw
              first | (go_simp; done) | (go_simp; with_reducible rfl)
            (try simp only [Act.put, List.getElem_toArray, List.getElem_cons_succ, List.getElem_cons_zero]); (try simp only [List.setIfInBounds_toArray]); (try simp only [List.set_cons_succ]); (try simp only [List.set_cons_zero])
            refine wpAnyH_done (by kernel_rfl) ?_ _
            clear hHeld
            have hw1 := IntWalk.i64_in (h.amt - N) (by omega)
            have hw2 := IntWalk.i64_in (o.amt - N) (by omega)
            obtain ⟨r1, hr1⟩ : ∃ r1, r1 = h.amt - N := ⟨_, rfl⟩
            obtain ⟨r2, hr2⟩ : ∃ r2, r2 = o.amt - N := ⟨_, rfl⟩
            replace hw1 := hw1.trans hr1.symm
            replace hw2 := hw2.trans hr2.symm
            obtain ⟨W6, hW6⟩ : ∃ W6, W6 = w5.setCell ⟨gh, oh + 16, none⟩ (.int .i64 r1) := ⟨_, rfl⟩
            obtain ⟨W7, hW7⟩ : ∃ W7, W7 = W6.setCell ⟨go, oo + 16, none⟩ (.int .i64 r2) := ⟨_, rfl⟩
            have hg6 : TlAt W6 gh oh ch (⟨h.fr, h.to, r1⟩ :: hs) := hW6 ▸ HT5.out.1.set r1
            have hg6' : TlAt W6 go oo cq (o :: os) := HT5.out.2.same (by rw [hW6]; exact heap_setCell_ne HGG.out.symm)
            have hg7 : TlAt W7 gh oh ch (⟨h.fr, h.to, r1⟩ :: hs) := hg6.same (by rw [hW7]; exact heap_setCell_ne HGG.out)
            have hg7' : TlAt W7 go oo cq (⟨o.fr, o.to, r2⟩ :: os) := hW7 ▸ hg6'.set r2
            have hk1 : w5.cell? ⟨gh, oh + 16, none⟩ = some (.int .i64 h.amt) := box_amt HT5.out.1.head
            have hz3 : w5.frozen? ⟨gh, oh + 16, none⟩ = false := HT5.out.1.free _
            have hk2 : W6.cell? ⟨go, oo + 16, none⟩ = some (.int .i64 o.amt) := box_amt hg6'.head
            have hz4 : W6.frozen? ⟨go, oo + 16, none⟩ = false := hg6'.free _
            have hk3 : W7.cell? ⟨gh, oh + 16, none⟩ = some (.int .i64 r1) := box_amt hg7.head
            have hk4 : W7.cell? ⟨go, oo + 16, none⟩ = some (.int .i64 r2) := box_amt hg7'.head
            rw [hW6] at hk2 hz4
            rw [hW7, hW6] at hk3 hk4
            have HG7 := hid (And.intro hg7 hg7')
            have HR7 : Hid (W7.ownsRow nz 35 17 (.slice a5 (out.length + 1) c5) (out.length + 1) (fl enE out ++ (enE ⟨h.fr, o.to, N⟩).toList)) := hid (ownsRow_other HR5.out fun g hg => by
              have h1 := own_base HR5.out hg
              have h2 := HGL.out
              rw [hW7, heap_setCell_ne (by omega), hW6, heap_setCell_ne (by omega)])
            have HB7 : Hid (Below w.heap.size w W7) := hid (by
              have q1 := (HBL1.out.trans (HB12.out.mono (by have := HBL.out.size; omega))).grown HG5.out (by have := HSZ.out; have := HBL.out.size; omega) (fun j e => by have := own_base HOUT.out e; have := HNZ.out; have := hB.out.size; omega)
              rw [hW7, hW6]
              exact (q1.setCell (by have := HGB.out; have := HB1.out.size; show w.heap.size ≤ gh; omega) _).setCell (by have := HGB.out; have := HB1.out.size; show w.heap.size ≤ go; omega) _)
            have HZ7 : Hid (nz ≤ W7.heap.size) := hid (by rw [hW7, hW6, setCell_size, setCell_size]; have := HG5.out.size; have := HSZ.out; omega)
            have HR12 := hid (And.intro hr1 hr2)
            have HEND : Hid (∀ hs' os', hs' = lessN h N hs → os' = lessN o N os → (out ++ [⟨h.fr, o.to, N⟩]) ++ stlF m hs' os' = S ∧ hs'.length + os'.length ≤ m ∧ ((∀ e ∈ hs' ++ os', 0 < e.amt ∧ e.amt ≤ 4611686018427387903) ∧ ((hs' ≠ [] → os' ≠ [] → gh ≠ go) ∧ (hs' ≠ [] → gh < nz) ∧ (os' ≠ [] → go < nz)))) := hid (fun hs' os' e1 e2 => by
              refine ⟨by rw [e1, e2, ← HSN.out]; simp, ?_, ?_, fun _ _ => HGG.out, fun _ => HGL.out.2.2.1, fun _ => HGL.out.2.2.2⟩
              · have h1 := HN.out
                rw [List.length_cons, List.length_cons] at h1
                rw [e1, e2]
                unfold lessN
                split <;> split <;> (try simp only [List.length_cons]) <;> omega
              · have h1 := HAMT.out
                rw [e1, e2]
                unfold lessN
                intro e he
                rcases List.mem_append.1 he with he | he
                · split at he
                  · exact h1 e (List.mem_append_left _ (List.mem_cons_of_mem _ he))
                  · rcases List.mem_cons.1 he with rfl | he
                    · dsimp only; omega
                    · exact h1 e (List.mem_append_left _ (List.mem_cons_of_mem _ he))
                · split at he
                  · exact h1 e (List.mem_append_right _ (List.mem_cons_of_mem _ he))
                  · rcases List.mem_cons.1 he with rfl | he
                    · dsimp only; omega
                    · exact h1 e (List.mem_append_right _ (List.mem_cons_of_mem _ he)))
            have HW67 := hid (And.intro hW6 hW7)
            have hN4 : r1 = 0 ∨ r2 = 0 := by omega
            clear hg6 hg6' hg7 hg7' hr1 hr2 hW6 hW7 hN3 ha1 ha2
            by_cases e1 : r1 = 0
            · subst e1
              by_cases e2 : r2 = 0
              · subst e2
                go_wp2_with fail
                obtain ⟨q1, q2, q3, q4⟩ := HEND.out hs os (by unfold lessN; rw [if_pos HR12.out.1.symm]) (by unfold lessN; rw [if_pos HR12.out.2.symm])
                refine ⟨⟨hs, os, out ++ [⟨h.fr, o.to, N⟩], m, by rw [List.length_append, List.length_singleton]; omega, hid q2, hid ?_, hid ?_, hid ?_, hid q1, hid q3, hid ?_, ?_, hid q4⟩, by simp [slLen] <;> omega⟩
                · rw [← HW67.out.1, ← HW67.out.2]; exact TlV.tail HG7.out.1 HGB.out.1
                · rw [← HW67.out.1, ← HW67.out.2]; exact TlV.tail HG7.out.2 HGB.out.2
                · rw [← HW67.out.1, ← HW67.out.2, List.length_append, fl_append, fl_one]; exact HR7.out
                · rw [← HW67.out.1, ← HW67.out.2]; exact HB7.out
                · rw [← HW67.out.1, ← HW67.out.2]; exact HZ7.out
              · have hd2 : (r2 == 0) = false := by simpa using e2
                have hd2' : decide (r2 = 0) = false := decide_eq_false e2
                have HE2 := hid e2
                clear e2
                go_wp2_with fail
                obtain ⟨q1, q2, q3, q4⟩ := HEND.out hs (⟨o.fr, o.to, r2⟩ :: os) (by unfold lessN; rw [if_pos HR12.out.1.symm]) (by unfold lessN; rw [if_neg (by rw [← HR12.out.2]; exact HE2.out), ← HR12.out.2])
                refine ⟨⟨hs, (⟨o.fr, o.to, r2⟩ :: os), out ++ [⟨h.fr, o.to, N⟩], m, by rw [List.length_append, List.length_singleton]; omega, hid q2, hid ?_, hid ?_, hid ?_, hid q1, hid q3, hid ?_, ?_, hid q4⟩, by simp [slLen] <;> omega⟩
                · rw [← HW67.out.1, ← HW67.out.2]; exact TlV.tail HG7.out.1 HGB.out.1
                · rw [← HW67.out.1, ← HW67.out.2]; exact TlV.stay HG7.out.2 HGB.out.2
                · rw [← HW67.out.1, ← HW67.out.2, List.length_append, fl_append, fl_one]; exact HR7.out
                · rw [← HW67.out.1, ← HW67.out.2]; exact HB7.out
                · rw [← HW67.out.1, ← HW67.out.2]; exact HZ7.out
            · obtain rfl : r2 = 0 := by omega
              have hd1 : (r1 == 0) = false := by simpa using e1
              have hd1' : decide (r1 = 0) = false := decide_eq_false e1
              have HE1 := hid e1
              clear e1
              go_wp2_with fail
              obtain ⟨q1, q2, q3, q4⟩ := HEND.out (⟨h.fr, h.to, r1⟩ :: hs) os (by unfold lessN; rw [if_neg (by rw [← HR12.out.1]; exact HE1.out), ← HR12.out.1]) (by unfold lessN; rw [if_pos HR12.out.2.symm])
              refine ⟨⟨(⟨h.fr, h.to, r1⟩ :: hs), os, out ++ [⟨h.fr, o.to, N⟩], m, by rw [List.length_append, List.length_singleton]; omega, hid q2, hid ?_, hid ?_, hid ?_, hid q1, hid q3, hid ?_, ?_, hid q4⟩, by simp [slLen] <;> omega⟩
              · rw [← HW67.out.1, ← HW67.out.2]; exact TlV.stay HG7.out.1 HGB.out.1
              · rw [← HW67.out.1, ← HW67.out.2]; exact TlV.tail HG7.out.2 HGB.out.2
              · rw [← HW67.out.1, ← HW67.out.2, List.length_append, fl_append, fl_one]; exact HR7.out
              · rw [← HW67.out.1, ← HW67.out.2]; exact HB7.out
              · rw [← HW67.out.1, ← HW67.out.2]; exact HZ7.out
end Go.Proofs.Ytnapfjgokeloeaa
