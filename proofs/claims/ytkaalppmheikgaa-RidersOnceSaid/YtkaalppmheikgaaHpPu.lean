/- The heap: a key put in. -/
import Derived.Test.YtkaalppmheikgaaHpUd
import Derived.Test.YtkaalppmheikgaaHpFi
import Derived.Test.YtkaalppmheikgaaSlB1
namespace Go.Proofs.Ytkaalppmheikgaa
open Go.RowKit

theorem eq_mapNil (a : Option Nat) (w : World) : (binOp .eql 105 (.map a) (.map none)).run Try.prog w = .ok (.bool a.isNone) w := by
  have hu := Try.underlying105
  have h0 : ∀ d, (Op.equalIn (d + 1) 105 (.map a) (.map none)).run Try.prog w = .ok a.isNone w := fun d => by
    unfold Op.equalIn
    rw [Sem.run_bind, run_underlying hu]
    cases a <;> rfl
  have h : (Op.equalIn Op.maxDepth 105 (.map a) (.map none)).run Try.prog w = .ok a.isNone w := h0 9999
  simp [binOp, Op.equal, h]
theorem eq_lessNil (w : World) : (binOp .eql 85 lessV .nilFunc).run Try.prog w = .ok (.bool false) w := by
  have hu := Try.underlying85
  have h0 : ∀ d, (Op.equalIn (d + 1) 85 lessV .nilFunc).run Try.prog w = .ok false w := fun d => by
    unfold Op.equalIn
    rw [Sem.run_bind, run_underlying hu]
    rfl
  have h : (Op.equalIn Op.maxDepth 85 lessV .nilFunc).run Try.prog w = .ok false w := h0 9999
  simp [binOp, Op.equal, h]
theorem id8_list (x : Id8) : ∃ a b c d e f g h, x.1 = [a, b, c, d, e, f, g, h] := by
  obtain ⟨l, hl, _⟩ := x
  match l, hl with
  | [a, b, c, d, e, f, g, h], _ => exact ⟨a, b, c, d, e, f, g, h, rfl⟩
theorem build_item (x : It) (n : Int) (w : World) : (Instr.build 103 #[(0, .agg (bys x.key.1)), (1, .agg (rkV x)), (2, .int .i64 n)]).run Try.prog w = .ok (.agg (itE ⟨x.key, x.tick, x.num, n⟩)) w := by
  obtain ⟨a, b, c, d, e, f, g, h, hx⟩ := id8_list x.key
  unfold itE rkV
  simp only [hx]
  kernel_rfl
theorem exec_build {P : Program} {ρ : Operand → Value} {o : Oper} {w : World} {v : Value} (t : TypeId) (parts : Array (Nat × Operand)) (ho : o.op = .build t parts) (hr : (Instr.build t (parts.map fun p => (p.1, ρ p.2))).run P w = .ok v w) : (execOp ρ o).run P w = .ok (.value v) w := by
  unfold execOp
  simp only [ho, Sem.run_bind, Sem.run_pure, Result.andThen_ok, hr]
theorem HpAt.setCame {w : World} {h b : Nat} {T : List (Id8 × Int)} {v : Value} {l : List It} {came : Int} (H : HpAt w h b T v l came) (n : Int) : HpAt (w.setCell ⟨h, 3, none⟩ (.int .i64 n)) h b T v l n :=
  ⟨by rw [row_setCell H.blk]; rfl, H.at'.same (heap_setCell_ne H.ne.symm), H.row.other fun g hg => heap_setCell_ne (H.row_ne hg).1, H.ok⟩
/-- While Put walks: the heap, two boxes. -/
structure PuS (w W : World) (h b : Nat) (T : List (Id8 × Int)) (v : Value) (l : List It) (came : Int) (x : It) : Prop where
  hp : HpAt W h b T v l came
  lt : ∀ k, HOwn h b v k → k < w.heap.size
  kp : Kp (HOwn h b v) w W
  k1 : W.heap[w.heap.size]? = some (.cells (bys x.key.1) 31 (0, 0))
  k2 : W.heap[w.heap.size + 1]? = some (.cells (rkV x) 79 (0, 0))
theorem PuS.kept {w W W' : World} {h b : Nat} {T : List (Id8 × Int)} {v : Value} {l : List It} {came : Int} {x : It} (H : PuS w W h b T v l came x) (hb : Below (w.heap.size + 2) W W') : PuS w W' h b T v l came x :=
  ⟨H.hp.same fun k hk => hb.block k (by have := H.lt k hk; omega), H.lt, H.kp.step hb.os hb.tape hb.output hb.size fun k hk _ => hb.block k (by omega), (hb.block _ (by omega)).trans H.k1, (hb.block _ (by omega)).trans H.k2⟩
theorem PuS.start {w : World} {h b : Nat} {T : List (Id8 × Int)} {v : Value} {l : List It} {came : Int} (H : HpAt w h b T v l came) (x : It) (n : Int) :
    PuS w (((w.setCell ⟨h, 3, none⟩ (.int .i64 n)).alloc (.cells (bys x.key.1) 31)).alloc (.cells (rkV x) 79)).drew h b T v l n x := by
  have hsz : (w.setCell ⟨h, 3, none⟩ (.int .i64 n)).heap.size = w.heap.size := setCell_size _ _ _
  have hb0 : Below (w.setCell ⟨h, 3, none⟩ (.int .i64 n)).heap.size (w.setCell ⟨h, 3, none⟩ (.int .i64 n)) (((w.setCell ⟨h, 3, none⟩ (.int .i64 n)).alloc (.cells (bys x.key.1) 31)).alloc (.cells (rkV x) 79)).drew :=
    (((Below.refl _ _).alloc (Nat.le_refl _) _).alloc (by simp) _).drew
  refine ⟨(H.setCame n).kept hb0, fun k hk => H.lt hk, ((Kp.refl _ w).setCell (.inl (.inl rfl)) 3 _).below hb0, ?_, ?_⟩
  · have h1 := heap2_old (w.setCell ⟨h, 3, none⟩ (.int .i64 n)) (bys x.key.1) 31 (.cells (rkV x) 79)
    rw [hsz] at h1; exact h1
  · have h1 := heap2_new (w.setCell ⟨h, 3, none⟩ (.int .i64 n)) (.cells (bys x.key.1) 31) (rkV x) 79
    rw [hsz] at h1; exact h1
section
variable {P : Program} {ρ : Operand → Value} {o : Oper} {w : World} {v : Value}
theorem exec_lookup (T : TypeId) (m x : Operand) (ok : Bool) (ho : o.op = .lookup T m x ok) {mv key : Value} (hm : ρ m = mv) (hx : ρ x = key) (hr : (Instr.lookup T mv key ok).run P w = .ok v w) : (execOp ρ o).run P w = .ok (.value v) w := by
  unfold execOp
  simp only [ho, hm, hx, Sem.run_bind, Sem.run_pure, hr, Result.andThen_ok]
end
theorem PuS.look {w W : World} {h b : Nat} {T : List (Id8 × Int)} {v : Value} {l : List It} {came : Int} {x : It} (H : PuS w W h b T v l came x) (hx : lkp x.key T = none) :
    (Instr.lookup 105 (.map (some b)) (.agg (bys x.key.1)) true).run Try.prog W = .ok (.tuple #[.int .i64 0, .bool false]) W := by
  have h1 := MapIs.ok keyId Try.underlying105 H.hp.at' x.key (z := .int .i64 0) (by kernel_rfl)
  rw [hx] at h1; exact h1
section
variable {P : Program}
theorem step_append_row {w : World} {ops : Array Oper} {o : Oper} {a : Act} {K : Act → World → Prop} {Q : Exit → Act → World → Prop} {EE : Prop} (hgd : o.guard = none) (s x : Operand) (t : TypeId)
    (ho : o.op = .call { callee := .builtin .append, args := #[s, x], argTypes := #[t, t] })
    (base : Nat) (e : TypeId) (i : TypeInfo) (z : Value) (size bytes : Nat) (ht : P.underlying t = some (.slice e)) (hi : P.info? e = some i) (hz : i.zero = some z)
    (hsize : i.size = size) (hby : i.bytes = bytes) (hzs : z.cells.size = size) (hsz : 0 < size)
    (v : Value) (n : Nat) (xs : List Value) (hs : a.eval s = v) (hown : Row w base e size v n xs)
    (ad : Addr) (m c : Nat) (news : List Value) (hx : a.eval x = .slice (some ad) m c) (hl : news.length = m * size) (hnews : ∀ j u, news[j]? = some u → w.cell? (ad.add j) = some u) (h1 : ∀ u ∈ news, u.oneCell' = true)
    (h63 : n + m ≤ maxLen) (hbytes : (n + m) * bytes ≤ 140737488355328) (hbase : base ≤ w.heap.size)
    (h : ∀ v' w', Row w' base e size v' (n + m) (xs ++ news) → w.grownBy w' v.ownBlock → (v'.ownBlock = v.ownBlock ∨ ∀ g, v'.ownBlock = some g → w.heap.size ≤ g) → K (a.put o.dst v') w') :
    if Region.wanted o (yielded ops a.tmps) = true then Oper.wp P o a w K Q else EE := by
  have hw : Region.wanted o (yielded ops a.tmps) = true := by simp [Region.wanted, hgd]
  rw [if_pos hw]
  obtain ⟨v', w', hrun, r1, r2, r3⟩ := run_append_row (P := P) t o.type i z bytes ht hi hz hsize hby hzs hsz hown hbase ad m c news hl hnews h1 h63 hbytes
  unfold Oper.wp execOp
  simp only [ho, resolve, invoke, builtin, Sem.run_bind, Sem.run_pure, Result.andThen_ok, List.map_toArray, List.map_cons, List.map_nil, hs, hx, hrun]
  exact h v' w' r1 r2 r3
theorem step_build1 {w : World} {ops : Array Oper} {o : Oper} {a : Act} {K : Act → World → Prop} {Q : Exit → Act → World → Prop} {EE : Prop} (hgd : o.guard = none) (t e : TypeId) (x : Operand) (ho : o.op = .buildSlice t 1 #[(0, x)]) (cs : Array Value) (hx : a.eval x = .agg cs) (ie : TypeInfo) (z : Value)
    (hu : P.underlying t = some (.slice e)) (hie : P.info? e = some ie) (hz : ie.zero = some z) (hsz : ie.size = cs.size) (hpos : 0 < cs.size) (hsmall : cs.size ≤ 2 ^ 24)
    (h : K (a.put o.dst (.slice (some ⟨w.heap.size, 0, none⟩) 1 1)) (w.alloc (.cells cs e))) : if Region.wanted o (yielded ops a.tmps) = true then Oper.wp P o a w K Q else EE := by
  have hw : Region.wanted o (yielded ops a.tmps) = true := by simp [Region.wanted, hgd]
  rw [if_pos hw]
  have hrun := run_build1 (P := P) t e cs ie z hu hie hz hsz hpos hsmall w
  unfold Oper.wp
  simp [execOp, ho, hx, hrun, Result.andThen]
  exact h
end
theorem itE_table : (Try.prog.info? 103).map (fun i => (i.zero, i.size, i.bytes)) = some (some (.agg (itE ⟨idZ, 0, 0, 0⟩)), 11, 32) := by kernel_rfl
/-- Behind the append. -/
structure ApS (w W : World) (h b : Nat) (T : List (Id8 × Int)) (v0 v : Value) (l : List It) (came : Int) (x : It) : Prop where
  blk : W.heap[h]? = some (.cells #[lessV, v, .map (some b), .int .i64 came] 107 (0, 0))
  at' : MapIs numI W b T
  row : Row W 0 103 11 v l.length (fl itE l)
  kp : Kp (HOwn h b v0) w W
  k1 : W.heap[w.heap.size]? = some (.cells (bys x.key.1) 31 (0, 0))
  own : v.ownBlock = v0.ownBlock ∨ ∀ g, v.ownBlock = some g → w.heap.size ≤ g
theorem PuS.app0 {w W w5 : World} {h b : Nat} {T : List (Id8 × Int)} {v : Value} {l : List It} {came : Int} {x : It} (H : PuS w W h b T v l came x) (hg : W.grownBy w5 v.ownBlock) : w5.heap[h]? = W.heap[h]? :=
  hg.block h (heap_lt H.hp.blk) fun e => (H.hp.row_ne e.symm).1 rfl
theorem PuS.app {w W w5 : World} {h b : Nat} {T : List (Id8 × Int)} {v v5 : Value} {l : List It} {came : Int} {x y : It} (H : PuS w W h b T v l came x) (hg : W.grownBy w5 v.ownBlock) (hr : Row w5 0 103 11 v5 (l.length + 1) (fl itE l ++ (itE y).toList))
    (ho : v5.ownBlock = v.ownBlock ∨ ∀ g, v5.ownBlock = some g → W.heap.size ≤ g) : ApS w (w5.setCell ⟨h, 1, none⟩ v5) h b T v v5 (l ++ [y]) came x := by
  have hh := H.app0 hg
  have hlth := heap_lt H.hp.blk
  have hb5 : w5.heap[b]? = W.heap[b]? := hg.block b H.hp.at'.lt fun e => (H.hp.row_ne e.symm).2 rfl
  have hne : ∀ g, v5.ownBlock = some g → g ≠ h := fun g hg2 e => by
    rcases ho with h1 | h1
    · exact (H.hp.row_ne (by rw [← h1]; exact hg2)).1 e
    · have := h1 g hg2; omega
  refine ⟨by rw [row_setCell (hh.trans H.hp.blk)]; rfl, H.hp.at'.same (by rw [heap_setCell_ne H.hp.ne.symm]; exact hb5), ?_, ?_, ?_, ?_⟩
  · rw [fl_append, fl_one, List.length_append]
    exact hr.other fun g hg2 => heap_setCell_ne (hne g hg2)
  · exact (H.kp.grown hg fun k e => .inl (.inr (.inr e))).setCell (.inl (.inl rfl)) 1 _
  · rw [heap_setCell_ne (by have := H.lt h (.inl rfl); omega), hg.block _ (heap_lt H.k1) (fun e => by have := H.lt _ (.inr (.inr e.symm)); omega)]; exact H.k1
  · rcases ho with h1 | h1
    · exact .inl h1
    · exact .inr fun g hg2 => Nat.le_trans (by have := heap_lt H.k1; omega) (h1 g hg2)
theorem ApS.drew {w W : World} {h b : Nat} {T : List (Id8 × Int)} {v0 v : Value} {l : List It} {came : Int} {x : It} (A : ApS w W h b T v0 v l came x) : ApS w W.drew h b T v0 v l came x :=
  ⟨A.blk, A.at'.same rfl, A.row.other fun _ _ => rfl, A.kp.drew, A.k1, A.own⟩
theorem ApS.fin {w W : World} {h b : Nat} {T : List (Id8 × Int)} {v0 v : Value} {l : List It} {came : Int} {x y : It} (A : ApS w W h b T v0 v (l ++ [y]) came x) (ok : AtOk T l) (hx : lkp x.key T = none) (hy : y.key = x.key) (hb : HOwn h b v0 b) (hne : h ≠ b) :
    ∃ w', (Instr.mapUpdate 105 (.map (some b)) (.agg (bys x.key.1)) (.int .i64 l.length)).run Try.prog W = .ok () w' ∧ HpAt w' h b (putM T x.key l.length) v (l ++ [y]) came ∧ Kp (HOwn h b v0) w w' := by
  obtain ⟨w', hrun, hm, hg⟩ := MapIs.put keyId Try.underlying105 A.at' x.key (l.length : Int)
  refine ⟨w', hrun, ⟨?_, hm, ?_, ?_⟩, A.kp.grown hg fun k e => by cases e; exact .inl hb⟩
  · rw [hg.block h (heap_lt A.blk) (fun e => hne (by cases e; rfl))]; exact A.blk
  · refine A.row.other fun g hg2 => hg.block g (A.row.lt hg2) fun e => ?_
    cases e
    obtain ⟨cur, h1⟩ := A.row.type hg2
    obtain ⟨o, ho, hc⟩ := A.at'.obj
    rw [ho] at h1; cases h1; cases hc
  · have := ok.app (x := y) (by rw [hy]; exact hx)
    rw [hy] at this; exact this
/-- What Put leaves. -/
def PutAns (w : World) (h b : Nat) (v : Value) (came : Int) (l : List It) (y : It) (w' : World) : Prop :=
  ∃ (T' : List (Id8 × Int)) (v' : Value) (l' : List It), HpAt w' h b T' v' l' came ∧ l'.Perm (l ++ [y]) ∧ HeapOk l' ∧ Kp (HOwn h b v) w w' ∧ (v'.ownBlock = v.ownBlock ∨ ∀ g, v'.ownBlock = some g → w.heap.size ≤ g)
theorem putAns_up {w w6 w7 : World} {h b : Nat} {v v5 : Value} {came : Int} {l l' : List It} {y : It} (hk : Kp (HOwn h b v) w w6) (ho : v5.ownBlock = v.ownBlock ∨ ∀ g, v5.ownBlock = some g → w.heap.size ≤ g)
    (h7 : HpL w6 w7 h b v5 came (l ++ [y]) l') (w8 : World) (l2 : List It) (h8 : HpL w7 w8 h b v5 came l' l2) (hp : HeapOk l2) : PutAns w h b v came l y w8 := by
  obtain ⟨T', hT⟩ := h8.ex
  have hS : ∀ k, k < w.heap.size → HOwn h b v5 k → HOwn h b v k := fun k hk2 hk3 => by
    rcases hk3 with h1 | h1 | h1
    · exact .inl h1
    · exact .inr (.inl h1)
    · rcases ho with h2 | h2
      · exact .inr (.inr (by rw [← h2]; exact h1))
      · have := h2 k h1; omega
  exact ⟨T', v5, l2, hT, h8.perm.trans h7.perm, hp, (hk.trans h7.kp hS).trans h8.kp hS, ho⟩
theorem HpAt.slice {w : World} {h b : Nat} {T : List (Id8 × Int)} {v : Value} {l : List It} {came : Int} (H : HpAt w h b T v l came) : ∃ a cap, v = .slice a l.length cap := by
  obtain ⟨h0, a', cap, e1, h2⟩ := H.row
  exact ⟨a', cap, e1⟩
set_option maxRecDepth 100000 in
set_option maxHeartbeats 8000000 in
theorem put_any {w : World} {h b : Nat} {T : List (Id8 × Int)} {v : Value} {l : List It} {came : Int} (H : HpAt w h b T v l came) (hp : HeapOk l) (x : It) (hx : lkp x.key T = none) (hc0 : 0 ≤ came) (hc1 : came ≤ 4611686018427387904) (hlen : l.length ≤ 1048576) :
    Calls Try.prog 48 #[.pointer (some ⟨h, 0, none⟩), .agg (bys x.key.1), .agg (rkV x)] w fun e w' => e = .returned (.int .i64 0) ∧ PutAns w h b v (came + 1) l ⟨x.key, x.tick, x.num, came + 1⟩ w' := by
  obtain ⟨va, vc, rfl⟩ := H.slice
  obtain ⟨z, hz⟩ : ∃ z : It, ∀ w, (zeroValue 103).run Try.prog w = .ok (.agg (itE z)) w := ⟨⟨idZ, 0, 0, 0⟩, fun w => by kernel_rfl⟩
  have HZ := hid hz
  have HOK := hid H.ok
  have HNE := hid H.ne
  have HS := hid (PuS.start H x (came + 1))
  have HKI := hid (idV_info x.key)
  have HRI := hid (rkV_info x)
  have HXI := hid (itE_info ⟨x.key, x.tick, x.num, came + 1⟩)
  have hcell0 := H.cell0
  have hcell2 := H.cell2
  have hcell3 := H.cell3
  have heqm := eq_mapNil (some b)
  have hlf := eq_lessNil
  have hw := IntWalk.i64_in (came + 1) (by omega)
  have hfz : w.frozen? ⟨h, 3, none⟩ = false := free_row H.blk 3
  have hlt := heap_lt H.blk
  have hne1 : w.heap.size ≠ h := by omega
  have hne2 : w.heap.size + 1 ≠ h := by omega
  clear H
  go_enter Try.func48, Try.ntmps48
  go_wp2_with fail
  obtain ⟨W0, hW0⟩ : ∃ W0, W0 = (((w.setCell ⟨h, 3, none⟩ (.int .i64 (came + 1))).alloc (.cells (bys x.key.1) 31)).alloc (.cells (rkV x) 79)) := ⟨_, rfl⟩
  rw [← hW0]
  have HS1 := hid (show PuS w W0.drew h b T (.slice va l.length vc) l (came + 1) x by rw [hW0]; exact HS.out)
  have HSZ := hid (show W0.drew.heap.size = w.heap.size + 2 by rw [hW0]; exact (by simp))
  clear HS hW0 hcell0 hcell2 hcell3 heqm hlf hw hfz
  refine wp_region_held_drew (S := fun u => PuS w u h b T (.slice va l.length vc) l (came + 1) x) (by kernel_rfl) HS1.out ?_
  intro hHeld
  refine wpAnyH_take (i := 0) (oi := _) (v := (.agg (bys x.key.1))) rfl (by kernel_rfl) (by kernel_rfl) (by kernel_rfl) (fun _ _ _ h => h) (Or.inl ⟨by rfl, ?_⟩) (by assumption) ?_
  · intro w hSw
    exact exec_load 31 _ rfl _ rfl hSw.k1 Try.underlying31 rfl HKI.out
  (try simp only [Act.put, List.getElem_toArray, List.getElem_cons_zero]); (try simp only [List.setIfInBounds_toArray]); (try simp only [List.set_cons_succ]); (try simp only [List.set_cons_zero])
  refine wpAnyH_take (i := 1) (oi := _) (v := (.agg (rkV x))) rfl (by kernel_rfl) (by kernel_rfl) (by kernel_rfl) (fun _ _ _ h => h) (Or.inl ⟨by rfl, ?_⟩) (by assumption) ?_
  · intro w hSw
    exact exec_load 79 _ rfl _ rfl hSw.k2 Try.underlying79 rfl HRI.out
  (try simp only [Act.put, List.getElem_toArray, List.getElem_cons_succ, List.getElem_cons_zero]); (try simp only [List.setIfInBounds_toArray]); (try simp only [List.set_cons_succ]); (try simp only [List.set_cons_zero])
  refine wpAnyH_take (i := 2) (oi := _) (v := ?_) rfl (by kernel_rfl) (by kernel_rfl) (by kernel_rfl) (fun _ _ _ h => h) (Or.inl ⟨by rfl, ?_⟩) (by assumption) ?_
  rotate_left
  · intro w hSw
    try dsimp only at hSw
    first | (go_simp; done) | (go_simp; with_reducible rfl)
  (try simp only [Act.put, List.getElem_toArray, List.getElem_cons_succ, List.getElem_cons_zero]); (try simp only [List.setIfInBounds_toArray]); (try simp only [List.set_cons_succ]); (try simp only [List.set_cons_zero])
  refine wpAnyH_take (i := 3) (oi := _) (v := ?_) rfl (by kernel_rfl) (by kernel_rfl) (by kernel_rfl) (fun _ _ _ h => h) (Or.inl ⟨by rfl, ?_⟩) (by assumption) ?_
  rotate_left
  · intro w hSw
    try dsimp only at hSw
    first | (go_simp; done) | (go_simp; with_reducible rfl)
  (try simp only [Act.put, List.getElem_toArray, List.getElem_cons_succ, List.getElem_cons_zero]); (try simp only [List.setIfInBounds_toArray]); (try simp only [List.set_cons_succ]); (try simp only [List.set_cons_zero])
  refine wpAnyH_take (i := 4) (oi := _) (v := ?_) rfl (by kernel_rfl) (by kernel_rfl) (by kernel_rfl) (fun _ _ _ h => h) (Or.inl ⟨by rfl, ?_⟩) (by assumption) ?_
  rotate_left
  · intro w hSw
    try dsimp only at hSw
    first | (go_simp; done) | (go_simp; with_reducible rfl)
  (try simp only [Act.put, List.getElem_toArray, List.getElem_cons_succ, List.getElem_cons_zero]); (try simp only [List.setIfInBounds_toArray]); (try simp only [List.set_cons_succ]); (try simp only [List.set_cons_zero])
  refine wpAnyH_take (i := 5) (oi := _) (v := (.int .i64 (came + 1))) rfl (by kernel_rfl) (by kernel_rfl) (by kernel_rfl) (fun _ _ _ h => h) (Or.inl ⟨by rfl, ?_⟩) (by assumption) ?_
  · intro w hSw
    have hc3 := hSw.hp.cell3; (go_simp; done)
  (try simp only [Act.put, List.getElem_toArray, List.getElem_cons_succ, List.getElem_cons_zero]); (try simp only [List.setIfInBounds_toArray]); (try simp only [List.set_cons_succ]); (try simp only [List.set_cons_zero])
  refine wpAnyH_take (i := 6) (oi := _) (v := (.agg (itE ⟨x.key, x.tick, x.num, came + 1⟩))) rfl (by kernel_rfl) (by kernel_rfl) (by kernel_rfl) (fun _ _ _ h => h) (Or.inl ⟨by rfl, ?_⟩) (by assumption) ?_
  · intro w hSw
    refine exec_build _ _ rfl ?_; simp only [List.map_toArray, List.map_cons, List.map_nil]; exact build_item x (came + 1) w
  (try simp only [Act.put, List.getElem_toArray, List.getElem_cons_succ, List.getElem_cons_zero]); (try simp only [List.setIfInBounds_toArray]); (try simp only [List.set_cons_succ]); (try simp only [List.set_cons_zero])
  clear hHeld
  have hzz := HZ.out
  refine wpAnyH_ready (rs := [7]) (by kernel_rfl) (by simp) ?_
  refine AllReadyH.cons rfl (fun K hK => ?_) AllReadyH.nil
  go_simp
  refine hK.out _ _ ?_ (fun hHeld => ?_)
  · exact HS1.out.kept ((Below.refl _ _).alloc (by rw [HSZ.out]; omega) _)
  clear hK K
  (try simp only [Act.put, List.getElem_toArray, List.getElem_cons_succ, List.getElem_cons_zero]); (try simp only [List.setIfInBounds_toArray]); (try simp only [List.set_cons_succ]); (try simp only [List.set_cons_zero])
  clear hHeld
  refine wpAnyH_ready (rs := [8]) (by kernel_rfl) (by simp) ?_
  refine AllReadyH.cons rfl (fun K hK => ?_) AllReadyH.nil
  refine step_store_row rfl 103 _ _ rfl W0.drew.heap.size (itE ⟨x.key, x.tick, x.num, came + 1⟩) rfl rfl 103 (itE z) (heap_alloc_new _ _) HXI.out (by rw [itE_size, itE_size]) (itE_ones _) ?_; rw [show (W0.alloc (.cells (itE z) 103)).drew.setRow W0.drew.heap.size (itE ⟨x.key, x.tick, x.num, came + 1⟩) = W0.drew.alloc (.cells (itE ⟨x.key, x.tick, x.num, came + 1⟩) 103) from (show (W0.drew.alloc (.cells (itE z) 103)).setRow W0.drew.heap.size (itE ⟨x.key, x.tick, x.num, came + 1⟩) = W0.drew.alloc (.cells (itE ⟨x.key, x.tick, x.num, came + 1⟩) 103) from setRow_alloc _ _ _ _)]
  refine hK.out _ _ ?_ (fun hHeld => ?_)
  · exact HS1.out.kept ((Below.refl _ _).alloc (by rw [HSZ.out]; omega) _)
  clear hK K
  (try simp only [Act.put, List.getElem_toArray, List.getElem_cons_succ, List.getElem_cons_zero]); (try simp only [List.setIfInBounds_toArray]); (try simp only [List.set_cons_succ]); (try simp only [List.set_cons_zero])
  clear hHeld hzz
  refine wpAnyH_done (by kernel_rfl) ?_ _
  obtain ⟨W1, hW1⟩ : ∃ W1, W1 = W0.drew.alloc (.cells (itE ⟨x.key, x.tick, x.num, came + 1⟩) 103) := ⟨_, rfl⟩
  rw [← hW1, show W0.heap.size = w.heap.size + 2 from HSZ.out]
  have HS2 := hid (show PuS w W1 h b T (.slice va l.length vc) l (came + 1) x by rw [hW1]; exact HS1.out.kept ((Below.refl _ _).alloc (by rw [HSZ.out]; omega) _))
  have HK3 := hid (show W1.heap[w.heap.size + 2]? = some (.cells (itE ⟨x.key, x.tick, x.num, came + 1⟩) 103 (0, 0)) by rw [hW1, ← HSZ.out]; exact heap_alloc_new _ _)
  have HZ1 := hid (show W1.heap.size = w.heap.size + 3 by rw [hW1, alloc_size, HSZ.out])
  clear hW1 HS1 HSZ HZ
  go_wp2_with fail
  refine wp_region_held_drew (S := fun u => PuS w u h b T (.slice va l.length vc) l (came + 1) x) (by kernel_rfl) (HS2.out.kept (Below.refl _ _).drew) ?_
  intro hHeld
  refine wpAnyH_take (i := 0) (oi := _) (v := ?_) rfl (by kernel_rfl) (by kernel_rfl) (by kernel_rfl) (fun _ _ _ h => h) (Or.inl ⟨by rfl, ?_⟩) (by assumption) ?_
  rotate_left
  · intro w hSw
    try dsimp only at hSw
    first | (go_simp; done) | (go_simp; with_reducible rfl)
  (try simp only [Act.put, List.getElem_toArray, List.getElem_cons_zero]); (try simp only [List.setIfInBounds_toArray]); (try simp only [List.set_cons_succ]); (try simp only [List.set_cons_zero])
  refine wpAnyH_take (i := 1) (oi := _) (v := ?_) rfl (by kernel_rfl) (by kernel_rfl) (by kernel_rfl) (fun _ _ _ h => h) (Or.inl ⟨by rfl, ?_⟩) (by assumption) ?_
  rotate_left
  · intro w hSw
    try dsimp only at hSw
    first | (go_simp; done) | (go_simp; with_reducible rfl)
  (try simp only [Act.put, List.getElem_toArray, List.getElem_cons_succ, List.getElem_cons_zero]); (try simp only [List.setIfInBounds_toArray]); (try simp only [List.set_cons_succ]); (try simp only [List.set_cons_zero])
  refine wpAnyH_take (i := 2) (oi := _) (v := ?_) rfl (by kernel_rfl) (by kernel_rfl) (by kernel_rfl) (fun _ _ _ h => h) (Or.inl ⟨by rfl, ?_⟩) (by assumption) ?_
  rotate_left
  · intro w hSw
    try dsimp only at hSw
    first | (go_simp; done) | (go_simp; with_reducible rfl)
  (try simp only [Act.put, List.getElem_toArray, List.getElem_cons_succ, List.getElem_cons_zero]); (try simp only [List.setIfInBounds_toArray]); (try simp only [List.set_cons_succ]); (try simp only [List.set_cons_zero])
  refine wpAnyH_take (i := 3) (oi := _) (v := (.map (some b))) rfl (by kernel_rfl) (by kernel_rfl) (by kernel_rfl) (fun _ _ _ h => h) (Or.inl ⟨by rfl, ?_⟩) (by assumption) ?_
  · intro w hSw
    have hc2 := hSw.hp.cell2; (go_simp; done)
  (try simp only [Act.put, List.getElem_toArray, List.getElem_cons_succ, List.getElem_cons_zero]); (try simp only [List.setIfInBounds_toArray]); (try simp only [List.set_cons_succ]); (try simp only [List.set_cons_zero])
  refine wpAnyH_take (i := 4) (oi := _) (v := (.agg (bys x.key.1))) rfl (by kernel_rfl) (by kernel_rfl) (by kernel_rfl) (fun _ _ _ h => h) (Or.inl ⟨by rfl, ?_⟩) (by assumption) ?_
  · intro w hSw
    exact exec_load 31 _ rfl _ rfl hSw.k1 Try.underlying31 rfl HKI.out
  (try simp only [Act.put, List.getElem_toArray, List.getElem_cons_succ, List.getElem_cons_zero]); (try simp only [List.setIfInBounds_toArray]); (try simp only [List.set_cons_succ]); (try simp only [List.set_cons_zero])
  refine wpAnyH_take (i := 5) (oi := _) (v := (.tuple #[.int .i64 0, .bool false])) rfl (by kernel_rfl) (by kernel_rfl) (by kernel_rfl) (fun _ _ _ h => h) (Or.inl ⟨by rfl, ?_⟩) (by assumption) ?_
  · intro w hSw
    exact exec_lookup _ _ _ _ rfl rfl rfl (hSw.look hx)
  (try simp only [Act.put, List.getElem_toArray, List.getElem_cons_succ, List.getElem_cons_zero]); (try simp only [List.setIfInBounds_toArray]); (try simp only [List.set_cons_succ]); (try simp only [List.set_cons_zero])
  refine wpAnyH_take (i := 6) (oi := _) (v := ?_) rfl (by kernel_rfl) (by kernel_rfl) (by kernel_rfl) (fun _ _ _ h => h) (Or.inl ⟨by rfl, ?_⟩) (by assumption) ?_
  rotate_left
  · intro w hSw
    try dsimp only at hSw
    first | (go_simp; done) | (go_simp; with_reducible rfl)
  (try simp only [Act.put, List.getElem_toArray, List.getElem_cons_succ, List.getElem_cons_zero]); (try simp only [List.setIfInBounds_toArray]); (try simp only [List.set_cons_succ]); (try simp only [List.set_cons_zero])
  refine wpAnyH_take (i := 7) (oi := _) (v := ?_) rfl (by kernel_rfl) (by kernel_rfl) (by kernel_rfl) (fun _ _ _ h => h) (Or.inl ⟨by rfl, ?_⟩) (by assumption) ?_
  rotate_left
  · intro w hSw
    try dsimp only at hSw
    first | (go_simp; done) | (go_simp; with_reducible rfl)
  (try simp only [Act.put, List.getElem_toArray, List.getElem_cons_succ, List.getElem_cons_zero]); (try simp only [List.setIfInBounds_toArray]); (try simp only [List.set_cons_succ]); (try simp only [List.set_cons_zero])
  refine wpAnyH_take (i := 8) (oi := _) (v := ?_) rfl (by kernel_rfl) (by kernel_rfl) (by kernel_rfl) (fun _ _ _ h => h) (Or.inl ⟨by rfl, ?_⟩) (by assumption) ?_
  rotate_left
  · intro w hSw
    try dsimp only at hSw
    first | (go_simp; done) | (go_simp; with_reducible rfl)
  (try simp only [Act.put, List.getElem_toArray, List.getElem_cons_succ, List.getElem_cons_zero]); (try simp only [List.setIfInBounds_toArray]); (try simp only [List.set_cons_succ]); (try simp only [List.set_cons_zero])
  clear hHeld
  refine wpAnyH_ready (rs := [9]) (by kernel_rfl) (by simp) ?_
  refine AllReadyH.cons rfl (fun K hK => ?_) AllReadyH.nil
  go_simp
  refine hK.out _ _ ?_ (fun hHeld => ?_)
  · exact HS2.out.kept (Below.refl _ _).drew
  clear hK K
  (try simp only [Act.put, List.getElem_toArray, List.getElem_cons_succ, List.getElem_cons_zero]); (try simp only [List.setIfInBounds_toArray]); (try simp only [List.set_cons_succ]); (try simp only [List.set_cons_zero])
  clear hHeld
  refine wpAnyH_ready (rs := [10]) (by kernel_rfl) (by simp) ?_
  refine AllReadyH.cons rfl (fun K hK => ?_) AllReadyH.nil
  go_simp
  refine hK.out _ _ ?_ (fun hHeld => ?_)
  · exact HS2.out.kept (Below.refl _ _).drew
  clear hK K
  (try simp only [Act.put, List.getElem_toArray, List.getElem_cons_succ, List.getElem_cons_zero]); (try simp only [List.setIfInBounds_toArray]); (try simp only [List.set_cons_succ]); (try simp only [List.set_cons_zero])
  clear hHeld
  have hc1 := HS2.out.hp.cell1
  refine wpAnyH_done (by kernel_rfl) ?_ _
  go_wp2_with fail
  obtain ⟨W2, hW2⟩ : ∃ W2, W2 = W1.drew.drew := ⟨_, rfl⟩
  have HS3 := hid (show PuS w W2 h b T (.slice va l.length vc) l (came + 1) x by rw [hW2]; exact HS2.out.kept (Below.refl _ _).drew.drew)
  have HK4 := hid (show W2.heap[w.heap.size + 2]? = some (.cells (itE ⟨x.key, x.tick, x.num, came + 1⟩) 103 (0, 0)) by rw [hW2]; exact HK3.out)
  have HZ2 := hid (show W2.heap.size = w.heap.size + 3 by rw [hW2]; exact HZ1.out)
  obtain ⟨W4, hW4⟩ : ∃ W4, W4 = W2.alloc (.cells (itE ⟨x.key, x.tick, x.num, came + 1⟩) 103) := ⟨_, rfl⟩
  have HW4 := hid hW4
  have HS4 := hid (show PuS w W4 h b T (.slice va l.length vc) l (came + 1) x by rw [hW4]; exact HS3.out.kept ((Below.refl _ _).alloc (by rw [HZ2.out]; omega) _))
  have HN4 := hid (show W4.heap[W2.heap.size]? = some (.cells (itE ⟨x.key, x.tick, x.num, came + 1⟩) 103 (0, 0)) by rw [hW4]; exact heap_alloc_new _ _)
  have hcA := HS3.out.hp.cell1
  have hcB := HS4.out.hp.cell1
  obtain ⟨i0, hi, hi2⟩ := Option.map_eq_some_iff.1 itE_table
  have hz0 := congrArg Prod.fst hi2
  have hz1 := congrArg (·.2.1) hi2
  have hz2 := congrArg (·.2.2) hi2
  dsimp only at hz0 hz1 hz2
  clear hc1 HS2 HK3 HZ1 hi2
  refine wp_region_held_drew (S := fun _ => True) (by kernel_rfl) True.intro ?_
  intro hHeld
  rw [← hW2]
  clear hW2 hW4
  refine wpAnyH_take (i := 0) (oi := _) (v := ?_) rfl (by kernel_rfl) (by kernel_rfl) (by kernel_rfl) (fun _ _ _ h => h) (Or.inl ⟨by rfl, ?_⟩) (by assumption) ?_
  rotate_left
  · intro w hSw
    try dsimp only at hSw
    first | (go_simp; done) | (go_simp; with_reducible rfl)
  (try simp only [Act.put, List.getElem_toArray, List.getElem_cons_zero]); (try simp only [List.setIfInBounds_toArray]); (try simp only [List.set_cons_succ]); (try simp only [List.set_cons_zero])
  refine wpAnyH_take (i := 1) (oi := _) (v := ?_) rfl (by kernel_rfl) (by kernel_rfl) (by kernel_rfl) (fun _ _ _ h => h) (Or.inl ⟨by rfl, ?_⟩) (by assumption) ?_
  rotate_left
  · intro w hSw
    try dsimp only at hSw
    first | (go_simp; done) | (go_simp; with_reducible rfl)
  (try simp only [Act.put, List.getElem_toArray, List.getElem_cons_succ, List.getElem_cons_zero]); (try simp only [List.setIfInBounds_toArray]); (try simp only [List.set_cons_succ]); (try simp only [List.set_cons_zero])
  refine wpAnyH_take (i := 2) (oi := _) (v := ?_) rfl (by kernel_rfl) (by kernel_rfl) (by kernel_rfl) (fun _ _ _ h => h) (Or.inl ⟨by rfl, ?_⟩) (by assumption) ?_
  rotate_left
  · intro w hSw
    try dsimp only at hSw
    first | (go_simp; done) | (go_simp; with_reducible rfl)
  (try simp only [Act.put, List.getElem_toArray, List.getElem_cons_succ, List.getElem_cons_zero]); (try simp only [List.setIfInBounds_toArray]); (try simp only [List.set_cons_succ]); (try simp only [List.set_cons_zero])
  refine wpAnyH_take (i := 3) (oi := _) (v := ?_) rfl (by kernel_rfl) (by kernel_rfl) (by kernel_rfl) (fun _ _ _ h => h) (Or.inl ⟨by rfl, ?_⟩) (by assumption) ?_
  rotate_left
  · intro w hSw
    try dsimp only at hSw
    first | (go_simp; done) | (go_simp; with_reducible rfl)
  (try simp only [Act.put, List.getElem_toArray, List.getElem_cons_succ, List.getElem_cons_zero]); (try simp only [List.setIfInBounds_toArray]); (try simp only [List.set_cons_succ]); (try simp only [List.set_cons_zero])
  refine wpAnyH_ready (rs := [4, 5]) (by kernel_rfl) (by simp) ?_
  refine AllReadyH.cons rfl (fun K hK => ?_) (AllReadyH.cons rfl (fun K hK => ?_) (AllReadyH.nil))
  · go_simp
    refine hK.out _ _ ?_ (fun hHeld => ?_)
    · exact True.intro
    clear hK K
    (try simp only [Act.put, List.getElem_toArray, List.getElem_cons_succ, List.getElem_cons_zero]); (try simp only [List.setIfInBounds_toArray]); (try simp only [List.set_cons_succ]); (try simp only [List.set_cons_zero])
    refine wpAnyH_ready (rs := [5]) (by kernel_rfl) (by simp) ?_
    refine AllReadyH.cons rfl (fun K hK => ?_) (AllReadyH.nil)
    refine step_exec rfl (exec_load 103 _ rfl _ rfl HK4.out Try.underlying103 rfl HXI.out) ?_
    refine hK.out _ _ ?_ (fun hHeld => ?_)
    · exact True.intro
    clear hK K
    (try simp only [Act.put, List.getElem_toArray, List.getElem_cons_succ, List.getElem_cons_zero]); (try simp only [List.setIfInBounds_toArray]); (try simp only [List.set_cons_succ]); (try simp only [List.set_cons_zero])
    refine wpAnyH_ready (rs := [6]) (by kernel_rfl) (by simp) ?_
    refine AllReadyH.cons rfl (fun K hK => ?_) (AllReadyH.nil)
    (refine step_build1 rfl 104 103 _ (by rfl) (itE ⟨x.key, x.tick, x.num, came + 1⟩) (by rfl) i0 _ Try.underlying104 hi hz0 (by rw [hz1, itE_size]) (by rw [itE_size]; decide) (by rw [itE_size]; decide) ?_); rw [← HW4.out]
    refine hK.out _ _ ?_ (fun hHeld => ?_)
    · exact True.intro
    clear hK K
    (try simp only [Act.put, List.getElem_toArray, List.getElem_cons_succ, List.getElem_cons_zero]); (try simp only [List.setIfInBounds_toArray]); (try simp only [List.set_cons_succ]); (try simp only [List.set_cons_zero])
    refine wpAnyH_ready (rs := [7]) (by kernel_rfl) (by simp) ?_
    refine AllReadyH.cons rfl (fun K hK => ?_) (AllReadyH.nil)
    (refine step_append_row rfl _ _ 104 (by rfl) 0 103 i0 _ 11 32 Try.underlying104 hi hz0 hz1 hz2 (by exact itE_size _) (by decide) _ _ _ (by rfl) HS4.out.hp.row ⟨_, 0, none⟩ 1 1 (itE ⟨x.key, x.tick, x.num, came + 1⟩).toList (by rfl) (by rw [Array.length_toList, itE_size]) (cells_at HN4.out) (itE_ones _) (by unfold maxLen; omega) (by omega) (Nat.zero_le _) ?_)
    intro v5 w5 hr5 hg5 ho5
    have HA := hid (HS4.out.app hg5 hr5 ho5)
    have hb5 := (HS4.out.app0 hg5).trans HS4.out.hp.blk
    have hc5 : w5.cell? ⟨h, 1, none⟩ = some (.slice va l.length vc) := by rw [cell_of_row _ _ _ _ _ _ hb5]; rfl
    have hf5 : w5.frozen? ⟨h, 1, none⟩ = false := free_row hb5 1
    obtain ⟨a5, c5, rfl⟩ := hr5.shape
    clear hr5 hg5 ho5 hb5
    refine hK.out _ _ ?_ (fun hHeld => ?_)
    · exact True.intro
    clear hK K
    (try simp only [Act.put, List.getElem_toArray, List.getElem_cons_succ, List.getElem_cons_zero]); (try simp only [List.setIfInBounds_toArray]); (try simp only [List.set_cons_succ]); (try simp only [List.set_cons_zero])
    refine wpAnyH_take (i := 8) (oi := _) (v := ?_) rfl (by kernel_rfl) (by kernel_rfl) (by kernel_rfl) (fun _ _ _ h => h) (Or.inl ⟨by rfl, ?_⟩) (by assumption) ?_
    rotate_left
    · intro w hSw
      try dsimp only at hSw
      first | (go_simp; done) | (go_simp; with_reducible rfl)
    (try simp only [Act.put, List.getElem_toArray, List.getElem_cons_succ, List.getElem_cons_zero]); (try simp only [List.setIfInBounds_toArray]); (try simp only [List.set_cons_succ]); (try simp only [List.set_cons_zero])
    refine wpAnyH_take (i := 9) (oi := _) (v := ?_) rfl (by kernel_rfl) (by kernel_rfl) (by kernel_rfl) (fun _ _ _ h => h) (Or.inl ⟨by rfl, ?_⟩) (by assumption) ?_
    rotate_left
    · intro w hSw
      try dsimp only at hSw
      first | (go_simp; done) | (go_simp; with_reducible rfl)
    (try simp only [Act.put, List.getElem_toArray, List.getElem_cons_succ, List.getElem_cons_zero]); (try simp only [List.setIfInBounds_toArray]); (try simp only [List.set_cons_succ]); (try simp only [List.set_cons_zero])
    refine wpAnyH_ready (rs := [10]) (by kernel_rfl) (by simp) ?_
    refine AllReadyH.cons rfl (fun K hK => ?_) (AllReadyH.nil)
    go_simp
    refine hK.out _ _ ?_ (fun hHeld => ?_)
    · exact True.intro
    clear hK K
    (try simp only [Act.put, List.getElem_toArray, List.getElem_cons_succ, List.getElem_cons_zero]); (try simp only [List.setIfInBounds_toArray]); (try simp only [List.set_cons_succ]); (try simp only [List.set_cons_zero])
    clear hHeld
    refine wpAnyH_done (by kernel_rfl) ?_ _
    clear hc5 hf5 hcA hcB
    go_wp2_with fail
    obtain ⟨W6, hW6⟩ : ∃ W6, W6 = w5.setCell ⟨h, 1, none⟩ (.slice a5 (l.length + 1 : Nat) c5) := ⟨_, rfl⟩
    have HA2 := hid (show ApS w W6 _ _ _ _ _ _ _ _ by rw [hW6]; exact HA.out)
    obtain ⟨w6, hrun, hH6, hK6⟩ := HA2.out.drew.fin HOK.out hx rfl (.inr (.inl rfl)) HNE.out
    have HH6 := hid hH6
    have HK6 := hid hK6
    clear hH6 hK6 HA
    have hc2 : W6.drew.cell? ⟨h, 2, none⟩ = some (.map (some b)) := by rw [cell_of_row _ _ _ _ _ _ HA2.out.drew.blk]; rfl
    rw [← hW6]
    clear hW6
    refine wp_region_tail 6 (by kernel_rfl) (by kernel_rfl) W6.drew rfl ?_
    simp only [List.take_succ_cons, List.take_zero, List.drop_succ_cons, List.drop_zero]
    iterate 4 still_step
    refine still_load_row rfl 31 _ rfl _ rfl _ _ _ _ HA2.out.drew.k1 Try.underlying31 rfl HKI.out ?_
    simp only [Act.put, List.setIfInBounds_toArray, List.set_cons_zero, List.set_cons_succ]
    still_step
    refine wpStill_nil ?_
    have HOW := hid HA2.out.own
    clear hc2
    have HUP := hid (up_any HH6.out (i := l.length) (by simp) (hole_app hp _) (by simp; omega))
    go_wp2_with (first | (go_at_call 53; (with_reducible refine HUP.out.mono ?_); rintro e w7 ⟨l', j, rfl, h7, hj, hh, hok⟩; have H7 := hid h7; have HDN := hid (down_any (l0 := l') (i := j) ⟨h7.ex, List.Perm.refl _, Kp.refl _ _⟩ hj hh hok (by rw [h7.perm.length_eq]; simp; omega)); clear h7 hh hok)
                        | (go_at_call 52; (with_reducible refine HDN.out.mono ?_); rintro e w8 ⟨l2, rfl, h8, hp2⟩; have H8 := hid h8; have HP2 := hid hp2; clear h8 hp2))
    go_ret
    exact ⟨rfl, putAns_up HK6.out HOW.out H7.out _ _ H8.out HP2.out⟩
  · refine step_exec rfl (exec_load 103 _ rfl _ rfl HK4.out Try.underlying103 rfl HXI.out) ?_
    refine hK.out _ _ ?_ (fun hHeld => ?_)
    · exact True.intro
    clear hK K
    (try simp only [Act.put, List.getElem_toArray, List.getElem_cons_succ, List.getElem_cons_zero]); (try simp only [List.setIfInBounds_toArray]); (try simp only [List.set_cons_succ]); (try simp only [List.set_cons_zero])
    refine wpAnyH_ready (rs := [4, 6]) (by kernel_rfl) (by simp) ?_
    refine AllReadyH.cons rfl (fun K hK => ?_) (AllReadyH.cons rfl (fun K hK => ?_) (AllReadyH.nil))
    · go_simp
      refine hK.out _ _ ?_ (fun hHeld => ?_)
      · exact True.intro
      clear hK K
      (try simp only [Act.put, List.getElem_toArray, List.getElem_cons_succ, List.getElem_cons_zero]); (try simp only [List.setIfInBounds_toArray]); (try simp only [List.set_cons_succ]); (try simp only [List.set_cons_zero])
      refine wpAnyH_ready (rs := [6]) (by kernel_rfl) (by simp) ?_
      refine AllReadyH.cons rfl (fun K hK => ?_) (AllReadyH.nil)
      (refine step_build1 rfl 104 103 _ (by rfl) (itE ⟨x.key, x.tick, x.num, came + 1⟩) (by rfl) i0 _ Try.underlying104 hi hz0 (by rw [hz1, itE_size]) (by rw [itE_size]; decide) (by rw [itE_size]; decide) ?_); rw [← HW4.out]
      refine hK.out _ _ ?_ (fun hHeld => ?_)
      · exact True.intro
      clear hK K
      (try simp only [Act.put, List.getElem_toArray, List.getElem_cons_succ, List.getElem_cons_zero]); (try simp only [List.setIfInBounds_toArray]); (try simp only [List.set_cons_succ]); (try simp only [List.set_cons_zero])
      refine wpAnyH_ready (rs := [7]) (by kernel_rfl) (by simp) ?_
      refine AllReadyH.cons rfl (fun K hK => ?_) (AllReadyH.nil)
      (refine step_append_row rfl _ _ 104 (by rfl) 0 103 i0 _ 11 32 Try.underlying104 hi hz0 hz1 hz2 (by exact itE_size _) (by decide) _ _ _ (by rfl) HS4.out.hp.row ⟨_, 0, none⟩ 1 1 (itE ⟨x.key, x.tick, x.num, came + 1⟩).toList (by rfl) (by rw [Array.length_toList, itE_size]) (cells_at HN4.out) (itE_ones _) (by unfold maxLen; omega) (by omega) (Nat.zero_le _) ?_)
      intro v5 w5 hr5 hg5 ho5
      have HA := hid (HS4.out.app hg5 hr5 ho5)
      have hb5 := (HS4.out.app0 hg5).trans HS4.out.hp.blk
      have hc5 : w5.cell? ⟨h, 1, none⟩ = some (.slice va l.length vc) := by rw [cell_of_row _ _ _ _ _ _ hb5]; rfl
      have hf5 : w5.frozen? ⟨h, 1, none⟩ = false := free_row hb5 1
      obtain ⟨a5, c5, rfl⟩ := hr5.shape
      clear hr5 hg5 ho5 hb5
      refine hK.out _ _ ?_ (fun hHeld => ?_)
      · exact True.intro
      clear hK K
      (try simp only [Act.put, List.getElem_toArray, List.getElem_cons_succ, List.getElem_cons_zero]); (try simp only [List.setIfInBounds_toArray]); (try simp only [List.set_cons_succ]); (try simp only [List.set_cons_zero])
      refine wpAnyH_take (i := 8) (oi := _) (v := ?_) rfl (by kernel_rfl) (by kernel_rfl) (by kernel_rfl) (fun _ _ _ h => h) (Or.inl ⟨by rfl, ?_⟩) (by assumption) ?_
      rotate_left
      · intro w hSw
        try dsimp only at hSw
        first | (go_simp; done) | (go_simp; with_reducible rfl)
      (try simp only [Act.put, List.getElem_toArray, List.getElem_cons_succ, List.getElem_cons_zero]); (try simp only [List.setIfInBounds_toArray]); (try simp only [List.set_cons_succ]); (try simp only [List.set_cons_zero])
      refine wpAnyH_take (i := 9) (oi := _) (v := ?_) rfl (by kernel_rfl) (by kernel_rfl) (by kernel_rfl) (fun _ _ _ h => h) (Or.inl ⟨by rfl, ?_⟩) (by assumption) ?_
      rotate_left
      · intro w hSw
        try dsimp only at hSw
        first | (go_simp; done) | (go_simp; with_reducible rfl)
      (try simp only [Act.put, List.getElem_toArray, List.getElem_cons_succ, List.getElem_cons_zero]); (try simp only [List.setIfInBounds_toArray]); (try simp only [List.set_cons_succ]); (try simp only [List.set_cons_zero])
      refine wpAnyH_ready (rs := [10]) (by kernel_rfl) (by simp) ?_
      refine AllReadyH.cons rfl (fun K hK => ?_) (AllReadyH.nil)
      go_simp
      refine hK.out _ _ ?_ (fun hHeld => ?_)
      · exact True.intro
      clear hK K
      (try simp only [Act.put, List.getElem_toArray, List.getElem_cons_succ, List.getElem_cons_zero]); (try simp only [List.setIfInBounds_toArray]); (try simp only [List.set_cons_succ]); (try simp only [List.set_cons_zero])
      clear hHeld
      refine wpAnyH_done (by kernel_rfl) ?_ _
      clear hc5 hf5 hcA hcB
      go_wp2_with fail
      obtain ⟨W6, hW6⟩ : ∃ W6, W6 = w5.setCell ⟨h, 1, none⟩ (.slice a5 (l.length + 1 : Nat) c5) := ⟨_, rfl⟩
      have HA2 := hid (show ApS w W6 _ _ _ _ _ _ _ _ by rw [hW6]; exact HA.out)
      obtain ⟨w6, hrun, hH6, hK6⟩ := HA2.out.drew.fin HOK.out hx rfl (.inr (.inl rfl)) HNE.out
      have HH6 := hid hH6
      have HK6 := hid hK6
      clear hH6 hK6 HA
      have hc2 : W6.drew.cell? ⟨h, 2, none⟩ = some (.map (some b)) := by rw [cell_of_row _ _ _ _ _ _ HA2.out.drew.blk]; rfl
      rw [← hW6]
      clear hW6
      refine wp_region_tail 6 (by kernel_rfl) (by kernel_rfl) W6.drew rfl ?_
      simp only [List.take_succ_cons, List.take_zero, List.drop_succ_cons, List.drop_zero]
      iterate 4 still_step
      refine still_load_row rfl 31 _ rfl _ rfl _ _ _ _ HA2.out.drew.k1 Try.underlying31 rfl HKI.out ?_
      simp only [Act.put, List.setIfInBounds_toArray, List.set_cons_zero, List.set_cons_succ]
      still_step
      refine wpStill_nil ?_
      have HOW := hid HA2.out.own
      clear hc2
      have HUP := hid (up_any HH6.out (i := l.length) (by simp) (hole_app hp _) (by simp; omega))
      go_wp2_with (first | (go_at_call 53; (with_reducible refine HUP.out.mono ?_); rintro e w7 ⟨l', j, rfl, h7, hj, hh, hok⟩; have H7 := hid h7; have HDN := hid (down_any (l0 := l') (i := j) ⟨h7.ex, List.Perm.refl _, Kp.refl _ _⟩ hj hh hok (by rw [h7.perm.length_eq]; simp; omega)); clear h7 hh hok)
                          | (go_at_call 52; (with_reducible refine HDN.out.mono ?_); rintro e w8 ⟨l2, rfl, h8, hp2⟩; have H8 := hid h8; have HP2 := hid hp2; clear h8 hp2))
      go_ret
      exact ⟨rfl, putAns_up HK6.out HOW.out H7.out _ _ H8.out HP2.out⟩
    · (refine step_build1 rfl 104 103 _ (by rfl) (itE ⟨x.key, x.tick, x.num, came + 1⟩) (by rfl) i0 _ Try.underlying104 hi hz0 (by rw [hz1, itE_size]) (by rw [itE_size]; decide) (by rw [itE_size]; decide) ?_); rw [← HW4.out]
      refine hK.out _ _ ?_ (fun hHeld => ?_)
      · exact True.intro
      clear hK K
      (try simp only [Act.put, List.getElem_toArray, List.getElem_cons_succ, List.getElem_cons_zero]); (try simp only [List.setIfInBounds_toArray]); (try simp only [List.set_cons_succ]); (try simp only [List.set_cons_zero])
      refine wpAnyH_ready (rs := [4]) (by kernel_rfl) (by simp) ?_
      refine AllReadyH.cons rfl (fun K hK => ?_) (AllReadyH.nil)
      go_simp
      refine hK.out _ _ ?_ (fun hHeld => ?_)
      · exact True.intro
      clear hK K
      (try simp only [Act.put, List.getElem_toArray, List.getElem_cons_succ, List.getElem_cons_zero]); (try simp only [List.setIfInBounds_toArray]); (try simp only [List.set_cons_succ]); (try simp only [List.set_cons_zero])
      refine wpAnyH_ready (rs := [7]) (by kernel_rfl) (by simp) ?_
      refine AllReadyH.cons rfl (fun K hK => ?_) (AllReadyH.nil)
      (refine step_append_row rfl _ _ 104 (by rfl) 0 103 i0 _ 11 32 Try.underlying104 hi hz0 hz1 hz2 (by exact itE_size _) (by decide) _ _ _ (by rfl) HS4.out.hp.row ⟨_, 0, none⟩ 1 1 (itE ⟨x.key, x.tick, x.num, came + 1⟩).toList (by rfl) (by rw [Array.length_toList, itE_size]) (cells_at HN4.out) (itE_ones _) (by unfold maxLen; omega) (by omega) (Nat.zero_le _) ?_)
      intro v5 w5 hr5 hg5 ho5
      have HA := hid (HS4.out.app hg5 hr5 ho5)
      have hb5 := (HS4.out.app0 hg5).trans HS4.out.hp.blk
      have hc5 : w5.cell? ⟨h, 1, none⟩ = some (.slice va l.length vc) := by rw [cell_of_row _ _ _ _ _ _ hb5]; rfl
      have hf5 : w5.frozen? ⟨h, 1, none⟩ = false := free_row hb5 1
      obtain ⟨a5, c5, rfl⟩ := hr5.shape
      clear hr5 hg5 ho5 hb5
      refine hK.out _ _ ?_ (fun hHeld => ?_)
      · exact True.intro
      clear hK K
      (try simp only [Act.put, List.getElem_toArray, List.getElem_cons_succ, List.getElem_cons_zero]); (try simp only [List.setIfInBounds_toArray]); (try simp only [List.set_cons_succ]); (try simp only [List.set_cons_zero])
      refine wpAnyH_take (i := 8) (oi := _) (v := ?_) rfl (by kernel_rfl) (by kernel_rfl) (by kernel_rfl) (fun _ _ _ h => h) (Or.inl ⟨by rfl, ?_⟩) (by assumption) ?_
      rotate_left
      · intro w hSw
        try dsimp only at hSw
        first | (go_simp; done) | (go_simp; with_reducible rfl)
      (try simp only [Act.put, List.getElem_toArray, List.getElem_cons_succ, List.getElem_cons_zero]); (try simp only [List.setIfInBounds_toArray]); (try simp only [List.set_cons_succ]); (try simp only [List.set_cons_zero])
      refine wpAnyH_take (i := 9) (oi := _) (v := ?_) rfl (by kernel_rfl) (by kernel_rfl) (by kernel_rfl) (fun _ _ _ h => h) (Or.inl ⟨by rfl, ?_⟩) (by assumption) ?_
      rotate_left
      · intro w hSw
        try dsimp only at hSw
        first | (go_simp; done) | (go_simp; with_reducible rfl)
      (try simp only [Act.put, List.getElem_toArray, List.getElem_cons_succ, List.getElem_cons_zero]); (try simp only [List.setIfInBounds_toArray]); (try simp only [List.set_cons_succ]); (try simp only [List.set_cons_zero])
      refine wpAnyH_ready (rs := [10]) (by kernel_rfl) (by simp) ?_
      refine AllReadyH.cons rfl (fun K hK => ?_) (AllReadyH.nil)
      go_simp
      refine hK.out _ _ ?_ (fun hHeld => ?_)
      · exact True.intro
      clear hK K
      (try simp only [Act.put, List.getElem_toArray, List.getElem_cons_succ, List.getElem_cons_zero]); (try simp only [List.setIfInBounds_toArray]); (try simp only [List.set_cons_succ]); (try simp only [List.set_cons_zero])
      clear hHeld
      refine wpAnyH_done (by kernel_rfl) ?_ _
      clear hc5 hf5 hcA hcB
      go_wp2_with fail
      obtain ⟨W6, hW6⟩ : ∃ W6, W6 = w5.setCell ⟨h, 1, none⟩ (.slice a5 (l.length + 1 : Nat) c5) := ⟨_, rfl⟩
      have HA2 := hid (show ApS w W6 _ _ _ _ _ _ _ _ by rw [hW6]; exact HA.out)
      obtain ⟨w6, hrun, hH6, hK6⟩ := HA2.out.drew.fin HOK.out hx rfl (.inr (.inl rfl)) HNE.out
      have HH6 := hid hH6
      have HK6 := hid hK6
      clear hH6 hK6 HA
      have hc2 : W6.drew.cell? ⟨h, 2, none⟩ = some (.map (some b)) := by rw [cell_of_row _ _ _ _ _ _ HA2.out.drew.blk]; rfl
      rw [← hW6]
      clear hW6
      refine wp_region_tail 6 (by kernel_rfl) (by kernel_rfl) W6.drew rfl ?_
      simp only [List.take_succ_cons, List.take_zero, List.drop_succ_cons, List.drop_zero]
      iterate 4 still_step
      refine still_load_row rfl 31 _ rfl _ rfl _ _ _ _ HA2.out.drew.k1 Try.underlying31 rfl HKI.out ?_
      simp only [Act.put, List.setIfInBounds_toArray, List.set_cons_zero, List.set_cons_succ]
      still_step
      refine wpStill_nil ?_
      have HOW := hid HA2.out.own
      clear hc2
      have HUP := hid (up_any HH6.out (i := l.length) (by simp) (hole_app hp _) (by simp; omega))
      go_wp2_with (first | (go_at_call 53; (with_reducible refine HUP.out.mono ?_); rintro e w7 ⟨l', j, rfl, h7, hj, hh, hok⟩; have H7 := hid h7; have HDN := hid (down_any (l0 := l') (i := j) ⟨h7.ex, List.Perm.refl _, Kp.refl _ _⟩ hj hh hok (by rw [h7.perm.length_eq]; simp; omega)); clear h7 hh hok)
                          | (go_at_call 52; (with_reducible refine HDN.out.mono ?_); rintro e w8 ⟨l2, rfl, h8, hp2⟩; have H8 := hid h8; have HP2 := hid hp2; clear h8 hp2))
      go_ret
      exact ⟨rfl, putAns_up HK6.out HOW.out H7.out _ _ H8.out HP2.out⟩
end Go.Proofs.Ytkaalppmheikgaa
