/- An entry built; append of one element to a row, as a step. -/
import Derived.Test.YtnapfjgokeloeaaLedB
import Derived.Test.YtnapfjgokeloeaaNum
namespace Go.Proofs.Ytnapfjgokeloeaa
open Go.RowKit

theorem id8_list (x : Id8) : ∃ a b c d e f g h, x.1 = [a, b, c, d, e, f, g, h] := by
  obtain ⟨l, hl, _⟩ := x
  match l, hl with
  | [a, b, c, d, e, f, g, h], _ => exact ⟨a, b, c, d, e, f, g, h, rfl⟩
set_option maxRecDepth 100000 in
theorem build_entry (x y : Id8) (n : Int) (w : World) : (Instr.build 35 #[(0, .agg (bys x.1)), (1, .agg (bys y.1)), (2, .int .i64 n)]).run Try.prog w = .ok (.agg (enE ⟨x, y, n⟩)) w := by
  obtain ⟨a, b, c, d, e, f, g, h, hx⟩ := id8_list x
  obtain ⟨a', b', c', d', e', f', g', h', hy⟩ := id8_list y
  unfold enE
  simp only [hx, hy]
  kernel_rfl
section
variable {P : Program}
theorem step_append_row {w : World} {ops : Array Oper} {o : Oper} {a : Act} {K : Act → World → Prop} {Q : Exit → Act → World → Prop} {EE : Prop} (hgd : o.guard = none) (s x : Operand) (t : TypeId)
    (ho : o.op = .call { callee := .builtin .append, args := #[s, x], argTypes := #[t, t] })
    (base : Nat) (e : TypeId) (i : TypeInfo) (z : Value) (size bytes : Nat) (ht : P.underlying t = some (.slice e)) (hi : P.info? e = some i) (hz : i.zero = some z)
    (hsize : i.size = size) (hby : i.bytes = bytes) (hzs : z.cells.size = size) (hsz : 0 < size)
    (v : Value) (n : Nat) (xs : List Value) (hs : a.eval s = v) (hown : Row w base e size v n xs)
    (ad : Addr) (m c : Nat) (news : List Value) (hx : a.eval x = .slice (some ad) m c) (hl : news.length = m * size) (hnews : ∀ j u, news[j]? = some u → w.cell? (ad.add j) = some u) (h1 : ∀ u ∈ news, u.oneCell' = true)
    (h63 : n + m ≤ maxLen) (hbytes : (n + m) * bytes ≤ 140737488355328) (hbase : base ≤ w.heap.size)
    (h : ∀ v' w', Row w' base e size v' (n + m) (xs ++ news) → w.grownBy w' v.ownBlock → (v'.ownBlock = v.ownBlock ∨ ∀ g, v'.ownBlock = some g → w.heap.size ≤ g) → K (a.put o.dst v') w') :
    if Region.wanted o (yielded ops a.tmps) = true then Oper.wp P o a w K Q else EE := by
  have hw : Region.wanted o (yielded ops a.tmps) = true := by simp [Region.wanted, hgd]
  rw [if_pos hw]
  obtain ⟨v', w', hrun, r1, r2, r3⟩ := run_append_row (P := P) t o.type i z bytes ht hi hz hsize hby hzs hsz hown hbase ad m c news hl hnews h1 h63 hbytes
  unfold Oper.wp execOp
  simp only [ho, resolve, invoke, builtin, Sem.run_bind, Sem.run_pure, Result.andThen_ok, List.map_toArray, List.map_cons, List.map_nil, hs, hx, hrun]
  exact h v' w' r1 r2 r3
theorem step_build1 {w : World} {ops : Array Oper} {o : Oper} {a : Act} {K : Act → World → Prop} {Q : Exit → Act → World → Prop} {EE : Prop} (hgd : o.guard = none) (t e : TypeId) (x : Operand) (ho : o.op = .buildSlice t 1 #[(0, x)]) (cs : Array Value) (hx : a.eval x = .agg cs) (ie : TypeInfo) (z : Value)
    (hu : P.underlying t = some (.slice e)) (hie : P.info? e = some ie) (hz : ie.zero = some z) (hsz : ie.size = cs.size) (hpos : 0 < cs.size) (hsmall : cs.size ≤ 2 ^ 24)
    (h : K (a.put o.dst (.slice (some ⟨w.heap.size, 0, none⟩) 1 1)) (w.alloc (.cells cs e))) : if Region.wanted o (yielded ops a.tmps) = true then Oper.wp P o a w K Q else EE := by
  have hw : Region.wanted o (yielded ops a.tmps) = true := by simp [Region.wanted, hgd]
  rw [if_pos hw]
  have hrun := run_build1 (P := P) t e cs ie z hu hie hz hsz hpos hsmall w
  unfold Oper.wp
  simp [execOp, ho, hx, hrun, Result.andThen]
  exact h
theorem exec_build {ρ : Operand → Value} {o : Oper} {w : World} {v : Value} (t : TypeId) (parts : Array (Nat × Operand)) (ho : o.op = .build t parts) (hr : (Instr.build t (parts.map fun p => (p.1, ρ p.2))).run P w = .ok v w) : (execOp ρ o).run P w = .ok (.value v) w := by
  unfold execOp
  simp only [ho, Sem.run_bind, Sem.run_pure, Result.andThen_ok, hr]
end
theorem enE_table : (Try.prog.info? 35).map (fun i => (i.zero, i.size, i.bytes)) = some (some (.agg (enE ⟨⟨zs 8, zs_B8⟩, ⟨zs 8, zs_B8⟩, 0⟩)), 17, 24) := by kernel_rfl
end Go.Proofs.Ytnapfjgokeloeaa
