/- Riders in memory. -/
import Derived.Test.YtkaalppmheikgaaRdPl
import Derived.Test.YtkaalppmheikgaaHpPu
import Derived.Test.YtkaalppmheikgaaMapD
import Derived.Test.YtkaalppmheikgaaSetS
namespace Go.Proofs.Ytkaalppmheikgaa
open Go.RowKit

def rqE (x : Rq) : Array Value := bys x.id.1 ++ #[.int .i16 x.fx, .int .i16 x.fy, .int .i16 x.tx, .int .i16 x.ty, .int .u8 x.seats, .int .u8 x.cls, .int .i64 x.base, .int .i64 x.ttl]
def wtE (x : Wt) : Array Value := rqE x.rq ++ #[.int .i64 x.since, .int .i64 x.num]
def wtV (x : Wt) : Value := .agg (wtE x)
theorem rqE_size (x : Rq) : (rqE x).size = 16 := by unfold rqE; rw [Array.size_append, bys_size, x.id.2.1]; rfl
theorem wtE_size (x : Wt) : (wtE x).size = 18 := by unfold wtE; rw [Array.size_append, rqE_size]; rfl
theorem rqE_ones (x : Rq) : ∀ v ∈ (rqE x).toList, v.oneCell' = true := by
  intro v hv
  unfold rqE at hv
  rw [Array.toList_append, List.mem_append] at hv
  rcases hv with hv | hv
  · exact bys_one _ v hv
  · simp at hv; rcases hv with rfl | rfl | rfl | rfl | rfl | rfl | rfl | rfl <;> rfl
theorem wtE_ones (x : Wt) : ∀ v ∈ (wtE x).toList, v.oneCell' = true := by
  intro v hv
  unfold wtE at hv
  rw [Array.toList_append, List.mem_append] at hv
  rcases hv with hv | hv
  · exact rqE_ones _ v hv
  · simp at hv; rcases hv with rfl | rfl <;> rfl
theorem rqE_info (x : Rq) : (Try.prog.info? 37).map (·.size) = some (rqE x).size := by rw [rqE_size]; kernel_rfl
theorem wtE_info (x : Wt) : (Try.prog.info? 48).map (·.size) = some (wtE x).size := by rw [wtE_size]; kernel_rfl
theorem rqE_get (x : Rq) : (∀ (j : Nat) v, (bys x.id.1)[j]? = some v → (rqE x)[j]? = some v) ∧ (rqE x)[12]? = some (.int .u8 x.seats) ∧ (rqE x)[13]? = some (.int .u8 x.cls) ∧ (rqE x)[14]? = some (.int .i64 x.base) ∧ (rqE x)[15]? = some (.int .i64 x.ttl) := by
  have hs : (bys x.id.1).size = 8 := by rw [bys_size, x.id.2.1]
  refine ⟨fun j v hj => ?_, ?_, ?_, ?_, ?_⟩
  · unfold rqE; rw [Array.getElem?_append_left (Array.getElem?_eq_some_iff.1 hj).1]; exact hj
  all_goals (unfold rqE; rw [Array.getElem?_append_right (by omega), hs]; rfl)
theorem wtE_get (x : Wt) : (∀ (j : Nat) v, (rqE x.rq)[j]? = some v → (wtE x)[j]? = some v) ∧ (wtE x)[16]? = some (.int .i64 x.since) ∧ (wtE x)[17]? = some (.int .i64 x.num) := by
  have hs := rqE_size x.rq
  refine ⟨fun j v hj => ?_, ?_, ?_⟩
  · unfold wtE; rw [Array.getElem?_append_left (Array.getElem?_eq_some_iff.1 hj).1]; exact hj
  all_goals (unfold wtE; rw [Array.getElem?_append_right (by omega), hs]; rfl)
section
variable {w : World} {g o : Nat}
theorem rq_id {x : Rq} (h : CellsAt w g o (rqE x)) : CellsAt w g o (bys x.id.1) := fun j v hj => h j v ((rqE_get x).1 j v hj)
theorem rq_seats {x : Rq} (h : CellsAt w g o (rqE x)) : w.cell? ⟨g, o + 12, none⟩ = some (.int .u8 x.seats) := h 12 _ (rqE_get x).2.1
theorem rq_cls {x : Rq} (h : CellsAt w g o (rqE x)) : w.cell? ⟨g, o + 13, none⟩ = some (.int .u8 x.cls) := h 13 _ (rqE_get x).2.2.1
theorem rq_base {x : Rq} (h : CellsAt w g o (rqE x)) : w.cell? ⟨g, o + 14, none⟩ = some (.int .i64 x.base) := h 14 _ (rqE_get x).2.2.2.1
theorem rq_ttl {x : Rq} (h : CellsAt w g o (rqE x)) : w.cell? ⟨g, o + 15, none⟩ = some (.int .i64 x.ttl) := h 15 _ (rqE_get x).2.2.2.2
theorem wt_rq {x : Wt} (h : CellsAt w g o (wtE x)) : CellsAt w g o (rqE x.rq) := fun j v hj => h j v ((wtE_get x).1 j v hj)
theorem wt_since {x : Wt} (h : CellsAt w g o (wtE x)) : w.cell? ⟨g, o + 16, none⟩ = some (.int .i64 x.since) := h 16 _ (wtE_get x).2.1
theorem wt_num {x : Wt} (h : CellsAt w g o (wtE x)) : w.cell? ⟨g, o + 17, none⟩ = some (.int .i64 x.num) := h 17 _ (wtE_get x).2.2
end
def cfE (c : Cf) : Array Value := #[.int .i64 c.q, .int .i64 c.d, .int .i64 c.w, .int .i64 c.ttl, .int .i64 c.b]
/-- The riders' blocks: the map of those that wait; the set, its map; the heap, its map, its row. -/
structure RB where
  b : Nat
  s : Nat
  sb : Nat
  h : Nat
  hb : Nat
  hv : Value
def ROwn (p : Nat) (B : RB) (k : Nat) : Prop := k = p ∨ k = B.b ∨ k = B.s ∨ k = B.sb ∨ HOwn B.h B.hb B.hv k
def vals8 (S : List Id8) : List (List Int) := S.map Subtype.val
abbrev rdE (B : RB) (R : RS) : Array Value := cfE R.cf ++ #[.int .i64 R.now, .int .i64 R.next, .pointer (some ⟨B.s, 0, none⟩), .map (some B.b), .pointer (some ⟨B.h, 0, none⟩)]
/-- Riders at p, as they lie. -/
structure RdM (w : World) (p : Nat) (B : RB) (R : RS) (H : List (Id8 × Int)) (l : List It) (came : Int) : Prop where
  blk : w.heap[p]? = some (.cells (rdE B R) 69 (0, 0))
  set : SetIs w B.s B.sb (vals8 R.S)
  wm : MapIs wtV w B.b R.T
  hp : HpAt w B.h B.hb H B.hv l came
  ne1 : B.b ≠ B.sb
  ne2 : B.b ≠ B.hb
  ne3 : B.sb ≠ B.hb
/-- Riders at p. -/
structure RdAt (w : World) (p : Nat) (B : RB) (R : RS) (H : List (Id8 × Int)) (l : List It) (came : Int) : Prop extends RdM w p B R H l came where
  hok : HeapOk l
  rel : HRel R.T l
  cnt : 0 ≤ came ∧ came ≤ R.S.length
section
variable {w w' : World} {p : Nat} {B : RB} {R : RS} {H : List (Id8 × Int)} {l : List It} {came : Int}
theorem SetIs.blocks {p b : Nat} {S : List (List Int)} (h : SetIs w p b S) : (∃ cs fr, w.heap[p]? = some (.cells cs 95 fr)) ∧ ∃ o, w.heap[b]? = some o ∧ o.isCells = false := by
  obtain ⟨m, clk, h1, h2, _⟩ := h
  exact ⟨⟨_, _, h1⟩, _, h2, rfl⟩
theorem SetIs.same {p b : Nat} {S : List (List Int)} (h : SetIs w p b S) (hp : w'.heap[p]? = w.heap[p]?) (hb : w'.heap[b]? = w.heap[b]?) : SetIs w' p b S := by
  obtain ⟨m, clk, h1, h2, r⟩ := h
  exact ⟨m, clk, hp.trans h1, hb.trans h2, r⟩
theorem RdM.lt (h : RdM w p B R H l came) {k : Nat} (hk : ROwn p B k) : k < w.heap.size := by
  rcases hk with rfl | rfl | rfl | rfl | hk
  · exact heap_lt h.blk
  · exact h.wm.lt
  · obtain ⟨⟨_, _, h1⟩, _⟩ := h.set.blocks; exact heap_lt h1
  · obtain ⟨_, _, h1, _⟩ := h.set.blocks; exact heap_lt h1
  · exact h.hp.lt hk
theorem RdM.same (h : RdM w p B R H l came) (hs : ∀ k, ROwn p B k → w'.heap[k]? = w.heap[k]?) : RdM w' p B R H l came :=
  ⟨(hs p (.inl rfl)).trans h.blk, h.set.same (hs _ (.inr (.inr (.inl rfl)))) (hs _ (.inr (.inr (.inr (.inl rfl))))), h.wm.same (hs _ (.inr (.inl rfl))), h.hp.same fun k hk => hs k (.inr (.inr (.inr (.inr hk)))), h.ne1, h.ne2, h.ne3⟩
theorem RdM.kept (h : RdM w p B R H l came) (hb : Below w.heap.size w w') : RdM w' p B R H l came := h.same fun k hk => hb.block k (h.lt hk)
theorem RdAt.lt (h : RdAt w p B R H l came) {k : Nat} (hk : ROwn p B k) : k < w.heap.size := h.toRdM.lt hk
theorem RdAt.same (h : RdAt w p B R H l came) (hs : ∀ k, ROwn p B k → w'.heap[k]? = w.heap[k]?) : RdAt w' p B R H l came := ⟨h.toRdM.same hs, h.hok, h.rel, h.cnt⟩
theorem RdAt.kept (h : RdAt w p B R H l came) (hb : Below w.heap.size w w') : RdAt w' p B R H l came := ⟨h.toRdM.kept hb, h.hok, h.rel, h.cnt⟩
/-- No two of its blocks are one. -/
theorem RdM.apart (h : RdM w p B R H l came) : (p ≠ B.b ∧ p ≠ B.s ∧ p ≠ B.sb ∧ ∀ k, HOwn B.h B.hb B.hv k → p ≠ k) ∧ (B.b ≠ B.s ∧ ∀ k, HOwn B.h B.hb B.hv k → B.b ≠ k) ∧ ∀ k, HOwn B.h B.hb B.hv k → B.s ≠ k ∧ B.sb ≠ k := by
  have h1 := h.blk
  obtain ⟨⟨_, _, h2⟩, o3, h3, c3⟩ := h.set.blocks
  obtain ⟨o4, h4, c4⟩ := h.wm.obj
  have h5 := h.hp.blk
  obtain ⟨o6, h6, c6⟩ := h.hp.at'.obj
  have h7 : ∀ g, B.hv.ownBlock = some g → ∃ cur, w.heap[g]? = some (.cells cur 103 (0, 0)) := fun g hg => h.hp.row.type hg
  refine ⟨⟨fun e => ?_, fun e => ?_, fun e => ?_, fun k hk e => ?_⟩, ⟨fun e => ?_, fun k hk e => ?_⟩, fun k hk => ⟨fun e => ?_, fun e => ?_⟩⟩
  · rw [← e, h1] at h4; cases h4; cases c4
  · rw [← e, h1] at h2; cases h2
  · rw [← e, h1] at h3; cases h3; cases c3
  · subst e
    rcases hk with e | e | e
    · rw [← e, h1] at h5; cases h5
    · rw [← e, h1] at h6; cases h6; cases c6
    · obtain ⟨_, h8⟩ := h7 _ e; rw [h1] at h8; cases h8
  · rw [e, h2] at h4; cases h4; cases c4
  · subst e
    rcases hk with e | e | e
    · rw [e, h5] at h4; cases h4; cases c4
    · exact h.ne2 e
    · obtain ⟨_, h8⟩ := h7 _ e; rw [h4] at h8; cases h8; cases c4
  · subst e
    rcases hk with e | e | e
    · rw [e, h5] at h2; cases h2
    · rw [e, h6] at h2; cases h2; cases c6
    · obtain ⟨_, h8⟩ := h7 _ e; rw [h2] at h8; cases h8
  · subst e
    rcases hk with e | e | e
    · rw [e, h5] at h3; cases h3; cases c3
    · exact h.ne3 e
    · obtain ⟨_, h8⟩ := h7 _ e; rw [h3] at h8; cases h8; cases c3
theorem RdM.cell (h : RdM w p B R H l came) (j : Nat) (v : Value) (hj : (rdE B R)[j]? = some v) : w.cell? ⟨p, j, none⟩ = some v := row_cell h.blk j v hj
theorem RdM.c0 (h : RdM w p B R H l came) : w.cell? ⟨p, 0, none⟩ = some (.int .i64 R.cf.q) := h.cell 0 _ rfl
theorem RdM.c5 (h : RdM w p B R H l came) : w.cell? ⟨p, 5, none⟩ = some (.int .i64 R.now) := h.cell 5 _ rfl
theorem RdM.c6 (h : RdM w p B R H l came) : w.cell? ⟨p, 6, none⟩ = some (.int .i64 R.next) := h.cell 6 _ rfl
theorem RdM.c7 (h : RdM w p B R H l came) : w.cell? ⟨p, 7, none⟩ = some (.pointer (some ⟨B.s, 0, none⟩)) := h.cell 7 _ rfl
theorem RdM.c8 (h : RdM w p B R H l came) : w.cell? ⟨p, 8, none⟩ = some (.map (some B.b)) := h.cell 8 _ rfl
theorem RdM.c9 (h : RdM w p B R H l came) : w.cell? ⟨p, 9, none⟩ = some (.pointer (some ⟨B.h, 0, none⟩)) := h.cell 9 _ rfl
theorem RdM.cfg (h : RdM w p B R H l came) : CellsAt w p 0 (cfE R.cf) := fun j v hj => by
  rw [Nat.zero_add]
  refine h.cell j v ?_
  unfold rdE
  rw [Array.getElem?_append_left (Array.getElem?_eq_some_iff.1 hj).1]; exact hj
/-- Behind the turn of the map of those that wait. -/
theorem RdM.turnW (h : RdM w p B R H l came) {T2 : List (Id8 × Wt)} (hm : MapIs wtV w' B.b T2) (hg : w.grownBy w' (some B.b)) : RdM w' p B { R with T := T2 } H l came ∧ Kp (ROwn p B) w w' := by
  obtain ⟨⟨a1, a2, a3, a4⟩, ⟨a5, a6⟩, a7⟩ := h.apart
  have hs : ∀ k, k < w.heap.size → k ≠ B.b → w'.heap[k]? = w.heap[k]? := fun k hk hne => hg.block k hk fun e => hne (by cases e; rfl)
  refine ⟨⟨(hs p (heap_lt h.blk) a1).trans h.blk, h.set.same (hs _ (h.lt (.inr (.inr (.inl rfl)))) (fun e => a5 e.symm)) (hs _ (h.lt (.inr (.inr (.inr (.inl rfl))))) (fun e => h.ne1 e.symm)), hm, h.hp.same fun k hk => hs k (h.hp.lt hk) (fun e => a6 k hk e.symm), h.ne1, h.ne2, h.ne3⟩, (Kp.refl _ _).grown hg fun k e => by cases e; exact .inl (.inr (.inl rfl))⟩
/-- Behind a call of the heap's. -/
theorem RdM.turnH (h : RdM w p B R H l came) {H2 : List (Id8 × Int)} {v2 : Value} {l2 : List It} {came2 : Int} (hh : HpAt w' B.h B.hb H2 v2 l2 came2) (hk : Kp (HOwn B.h B.hb B.hv) w w') : RdM w' p { B with hv := v2 } R H2 l2 came2 ∧ Kp (ROwn p B) w w' := by
  obtain ⟨⟨a1, a2, a3, a4⟩, ⟨a5, a6⟩, a7⟩ := h.apart
  refine ⟨⟨(hk.block p (heap_lt h.blk) fun q => a4 p q rfl).trans h.blk, h.set.same (hk.block _ (h.lt (.inr (.inr (.inl rfl)))) fun q => (a7 _ q).1 rfl) (hk.block _ (h.lt (.inr (.inr (.inr (.inl rfl))))) fun q => (a7 _ q).2 rfl), h.wm.same (hk.block _ (h.lt (.inr (.inl rfl))) fun q => a6 _ q rfl), hh, h.ne1, h.ne2, h.ne3⟩, hk.mono fun k _ q => .inr (.inr (.inr (.inr q)))⟩
/-- Behind a call of the set's. -/
theorem RdM.turnS (h : RdM w p B R H l came) {S2 : List Id8} (hs : SetIs w' B.s B.sb (vals8 S2)) (hk : Kp (fun k => k = B.sb) w w') : RdM w' p B { R with S := S2 } H l came ∧ Kp (ROwn p B) w w' := by
  obtain ⟨⟨a1, a2, a3, a4⟩, ⟨a5, a6⟩, a7⟩ := h.apart
  exact ⟨⟨(hk.block p (heap_lt h.blk) a3).trans h.blk, hs, h.wm.same (hk.block _ (h.lt (.inr (.inl rfl))) h.ne1), h.hp.same fun k q => hk.block k (h.hp.lt q) fun e => (a7 k q).2 e.symm, h.ne1, h.ne2, h.ne3⟩, hk.mono fun k _ q => .inr (.inr (.inr (.inl q)))⟩
/-- A number of theirs set. -/
theorem RdM.setP (h : RdM w p B R H l came) (j : Nat) (v : Value) {R2 : RS} (hr : (rdE B R).setIfInBounds j v = rdE B R2) (hS : R2.S = R.S) (hT : R2.T = R.T) : RdM (w.setCell ⟨p, j, none⟩ v) p B R2 H l came ∧ Kp (ROwn p B) w (w.setCell ⟨p, j, none⟩ v) := by
  obtain ⟨⟨a1, a2, a3, a4⟩, ⟨a5, a6⟩, a7⟩ := h.apart
  refine ⟨⟨by rw [row_setCell h.blk, hr], ?_, ?_, h.hp.same fun k q => heap_setCell_ne fun e => a4 k q e.symm, h.ne1, h.ne2, h.ne3⟩, (Kp.refl _ _).setCell (.inl (.inl rfl)) _ _⟩
  · rw [hS]; exact h.set.same (heap_setCell_ne fun e => a2 e.symm) (heap_setCell_ne fun e => a3 e.symm)
  · rw [hT]; exact h.wm.same (heap_setCell_ne fun e => a1 e.symm)
end
end Go.Proofs.Ytkaalppmheikgaa
