/- What 'least' holds in memory; the walks of its functions 'tight' and 'can'. -/
import Derived.Test.YtmddhjoomlhbcaaAsCw
import Derived.Laws.MakeOwn
namespace Go.Proofs.Ytmddhjoomlhbcaa
open Go.RowKit

/-- The tables of least, and what its functions share. -/
structure LsAt (w0 w : World) (tp pb yb zb rb kb db fb R C : Nat) (T y z tt : List Int) (taken : List Bool) (done : Nat) : Prop where
  tbl : TblAt w tp R C T
  pbox : w.heap[pb]? = some (.cells #[.pointer (some ⟨tp, 0, none⟩)] 61 (0, 0))
  y : TabAt w yb 64 y
  z : TabAt w zb 64 z
  res : TabAt w rb 64 tt
  taken : BlsAt w kb 63 taken
  done : w.heap[db]? = some (.cells #[.int .i64 done] 3 (0, 0))
  fbox : w.heap[fb]? = some (.cells #[.func (.func 46) #[] #[.pointer (some ⟨db, 0, none⟩), .pointer (some ⟨kb, 0, none⟩), .pointer (some ⟨pb, 0, none⟩), .pointer (some ⟨yb, 0, none⟩), .pointer (some ⟨zb, 0, none⟩)]] 79 (0, 0))
  below : Below w0.heap.size w0 w
  ord : tp < w0.heap.size ∧ w0.heap.size ≤ pb ∧ pb < yb ∧ yb < zb ∧ zb < rb ∧ rb < kb ∧ kb < db ∧ db < fb
section
variable {w0 w w' : World} {tp pb yb zb rb kb db fb R C : Nat} {T y z tt : List Int} {taken : List Bool} {done : Nat}
theorem LsAt.kept (h : LsAt w0 w tp pb yb zb rb kb db fb R C T y z tt taken done) (hb : Below w.heap.size w w') : LsAt w0 w' tp pb yb zb rb kb db fb R C T y z tt taken done :=
  ⟨h.tbl.kept hb, below_keep hb h.pbox, h.y.kept hb, h.z.kept hb, h.res.kept hb, h.taken.kept hb, below_keep hb h.done, below_keep hb h.fbox, h.below.trans (hb.mono h.below.size), h.ord⟩
theorem LsAt.drewN (h : LsAt w0 w tp pb yb zb rb kb db fb R C T y z tt taken done) (n : Nat) : LsAt w0 (w.drewN n) tp pb yb zb rb kb db fb R C T y z tt taken done := h.kept ⟨rfl, rfl, rfl, Nat.le_refl _, fun _ _ => rfl⟩
theorem LsAt.setDone (h : LsAt w0 w tp pb yb zb rb kb db fb R C T y z tt taken done) (n : Nat) : LsAt w0 (w.setCell ⟨db, 0, none⟩ (.int .i64 n)) tp pb yb zb rb kb db fb R C T y z tt taken n := by
  have := h.ord
  exact ⟨h.tbl.other (by omega) _ _, by rw [heap_setCell_ne (by omega)]; exact h.pbox, h.y.other (by omega) _ _, h.z.other (by omega) _ _, h.res.other (by omega) _ _, h.taken.other (by omega) _ _, by rw [row_setCell h.done]; rfl, by rw [heap_setCell_ne (by omega)]; exact h.fbox, h.below.setCell (by show w0.heap.size ≤ db; omega) _, h.ord⟩
theorem LsAt.setTaken (h : LsAt w0 w tp pb yb zb rb kb db fb R C T y z tt taken done) (c : Nat) (b : Bool) : LsAt w0 (w.setCell ⟨kb, c, none⟩ (.bool b)) tp pb yb zb rb kb db fb R C T y z tt (taken.set c b) done := by
  have := h.ord
  exact ⟨h.tbl.other (by omega) _ _, by rw [heap_setCell_ne (by omega)]; exact h.pbox, h.y.other (by omega) _ _, h.z.other (by omega) _ _, h.res.other (by omega) _ _, h.taken.set c b, by rw [heap_setCell_ne (by omega)]; exact h.done, by rw [heap_setCell_ne (by omega)]; exact h.fbox, h.below.setCell (by show w0.heap.size ≤ kb; omega) _, h.ord⟩
theorem LsAt.setRes (h : LsAt w0 w tp pb yb zb rb kb db fb R C T y z tt taken done) (r : Nat) (n : Int) : LsAt w0 (w.setCell ⟨rb, r, none⟩ (.int .i64 n)) tp pb yb zb rb kb db fb R C T y z (tt.set r n) taken done := by
  have := h.ord
  exact ⟨h.tbl.other (by omega) _ _, by rw [heap_setCell_ne (by omega)]; exact h.pbox, h.y.other (by omega) _ _, h.z.other (by omega) _ _, h.res.set r n, h.taken.other (by omega) _ _, by rw [heap_setCell_ne (by omega)]; exact h.done, by rw [heap_setCell_ne (by omega)]; exact h.fbox, h.below.setCell (by show w0.heap.size ≤ rb; omega) _, h.ord⟩
end
/-- All prices in bounds. -/
structure YzOk (y z : List Int) (taken : List Bool) : Prop where
  ly : y.length = 64
  lz : z.length = 64
  lt : taken.length = 64
  yb : ∀ r, r < 64 → 0 ≤ getI y r ∧ getI y r ≤ 1099513724929
  zb : ∀ c, c < 64 → 0 ≤ getI z c ∧ getI z c ≤ 150000000000000
theorem enters_of {f : FuncId} {fn : Func} {c : Code} (hf : Try.prog.funcs[f]? = some fn) (hname : (fn.name == "runtime.NumGoroutine") = false) (hb : fn.body = some c) : Enters f := fun args w => by
  have h1 : fn.name ≠ "runtime.NumGoroutine" := by simpa using hname
  simp [callFunc, hf, h1, hb]

set_option maxRecDepth 100000 in
set_option maxHeartbeats 4000000 in
theorem tight_any {w0 : World} {tp pb yb zb rb kb db fb R C : Nat} {T y z tt : List Int} {taken : List Bool} {done : Nat} (hW : WOk (wOf T)) (hy : YzOk y z taken) (w : World) (h : LsAt w0 w tp pb yb zb rb kb db fb R C T y z tt taken done) (r c : Nat) (hr : r < 64) (hc : c < 64) :
    Calls Try.prog 46 #[.int .i64 r, .int .i64 c, .pointer (some ⟨db, 0, none⟩), .pointer (some ⟨kb, 0, none⟩), .pointer (some ⟨pb, 0, none⟩), .pointer (some ⟨yb, 0, none⟩), .pointer (some ⟨zb, 0, none⟩)] w
      fun e w' => e = .returned (.bool (tg (wOf T) y z done taken r c)) ∧ ∃ m, w' = w.drewN m := by
  have hri : (r : Int) < 64 := by omega
  have hci : (c : Int) < 64 := by omega
  have c1 := row_cell h.done 0 _ rfl
  have c2 := h.taken.cell (k := c) (by rw [hy.lt]; exact hc)
  have c3 := row_cell h.pbox 0 _ rfl
  have c4 := h.tbl.at hr hc
  have c5 := h.y.cellI (k := r) (by rw [hy.ly]; exact hr)
  have c6 := h.z.cellI (k := c) (by rw [hy.lz]; exact hc)
  have b1 := hW.lo r c
  have b2 := hW.hi r c
  have b3 := hy.yb r hr
  have b4 := hy.zb c hc
  clear h hy hW
  go_enter Try.func46, Try.ntmps46
  go_wp2
  by_cases h1 : done ≤ r
  · have g1 : decide ((r : Int) ≥ (done : Int)) = true := decide_eq_true (by omega)
    have g1' : decide (done ≤ r) = true := decide_eq_true h1
    have HD := hid h1
    cases h2 : getB taken c with
    | true =>
      have HT : Hid (tg (wOf T) y z done taken r c = false) := hid (by unfold tg; rw [h2]; simp)
      rw [h2] at c2
      clear h2 h1
      go_quiet (fail)
      go_wp2
      go_ret
      exact ⟨by rw [HT.out]; rfl, nq, rfl⟩
    | false =>
      rw [h2] at c2
      by_cases h3 : 0 < wOf T r c
      · have g3 : decide (0 < wOf T r c) = true := decide_eq_true h3
        have HT3 := hid h3
        by_cases h4 : wOf T r c = getI y r + getI z c
        · have g4 : (wOf T r c == getI y r + getI z c) = true := by simp [h4]
          have HT : Hid (tg (wOf T) y z done taken r c = true) := hid (by unfold tg; rw [h2, decide_eq_true h1, decide_eq_true h3, decide_eq_true h4]; rfl)
          clear h2 h1 h4
          go_quiet (fail)
          go_wp2
          go_ret
          exact ⟨by rw [HT.out]; rfl, nq, rfl⟩
        · have g4 : (wOf T r c == getI y r + getI z c) = false := by simp [h4]
          have HT : Hid (tg (wOf T) y z done taken r c = false) := hid (by unfold tg; rw [decide_eq_false h4]; simp)
          clear h2 h1 h4
          go_quiet (fail)
          go_wp2
          go_ret
          exact ⟨by rw [HT.out]; rfl, nq, rfl⟩
      · have g3 : decide (0 < wOf T r c) = false := decide_eq_false h3
        have HT : Hid (tg (wOf T) y z done taken r c = false) := hid (by unfold tg; rw [decide_eq_false h3]; simp)
        clear h2 h1
        go_quiet (fail)
        go_wp2
        go_ret
        exact ⟨by rw [HT.out]; rfl, nq, rfl⟩
  · have g1 : decide ((r : Int) ≥ (done : Int)) = false := decide_eq_false (by omega)
    have g1' : decide (done ≤ r) = false := decide_eq_false h1
    have HT : Hid (tg (wOf T) y z done taken r c = false) := hid (by unfold tg; rw [decide_eq_false h1]; simp)
    clear h1
    go_quiet (fail)
    go_wp2
    go_ret
    exact ⟨by rw [HT.out]; rfl, nq, rfl⟩
end Go.Proofs.Ytmddhjoomlhbcaa
