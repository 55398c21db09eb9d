/- The state of the chapter's laws: the graph's block, the certificate's block, lists that are filled. -/
import Derived.Test.YtmddhjoomlhbcaaAsBb
import Derived.Test.YtmddhjoomlhbcaaAsSp
import Derived.Test.YtmddhjoomlhbcaaAsLv
import Derived.Test.YtmddhjoomlhbcaaAsPo
import Derived.Test.YtmddhjoomlhbcaaAsLq
namespace Go.Proofs.Ytmddhjoomlhbcaa
open Go.RowKit

structure GBx (w0 w : World) (g : Gr) (a : Option Addr) (cap gb : Nat) : Prop where
  blk : w.heap[gb]? = some (.cells #[.int .i64 g.rows, .int .i64 g.cols, .slice a g.es.length cap] 24 (0, 0))
  es : RowsAt 3 edV w a g.es
  below : Below w0.heap.size w0 w
theorem GBx.kept {w0 w w' : World} {g : Gr} {a : Option Addr} {cap gb : Nat} (h : GBx w0 w g a cap gb) (hb : Below w.heap.size w w') : GBx w0 w' g a cap gb :=
  ⟨below_keep hb h.blk, h.es.kept hb, h.below.trans (hb.mono h.below.size)⟩
theorem GBx.start {w : World} {g : Gr} {a : Option Addr} {cap : Nat} (hr : RowsAt 3 edV w a g.es) : GBx w (w.alloc (.cells #[.int .i64 g.rows, .int .i64 g.cols, .slice a g.es.length cap] 24)) g a cap w.heap.size :=
  ⟨heap_alloc_new _ _, hr.alloc _, (Below.refl _ _).alloc (Nat.le_refl _) _⟩
theorem GBx.rows {w0 w : World} {g : Gr} {a : Option Addr} {cap gb R : Nat} (h : GBx w0 w g a cap gb) (hR : g.rows = R) : w.cell? ⟨gb, 0, none⟩ = some (.int .i64 R) := row_cell h.blk 0 _ (by rw [hR]; rfl)
theorem GBx.cols {w0 w : World} {g : Gr} {a : Option Addr} {cap gb C : Nat} (h : GBx w0 w g a cap gb) (hC : g.cols = C) : w.cell? ⟨gb, 1, none⟩ = some (.int .i64 C) := row_cell h.blk 1 _ (by rw [hC]; rfl)
theorem GBx.list {w0 w : World} {g : Gr} {a : Option Addr} {cap gb : Nat} (h : GBx w0 w g a cap gb) : w.cell? ⟨gb, 2, none⟩ = some (.slice a g.es.length cap) := row_cell h.blk 2 _ rfl
/-- The certificate's block. -/
structure CBx (w : World) (cb : Nat) (Ap : Option Addr) (cp : Nat) (Ay : Option Addr) (cy : Nat) (Az : Option Addr) (cz : Nat) (ps : List (Int × Int)) (ys zs : List Int) : Prop where
  blk : w.heap[cb]? = some (.cells #[.slice Ap ps.length cp, .slice Ay ys.length cy, .slice Az zs.length cz] 39 (0, 0))
  p : RowsAt 2 prV w Ap ps
  y : RowsAt 1 numV w Ay ys
  z : RowsAt 1 numV w Az zs
theorem CBx.kept {w w' : World} {cb : Nat} {Ap : Option Addr} {cp : Nat} {Ay : Option Addr} {cy : Nat} {Az : Option Addr} {cz : Nat} {ps : List (Int × Int)} {ys zs : List Int} (h : CBx w cb Ap cp Ay cy Az cz ps ys zs) (hb : Below w.heap.size w w') : CBx w' cb Ap cp Ay cy Az cz ps ys zs :=
  ⟨below_keep hb h.blk, h.p.kept hb, h.y.kept hb, h.z.kept hb⟩
theorem below_new (w : World) (o : Obj) : Below w.heap.size w (w.alloc o) := (Below.refl _ _).alloc (Nat.le_refl _) _
theorem CBx.start {w : World} {Ap : Option Addr} {cp : Nat} {Ay : Option Addr} {cy : Nat} {Az : Option Addr} {cz : Nat} {ps : List (Int × Int)} {ys zs : List Int} (h1 : RowsAt 2 prV w Ap ps) (h2 : RowsAt 1 numV w Ay ys) (h3 : RowsAt 1 numV w Az zs) :
    CBx (w.alloc (.cells #[.slice Ap ps.length cp, .slice Ay ys.length cy, .slice Az zs.length cz] 39)) w.heap.size Ap cp Ay cy Az cz ps ys zs :=
  ⟨heap_alloc_new _ _, h1.alloc _, h2.alloc _, h3.alloc _⟩
theorem below_tr {w0 w1 w2 : World} (h : Below w0.heap.size w0 w1) (k : Below w1.heap.size w1 w2) : Below w0.heap.size w0 w2 := h.trans (k.mono h.size)

/-- A list of n that is filled up to k. -/
def fillK (R : Nat) (c : Int) (k : Nat) : List Int := List.replicate k c ++ List.replicate (R - k) 0
theorem fillK_zero (R : Nat) (c : Int) : fillK R c 0 = List.replicate R 0 := by simp [fillK]
theorem fillK_all (R : Nat) (c : Int) : fillK R c R = List.replicate R c := by simp [fillK]
theorem fillK_len {R k : Nat} (c : Int) (h : k ≤ R) : (fillK R c k).length = R := by simp [fillK]; omega
theorem fillK_set {R k : Nat} (c : Int) (h : k < R) : (fillK R c k).set k c = fillK R c (k + 1) := by
  unfold fillK
  rw [show R - k = (R - (k + 1)) + 1 by omega, List.replicate_succ, List.set_append_right _ _ (by simp)]
  simp only [List.length_replicate, Nat.sub_self, List.set_cons_zero]
  rw [List.replicate_succ' (n := k), List.append_assoc]; rfl
end Go.Proofs.Ytmddhjoomlhbcaa
