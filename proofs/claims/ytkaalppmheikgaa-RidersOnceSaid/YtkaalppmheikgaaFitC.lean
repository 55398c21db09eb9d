/- The settings, judged. -/
import Derived.Test.YtkaalppmheikgaaFit
import Derived.Test.YtkaalppmheikgaaRdPl
namespace Go.Proofs.Ytkaalppmheikgaa
open Go.RowKit

theorem among_is {a n : Int} {t : Bool} (h : amg a n = t) (w : World) : Calls Try.prog 47 #[.int .i64 a, .int .i64 n] w fun e w' => e = .returned (.bool t) ∧ Below w.heap.size w w' :=
  (among_any a n w).mono fun e w' ⟨h1, h2⟩ => ⟨by rw [h1, ← h]; rfl, h2⟩
/-- The world behind the box, and behind the calls. -/
structure CfS (w u : World) (cs : Array Value) : Prop where
  box : u.heap[w.heap.size]? = some (.cells cs 23 (0, 0))
  below : Below w.heap.size w u
theorem CfS.start (w : World) (cs : Array Value) : CfS w (w.alloc (.cells cs 23)) cs := ⟨heap_alloc_new _ _, (Below.refl _ w).alloc (Nat.le_refl _) _⟩
theorem CfS.call {w u u' : World} {cs : Array Value} (h : CfS w u cs) (hb : Below u.heap.size u u') : CfS w u' cs :=
  ⟨(hb.block _ (heap_lt h.box)).trans h.box, h.below.trans (hb.mono h.below.size)⟩
theorem CfS.cell {w u : World} {cs : Array Value} (h : CfS w u cs) (j : Nat) (v : Value) (hj : cs[j]? = some v) : u.cell? ⟨w.heap.size, j, none⟩ = some v := row_cell h.box j v hj
set_option maxRecDepth 100000 in
theorem config_any (a b c d e : Int) (w : World) : Calls Try.prog 35 #[.agg #[.int .i64 a, .int .i64 b, .int .i64 c, .int .i64 d, .int .i64 e]] w fun r w' => r = .returned (.int .i64 (if amg a 64 && amg b 64 && amg c 1048576 && amg d 1048576 && amg e 1048576 then 0 else 160)) ∧ Below w.heap.size w w' := by
  have HC := hid (fun u (H : CfS w u #[.int .i64 a, .int .i64 b, .int .i64 c, .int .i64 d, .int .i64 e]) => And.intro (H.cell 1 _ rfl) (And.intro (H.cell 2 _ rfl) (And.intro (H.cell 3 _ rfl) (H.cell 4 _ rfl))))
  cases ha : amg a 64 <;> cases hb : amg b 64 <;> cases hc : amg c 1048576 <;> cases hd : amg d 1048576 <;> cases he : amg e 1048576 <;>
  · have HS0 := hid (CfS.start w #[.int .i64 a, .int .i64 b, .int .i64 c, .int .i64 d, .int .i64 e])
    go_enter Try.func35, Try.ntmps35
    go_wp2_with (go_at_call 47; (with_reducible first | refine (among_is ha _).mono ?_ | refine (among_is hb _).mono ?_ | refine (among_is hc _).mono ?_ | refine (among_is hd _).mono ?_ | refine (among_is he _).mono ?_); rintro r w2 ⟨rfl, hq⟩; have HS1 := hid (HS0.out.call hq); clear hq HS0; have HS0 := HS1; clear HS1; obtain ⟨hx1, hx2, hx3, hx4⟩ := HC.out _ HS0.out)
    go_ret
    refine ⟨by first | rfl | (simp; done) | (simp [ha]; done), HS0.out.below⟩
end Go.Proofs.Ytkaalppmheikgaa
