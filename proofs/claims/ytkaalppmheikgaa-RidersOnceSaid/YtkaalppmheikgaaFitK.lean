/- A request, judged. -/
import Derived.Test.YtkaalppmheikgaaFitC
import Derived.Test.YtkaalppmheikgaaRdSt
namespace Go.Proofs.Ytkaalppmheikgaa
open Go.RowKit

theorem reqOk_cases (c : Cf) (x : Rq) : (reqOk c x = false ∧ (x.seats == 0) = true) ∨ (reqOk c x = false ∧ (x.seats == 0) = false ∧ (x.cls == 0) = true) ∨ (reqOk c x = false ∧ (x.seats == 0) = false ∧ (x.cls == 0) = false ∧ decide (x.base < 0) = true) ∨
    (reqOk c x = false ∧ (x.seats == 0) = false ∧ (x.cls == 0) = false ∧ decide (x.base < 0) = false ∧ decide (c.b < x.base) = true) ∨ (reqOk c x = false ∧ (x.seats == 0) = false ∧ (x.cls == 0) = false ∧ decide (x.base < 0) = false ∧ decide (c.b < x.base) = false ∧ amg x.ttl c.ttl = false) ∨
    (reqOk c x = true ∧ (x.seats == 0) = false ∧ (x.cls == 0) = false ∧ decide (x.base < 0) = false ∧ decide (c.b < x.base) = false ∧ amg x.ttl c.ttl = true) := by
  unfold reqOk
  cases (x.seats == 0) <;> cases (x.cls == 0) <;> cases decide (x.base < 0) <;> cases decide (c.b < x.base) <;> cases amg x.ttl c.ttl <;> simp
/-- The two boxes. -/
structure CkS (w u : World) (c : Cf) (x : Rq) : Prop where
  b1 : u.heap[w.heap.size]? = some (.cells (cfE c) 23 (0, 0))
  b2 : u.heap[w.heap.size + 1]? = some (.cells (rqE x) 37 (0, 0))
  below : Below w.heap.size w u
theorem CkS.start (w : World) (c : Cf) (x : Rq) : CkS w ((w.alloc (.cells (cfE c) 23)).alloc (.cells (rqE x) 37)) c x := ⟨heap2_old _ _ _ _, heap2_new _ _ _ _, ((Below.refl _ w).alloc (Nat.le_refl _) _).alloc (by simp) _⟩
theorem CkS.call {w u u' : World} {c : Cf} {x : Rq} (h : CkS w u c x) (hb : Below u.heap.size u u') : CkS w u' c x :=
  ⟨(hb.block _ (heap_lt h.b1)).trans h.b1, (hb.block _ (heap_lt h.b2)).trans h.b2, h.below.trans (hb.mono h.below.size)⟩
theorem CkS.cells {w u : World} {c : Cf} {x : Rq} (h : CkS w u c x) : u.cell? ⟨w.heap.size, 3, none⟩ = some (.int .i64 c.ttl) ∧ u.cell? ⟨w.heap.size, 4, none⟩ = some (.int .i64 c.b) ∧ u.cell? ⟨w.heap.size + 1, 12, none⟩ = some (.int .u8 x.seats) ∧ u.cell? ⟨w.heap.size + 1, 13, none⟩ = some (.int .u8 x.cls) ∧ u.cell? ⟨w.heap.size + 1, 14, none⟩ = some (.int .i64 x.base) ∧ u.cell? ⟨w.heap.size + 1, 15, none⟩ = some (.int .i64 x.ttl) :=
  ⟨row_cell h.b1 3 _ rfl, row_cell h.b1 4 _ rfl, row_cell h.b2 12 _ (rqE_get x).2.1, row_cell h.b2 13 _ (rqE_get x).2.2.1, row_cell h.b2 14 _ (rqE_get x).2.2.2.1, row_cell h.b2 15 _ (rqE_get x).2.2.2.2⟩
theorem cfE_info (c : Cf) : (Try.prog.info? 23).map (·.size) = some (cfE c).size := by kernel_rfl
theorem config_is (c : Cf) {t : Bool} (h : cfOk c = t) (w : World) : Calls Try.prog 35 #[.agg (cfE c)] w fun r w' => r = .returned (.int .i64 (if t then 0 else 160)) ∧ Below w.heap.size w w' := by
  refine (config_any c.q c.d c.w c.ttl c.b w).mono fun e w' ⟨h1, h2⟩ => ⟨?_, h2⟩
  rw [h1]; unfold cfOk at h; rw [h]
set_option maxRecDepth 100000 in
set_option maxHeartbeats 8000000 in
theorem check_any (c : Cf) (x : Rq) (hc : cfOk c = true) (w : World) : Calls Try.prog 31 #[.agg (cfE c), .agg (rqE x)] w fun r w' => r = .returned (.int .i64 (if reqOk c x then 0 else 1)) ∧ Below w.heap.size w w' := by
  have HC := hid (config_is c hc)
  have HCI := hid (cfE_info c)
  have HS0 := hid (CkS.start w c x)
  rcases reqOk_cases c x with ⟨hr, h1⟩ | ⟨hr, h1, h2⟩ | ⟨hr, h1, h2, h3⟩ | ⟨hr, h1, h2, h3, h4⟩ | ⟨hr, h1, h2, h3, h4, h5⟩ | ⟨hr, h1, h2, h3, h4, h5⟩ <;>
  · rw [hr]
    clear hr
    go_enter Try.func31, Try.ntmps31
    go_wp2_with (first | (refine wpList_load_w rfl 23 _ rfl _ rfl _ _ _ _ HS0.out.b1 Try.underlying23 rfl HCI.out ?_) | (go_at_call 35; (with_reducible refine (HC.out _).mono ?_); rintro r w2 ⟨rfl, hq⟩; have HS1 := hid (HS0.out.call hq); clear hq HS0; have HS0 := HS1; clear HS1; obtain ⟨hx1, hx2, hx3, hx4, hx5, hx6⟩ := HS0.out.cells) | (go_at_call 47; (with_reducible refine (among_is h5 _).mono ?_); rintro r w3 ⟨rfl, hq⟩; have HS1 := hid (HS0.out.call hq); clear hq HS0; have HS0 := HS1; clear HS1))
    go_ret
    exact ⟨rfl, HS0.out.below⟩
end Go.Proofs.Ytkaalppmheikgaa
