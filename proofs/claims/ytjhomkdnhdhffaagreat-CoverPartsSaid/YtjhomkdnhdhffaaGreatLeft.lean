/- The laws' checks that a graph's copy was left as it was: isEdge, SameEdges, LeftEdges, LeftGraph, where it was. -/
import Derived.Test.YtjhomkdnhdhffaaGreatTwinW
import Derived.Deep.QuietTactic
import Derived.BigQuiet
namespace Go.Proofs.YtjhomkdnhdhffaaGreat
open Go.RowKit

section
variable {P : Program} {w : World} {d : Nat} {xs ys : Array Value} {f : Field} {fs : List Field} {a b : Value} {r s : Bool}
theorem fld_last (hn : (f.name == "_") = false) (ha : (part f.type xs f.offset).run P w = .ok a w) (hb : (part f.type ys f.offset).run P w = .ok b w) (he : (Op.equalIn d f.type a b).run P w = .ok r w) : (Op.eqFields d xs ys [f]).run P w = .ok r w := by
  have hn' : f.name ≠ "_" := by simpa using hn
  simp only [Op.eqFields, if_pos hn', Sem.run_bind, ha, hb, he, Result.andThen_ok]
  cases r <;> simp
theorem fld_cons (hn : (f.name == "_") = false) (ha : (part f.type xs f.offset).run P w = .ok a w) (hb : (part f.type ys f.offset).run P w = .ok b w) (he : (Op.equalIn d f.type a b).run P w = .ok r w) (hr : (Op.eqFields d xs ys fs).run P w = .ok s w) : (Op.eqFields d xs ys (f :: fs)).run P w = .ok (r && s) w := by
  have hn' : f.name ≠ "_" := by simpa using hn
  rw [Op.eqFields]
  simp only [if_pos hn', Sem.run_bind, ha, hb, he, Result.andThen_ok]
  cases r
  · simp
  · simpa using hr
theorem fld_struct {t : TypeId} {fs : Array Field} (hu : P.underlying t = some (.struct fs)) (hp : P.stoodInHeld t = false) (h : (Op.eqFields d xs ys fs.toList).run P w = .ok r w) : (Op.equalIn (d + 1) t (.agg xs) (.agg ys)).run P w = .ok r w := by
  have hf : P.fieldsOf t = fs := by simp [Program.fieldsOf, hu]
  rw [run_equalIn_struct (P := P) w d t xs ys (by rw [hf]; exact hu) hp, hf]
  exact h
end
theorem eqEdge (d : Nat) (w : World) (x0 y0 x1 y1 x2 y2 : Int) :
    (Op.equalIn (d + 2) 78 (.agg #[.int .i64 x0, .int .i64 x1, .int .i64 x2]) (.agg #[.int .i64 y0, .int .i64 y1, .int .i64 y2])).run Tryz.prog w = .ok (x0 == y0 && (x1 == y1 && (x2 == y2))) w := by
  refine fld_struct Tryz.underlying78 (by kernel_rfl) ?_
  refine fld_cons (by rfl) (by go_simp; rfl) (by go_simp; rfl) (by go_simp) ?_
  refine fld_cons (by rfl) (by go_simp; rfl) (by go_simp; rfl) (by go_simp) ?_
  exact fld_last (by rfl) (by go_simp; rfl) (by go_simp; rfl) (by go_simp)
attribute [local go_sem high] eqEdge

set_option maxRecDepth 100000 in
theorem isEdge_mark (w : World) (n : Int) (hn : n = 7777 := by rfl) : Calls Tryz.prog 113 #[.agg #[.int .i64 0, .int .i64 0, .int .i64 (-8777)], .int .i64 n] w fun e w' => e = .returned (.bool true) ∧ Below w.heap.size w w' := by
  subst hn
  have hu := Tryz.underlying78
  have hb := (Below.refl w.heap.size w).alloc (Nat.le_refl _) (.cells #[.int .i64 0, .int .i64 0, .int .i64 (-8777)] 78)
  have HB := hid hb
  clear hb
  go_enter Tryz.func113, Tryz.ntmps113
  go_upto_region 1 with fail
  have HE := hid (heap_alloc_new w (.cells #[.int .i64 0, .int .i64 0, .int .i64 (-8777)] 78))
  generalize w.alloc (.cells #[.int .i64 0, .int .i64 0, .int .i64 (-8777)] 78) = w1 at *
  go_wp2_with (refine wpList_load_w rfl 78 _ rfl _ rfl _ _ _ _ (HE.out) Tryz.underlying78 rfl (info_ed) ?_)
  go_ret
  exact ⟨rfl, HB.out⟩

set_option maxRecDepth 100000 in
theorem sameEdges_any (l : List Ed) (A B : Option Addr) (ca cb : Nat) (hl : l.length ≤ 4611686018427387904) (w : World) (ha : RowsAt 3 edV w A l) (hb : RowsAt 3 edV w B l) :
    Calls Tryz.prog 112 #[.slice A l.length ca, .slice B l.length cb] w fun e w' => e = .returned (.bool true) ∧ ∃ m, w' = w.drewN m := by
  have hu := Tryz.underlying78
  have HA := hid ha
  have HB := hid hb
  clear ha hb
  go_enter Tryz.func112, Tryz.ntmps112
  have g1 : ((l.length : Int) != (l.length : Int)) = false := by simp
  go_wp2
  clear g1
  go_loopw [5] (fun i wr => ∃ k : Nat, k ≤ l.length ∧ i = .int .i64 k ∧ Hid (∃ m, wr = w.drewN m)) (fun i _ => l.length - (intOf i).toNat)
  case atStart => exact ⟨0, by omega, rfl, hid ⟨0, rfl⟩⟩
  case round =>
    obtain ⟨k, hk, rfl, HM⟩ := hrel
    obtain ⟨m, rfl⟩ := HM.out
    by_cases hlt : k < l.length
    · have hki : (k : Int) < (l.length : Int) := by omega
      obtain ⟨⟨x, y, z⟩, hx⟩ : ∃ x, l[k]? = some x := ⟨l[k], by simp [hlt]⟩
      obtain ⟨ga, oa, rfl, _, h1⟩ := HA.out.get hx
      obtain ⟨gb, ob, rfl, _, h2⟩ := HB.out.get hx
      rw [Nat.mul_comm] at h1 h2
      have a0 : w.cell? ⟨ga, oa + k * 3, none⟩ = some (.int .i64 x) := h1 0 _ rfl
      have a1 : w.cell? ⟨ga, oa + k * 3 + 1, none⟩ = some (.int .i64 y) := h1 1 _ rfl
      have a2 : w.cell? ⟨ga, oa + k * 3 + 2, none⟩ = some (.int .i64 z) := h1 2 _ rfl
      have b0 : w.cell? ⟨gb, ob + k * 3, none⟩ = some (.int .i64 x) := h2 0 _ rfl
      have b1 : w.cell? ⟨gb, ob + k * 3 + 1, none⟩ = some (.int .i64 y) := h2 1 _ rfl
      have b2 : w.cell? ⟨gb, ob + k * 3 + 2, none⟩ = some (.int .i64 z) := h2 2 _ rfl
      clear hx h1 h2
      go_wp2
      go_quiet (fail)
      go_wp2
      go_roundw
      case rel => exact ⟨k + 1, by omega, by go_num, hid ⟨_, by first | rfl | exact World.drewN_drewN _ _ _⟩⟩
      case measure => simp [intOf]; omega
    · obtain rfl : k = l.length := by omega
      have hki : ¬ ((l.length : Int) < (l.length : Int)) := by omega
      clear hk hlt
      go_wp2
      go_ret
      exact ⟨rfl, m, rfl⟩

/-- The copy's block holds the list and the mark behind it. -/
theorem mark_cells {w : World} {b : Nat} {l : List Ed} (h : EdsAt w b (l ++ [markEd])) : CellsAt w b (l.length * 3) #[.int .i64 0, .int .i64 0, .int .i64 (-8777)] := fun j v hj => by
  refine row_cell h _ _ ?_
  rw [List.getElem?_toArray, Nat.mul_comm]
  exact edsV_get (l := l ++ [markEd]) (i := l.length) (x := markEd) (by simp) j v hj
set_option maxRecDepth 100000 in
theorem leftEdges_any (l : List Ed) (b : Nat) (B : Option Addr) (cb : Nat) (hl : l.length ≤ 1048576) (w : World) (ha : EdsAt w b (l ++ [markEd])) (hb : RowsAt 3 edV w B l) :
    Calls Tryz.prog 27 #[.slice (some ⟨b, 0, none⟩) l.length (l.length + 1), .slice B l.length cb] w fun e w' => e = .returned (.bool true) ∧ Below w.heap.size w w' := by
  have HA := hid ha
  have HB := hid hb
  clear ha hb
  go_enter Tryz.func27, Tryz.ntmps27
  go_wp2_with fail
  refine (sameEdges_any l (some ⟨b, 0, none⟩) B (l.length + 1) cb (by omega) w (HA.out.rows ⟨_, rfl⟩) HB.out).mono ?_
  rintro e w1 ⟨rfl, m, rfl⟩
  have hl1 : (l.length : Int) + 1 ≤ (l.length : Int) + 1 := by omega
  have hl0 : (l.length : Int) < (l.length : Int) + 1 := by omega
  have HCE : Hid (CellsAt (w.drewN m) b (l.length * 3) #[.int .i64 0, .int .i64 0, .int .i64 (-8777)]) := hid (mark_cells HA.out)
  have HD : Hid (Below w.heap.size w (w.drewN m)) := hid ⟨rfl, rfl, rfl, Nat.le_refl _, fun _ _ => rfl⟩
  go_wp2_with (refine wpList_load_cells rfl 78 _ rfl _ _ rfl _ _ HCE.out Tryz.underlying78 rfl info_ed ?_)
  refine (isEdge_mark _ _).mono ?_
  rintro e w2 ⟨rfl, hb2⟩
  have HB2 := hid (HD.out.trans (hb2.mono HD.out.size))
  clear hb2
  go_wp2
  go_ret
  exact ⟨rfl, HB2.out⟩

set_option maxRecDepth 100000 in
theorem leftGraph_any (g : Gr) (b : Nat) (a : Option Addr) (cap : Nat) (hl : g.es.length ≤ 1048576) (w : World) (ha : EdsAt w b (g.es ++ [markEd])) (hb : RowsAt 3 edV w a g.es) :
    Calls Tryz.prog 11 #[grV g (some ⟨b, 0, none⟩) (g.es.length + 1), grV g a cap] w fun e w' => e = .returned (.bool true) ∧ Below w.heap.size w w' := by
  unfold grV
  have hbb := ((Below.refl w.heap.size w).alloc (Nat.le_refl _) (.cells #[.int .i64 g.rows, .int .i64 g.cols, .slice (some ⟨b, 0, none⟩) g.es.length (g.es.length + 1)] 24)).alloc (by simp) (.cells #[.int .i64 g.rows, .int .i64 g.cols, .slice a g.es.length cap] 24)
  have h1 := alloc_keep (heap_alloc_new w (.cells #[.int .i64 g.rows, .int .i64 g.cols, .slice (some ⟨b, 0, none⟩) g.es.length (g.es.length + 1)] 24)) (.cells #[.int .i64 g.rows, .int .i64 g.cols, .slice a g.es.length cap] 24)
  have h2 := heap_2 w (.cells #[.int .i64 g.rows, .int .i64 g.cols, .slice (some ⟨b, 0, none⟩) g.es.length (g.es.length + 1)] 24) (.cells #[.int .i64 g.rows, .int .i64 g.cols, .slice a g.es.length cap] 24)
  have HA : Hid (EdsAt ((w.alloc (.cells #[.int .i64 g.rows, .int .i64 g.cols, .slice (some ⟨b, 0, none⟩) g.es.length (g.es.length + 1)] 24)).alloc (.cells #[.int .i64 g.rows, .int .i64 g.cols, .slice a g.es.length cap] 24)) b (g.es ++ [markEd])) := hid (alloc_keep (alloc_keep ha _) _)
  have HB := hid ((hb.alloc (.cells #[.int .i64 g.rows, .int .i64 g.cols, .slice (some ⟨b, 0, none⟩) g.es.length (g.es.length + 1)] 24)).alloc (.cells #[.int .i64 g.rows, .int .i64 g.cols, .slice a g.es.length cap] 24))
  have H1 := hid h1
  have H2 := hid h2
  have HBB := hid hbb
  clear h1 h2 hbb ha hb
  go_enter Tryz.func11, Tryz.ntmps11
  go_upto_region 1 with fail
  generalize (w.alloc (.cells #[.int .i64 g.rows, .int .i64 g.cols, .slice (some ⟨b, 0, none⟩) g.es.length (g.es.length + 1)] 24)).alloc (.cells #[.int .i64 g.rows, .int .i64 g.cols, .slice a g.es.length cap] 24) = w1 at *
  obtain ⟨k2, hk2⟩ : ∃ k, k = w.heap.size + 1 := ⟨_, rfl⟩
  rw [← hk2] at H2 ⊢
  clear hk2
  have a0 := row_cell H1.out 0 (.int .i64 g.rows) rfl
  have a1 := row_cell H1.out 1 (.int .i64 g.cols) rfl
  have a2 := row_cell H1.out 2 (.slice (some ⟨b, 0, none⟩) g.es.length (g.es.length + 1)) rfl
  have b0 := row_cell H2.out 0 (.int .i64 g.rows) rfl
  have b1 := row_cell H2.out 1 (.int .i64 g.cols) rfl
  have b2 := row_cell H2.out 2 (.slice a g.es.length cap) rfl
  go_wp2_with fail
  refine (leftEdges_any g.es b a cap hl w1 HA.out HB.out).mono ?_
  rintro e w2 ⟨rfl, hb2⟩
  have HB2 := hid (HBB.out.trans (hb2.mono HBB.out.size))
  clear hb2 a0 a1 a2 b0 b1 b2
  go_wp2
  go_ret
  exact ⟨rfl, HB2.out⟩
end Go.Proofs.YtjhomkdnhdhffaaGreat
