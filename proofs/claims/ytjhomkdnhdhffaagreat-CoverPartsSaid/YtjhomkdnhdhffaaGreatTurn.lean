/- The walk of turned: the copy's edges are written over. -/
import Derived.Test.YtjhomkdnhdhffaaGreatSm
import Derived.Test.YtjhomkdnhdhffaaGreatBkPl
namespace Go.Proofs.YtjhomkdnhdhffaaGreat
open Go.RowKit

def tE (i : Nat) (x : Ed) : Ed := ⟨x.r, if 0 < x.c then x.c - 1 else x.c, 1 + (i : Int)⟩
def tTo (l : List Ed) (k : Nat) : List Ed := l.mapIdx fun i x => if i < k then tE i x else x
def tG (g : Gr) : Gr := ⟨g.rows, g.cols, tTo g.es g.es.length⟩
theorem tTo_len (l : List Ed) (k : Nat) : (tTo l k).length = l.length := by simp [tTo]
theorem tTo_zero (l : List Ed) : tTo l 0 = l := by
  apply List.ext_getElem
  · simp [tTo]
  · intro i h1 h2; simp [tTo]
theorem tTo_get (l : List Ed) (k i : Nat) {x : Ed} (h : l[i]? = some x) : (tTo l k)[i]? = some (if i < k then tE i x else x) := by
  unfold tTo
  rw [List.getElem?_mapIdx, h]; rfl
theorem tTo_set {l : List Ed} {k : Nat} {x : Ed} (h : l[k]? = some x) : (tTo l k).set k (tE k x) = tTo l (k + 1) := by
  apply List.ext_getElem?
  intro i
  rw [List.getElem?_set, tTo_len]
  cases hi : l[i]? with
  | none =>
    have h1 : ∀ m, (tTo l m)[i]? = none := fun m => by unfold tTo; rw [List.getElem?_mapIdx, hi]; rfl
    rw [h1, h1]
    by_cases e : k = i
    · subst e; rw [h] at hi; cases hi
    · rw [if_neg e]
  | some y =>
    rw [tTo_get l _ _ hi, tTo_get l _ _ hi]
    have hl := (List.getElem?_eq_some_iff.1 hi).1
    by_cases e : k = i
    · subst e
      have : y = x := by rw [h] at hi; exact (Option.some.inj hi).symm
      subst this
      rw [if_pos rfl, if_pos hl, if_pos (Nat.lt_succ_self k)]
    · rw [if_neg e]
      by_cases e2 : i < k
      · rw [if_pos e2, if_pos (by omega)]
      · rw [if_neg e2, if_neg (by omega)]
theorem tG_ok {g : Gr} {cap : Nat} (h : GrOk g cap) (hl : g.es.length ≤ 1048576) : GrOk (tG g) cap := by
  refine ⟨h.rows, h.cols, fun x hx => ?_, by show (tTo g.es g.es.length).length ≤ cap; rw [tTo_len]; exact h.len, h.cap⟩
  obtain ⟨i, hi, e⟩ := List.mem_iff_getElem.1 hx
  have hi' : i < g.es.length := by
    have : (tTo g.es g.es.length).length = g.es.length := tTo_len _ _
    have h2 : i < (tTo g.es g.es.length).length := hi
    omega
  have h3 := tTo_get g.es g.es.length i (List.getElem?_eq_getElem hi')
  rw [if_pos hi'] at h3
  have h4 : x = tE i g.es[i] := by
    have : (tTo g.es g.es.length)[i]? = some x := List.getElem?_eq_some_iff.2 ⟨hi, e⟩
    rw [h3] at this; exact (Option.some.inj this).symm
  obtain ⟨a1, a2, a3⟩ := h.es _ (List.getElem_mem hi')
  rw [h4]
  refine ⟨a1, ?_, ?_⟩
  · unfold tE I64 at *
    dsimp only
    split <;> omega
  · unfold tE I64
    dsimp only
    omega
theorem edsV_turn {l : List Ed} {k : Nat} {x : Ed} (hx : l[k]? = some x) (c n : Int) : ((edsV l).set (k * 3 + 1) (.int .i64 c)).set (k * 3 + 2) (.int .i64 n) = edsV (l.set k ⟨x.r, c, n⟩) := by
  rw [edsV_set, Nat.mul_comm k 3]
  have h0 := edsV_get hx 0 _ rfl
  rw [Nat.add_zero] at h0
  have e0 : (edsV l).set (3 * k) (.int .i64 x.r) = edsV l := by
    apply List.ext_getElem?; intro i
    rw [List.getElem?_set]; split
    · rename_i e; subst e; split
      · exact h0.symm
      · rename_i h9; rw [List.getElem?_eq_none (by omega)] at h0; cases h0
    · rfl
  rw [e0]
theorem edsV_wt {l : List Ed} {k : Nat} {x : Ed} (hx : l[k]? = some x) (n : Int) : (edsV l).set (k * 3 + 2) (.int .i64 n) = edsV (l.set k ⟨x.r, x.c, n⟩) := by
  rw [← edsV_turn hx]
  congr 1
  have h1 := edsV_get hx 1 _ rfl
  rw [Nat.mul_comm k 3]
  apply List.ext_getElem?; intro i
  rw [List.getElem?_set]; split
  · rename_i e; subst e; split
    · exact h1
    · rename_i h9; rw [List.getElem?_eq_none (by omega)] at h1; cases h1
  · rfl
theorem EdsAt.turn {w : World} {g : Nat} {l : List Ed} (h : EdsAt w g l) {k : Nat} {x : Ed} (hx : l[k]? = some x) (c n : Int) : EdsAt ((w.setCell ⟨g, k * 3 + 1, none⟩ (.int .i64 c)).setCell ⟨g, k * 3 + 2, none⟩ (.int .i64 n)) g (l.set k ⟨x.r, c, n⟩) := by
  unfold EdsAt at *
  rw [row_setCell (row_setCell h _ _), ← edsV_turn hx]
  simp
theorem EdsAt.wt {w : World} {g : Nat} {l : List Ed} (h : EdsAt w g l) {k : Nat} {x : Ed} (hx : l[k]? = some x) (n : Int) : EdsAt (w.setCell ⟨g, k * 3 + 2, none⟩ (.int .i64 n)) g (l.set k ⟨x.r, x.c, n⟩) := by
  unfold EdsAt at *
  rw [row_setCell h, ← edsV_wt hx]
  simp

set_option maxRecDepth 100000 in
set_option maxHeartbeats 4000000 in
theorem turned_any (g : Gr) (b cap : Nat) (hok : GrOk g cap) (hl : g.es.length ≤ 1048576) (tl : List Ed) (w : World) (h : EdsAt w b (g.es ++ tl)) :
    Calls Tryz.prog 14 #[grV g (some ⟨b, 0, none⟩) cap] w fun e w' => (∃ v, e = .returned v) ∧ EdsAt w' b ((tG g).es ++ tl) ∧ Kp (fun k => k = b) w w' := by
  have HE := hid h
  have HOK := hid hok
  clear h hok
  unfold grV
  go_enter Tryz.func14, Tryz.ntmps14
  go_upto_region 1 with fail
  have HG := hid (heap_alloc_new w (.cells #[.int .i64 g.rows, .int .i64 g.cols, .slice (some ⟨b, 0, none⟩) g.es.length cap] 24))
  have HE1 : Hid (EdsAt (w.alloc (.cells #[.int .i64 g.rows, .int .i64 g.cols, .slice (some ⟨b, 0, none⟩) g.es.length cap] 24)) b (tTo g.es 0 ++ tl)) := hid (by rw [tTo_zero]; exact alloc_keep HE.out _)
  have HK1 : Hid (Kp (fun k => k = b) w (w.alloc (.cells #[.int .i64 g.rows, .int .i64 g.cols, .slice (some ⟨b, 0, none⟩) g.es.length cap] 24))) := hid ((Kp.refl _ _).alloc _)
  have HNE : Hid (w.heap.size ≠ b) := hid (by have := heap_lt HE.out; omega)
  clear HE
  generalize w.alloc (.cells #[.int .i64 g.rows, .int .i64 g.cols, .slice (some ⟨b, 0, none⟩) g.es.length cap] 24) = w1 at *
  obtain ⟨gb, hgb⟩ : ∃ gb, gb = w.heap.size := ⟨_, rfl⟩
  rw [← hgb] at HG HNE ⊢
  clear hgb
  go_wp2
  go_loopw [2] (fun i wr => ∃ k : Nat, k ≤ g.es.length ∧ i = .int .i64 k ∧ Hid (EdsAt wr b (tTo g.es k ++ tl)) ∧ Hid (wr.heap[gb]? = some (.cells #[.int .i64 g.rows, .int .i64 g.cols, .slice (some ⟨b, 0, none⟩) g.es.length cap] 24 (0, 0))) ∧ Hid (Kp (fun k => k = b) w wr)) (fun i _ => g.es.length - (intOf i).toNat)
  case atStart => exact ⟨0, by omega, rfl, HE1, HG, HK1⟩
  case round =>
    clear HE1 HG HK1
    obtain ⟨k, hk, rfl, HE, HG, HK⟩ := hrel
    have c2 := row_cell HG.out 2 _ rfl
    have hkl : (k : Int) ≤ 1048576 := by omega
    by_cases hlt : k < g.es.length
    · have hki : (k : Int) < (g.es.length : Int) := by omega
      obtain ⟨x, hx⟩ : ∃ x, g.es[k]? = some x := ⟨g.es[k], by simp [hlt]⟩
      have hlx : (tTo g.es k ++ tl)[k]? = some x := by
        rw [List.getElem?_append_left (by rw [tTo_len]; exact hlt), tTo_get _ _ _ hx, if_neg (Nat.lt_irrefl k)]
      obtain ⟨xc, hxc⟩ : ∃ z, z = x.c := ⟨_, rfl⟩
      have e1 : wr.cell? ⟨b, k * 3 + 1, none⟩ = some (.int .i64 xc) := by rw [hxc]; exact row_cell HE.out _ _ (by rw [List.getElem?_toArray, Nat.mul_comm]; exact edsV_get hlx 1 _ rfl)
      have e2 : wr.cell? ⟨b, k * 3 + 2, none⟩ = some (.int .i64 x.w) := row_cell HE.out _ _ (by rw [List.getElem?_toArray, Nat.mul_comm]; exact edsV_get hlx 2 _ rfl)
      have f1 := free_row HE.out (k * 3 + 1)
      have f2 := free_row HE.out (k * 3 + 2)
      have HXI := hid (HOK.out.es x (List.mem_of_getElem? hx)).2.1
      have hxi : xc ≤ 9223372036854775807 := by have := HXI.out.2; omega
      have HT : Hid ((tTo g.es k ++ tl).set k (tE k x) = tTo g.es (k + 1) ++ tl) := hid (by rw [List.set_append_left _ _ (by rw [tTo_len]; exact hlt), tTo_set hx])
      have hgb : gb ≠ b := HNE.out
      by_cases hpos : 0 < xc
      · have HN : Hid (EdsAt ((wr.setCell ⟨b, k * 3 + 1, none⟩ (.int .i64 (xc - 1))).setCell ⟨b, k * 3 + 2, none⟩ (.int .i64 (1 + (k : Int)))) b (tTo g.es (k + 1) ++ tl)) := hid (by
          rw [← HT.out]
          have h1 := HE.out.turn hlx (xc - 1) (1 + (k : Int))
          have h2 : tE k x = ⟨x.r, xc - 1, 1 + (k : Int)⟩ := by unfold tE; rw [← hxc, if_pos hpos]
          rw [h2]; exact h1)
        have HKN := hid ((HK.out.setCell (b := b) (.inl rfl) (k * 3 + 1) (.int .i64 (xc - 1))).setCell (b := b) (.inl rfl) (k * 3 + 2) (.int .i64 (1 + (k : Int))))
        have HGN : Hid (((wr.setCell ⟨b, k * 3 + 1, none⟩ (.int .i64 (xc - 1))).setCell ⟨b, k * 3 + 2, none⟩ (.int .i64 (1 + (k : Int)))).heap[gb]? = some (.cells #[.int .i64 g.rows, .int .i64 g.cols, .slice (some ⟨b, 0, none⟩) g.es.length cap] 24 (0, 0))) := hid ((heap_setCell_ne hgb).trans ((heap_setCell_ne hgb).trans HG.out))
        clear hx hlx hxc
        -- L1
        go_upto_region 5 with fail
        go_region
        all_goals go_wp2
        go_roundw
        case rel => exact ⟨k + 1, by omega, by go_num, hid HN.out, hid HGN.out, hid HKN.out.drew⟩
        case measure => simp [intOf]; omega
        -- /L1
      · have HN : Hid (EdsAt (wr.setCell ⟨b, k * 3 + 2, none⟩ (.int .i64 (1 + (k : Int)))) b (tTo g.es (k + 1) ++ tl)) := hid (by
          rw [← HT.out]
          have h1 := HE.out.wt hlx (1 + (k : Int))
          have h2 : tE k x = ⟨x.r, x.c, 1 + (k : Int)⟩ := by unfold tE; rw [← hxc, if_neg hpos]
          rw [h2]; exact h1)
        have HKN := hid (HK.out.setCell (b := b) (.inl rfl) (k * 3 + 2) (.int .i64 (1 + (k : Int))))
        have HGN : Hid ((wr.setCell ⟨b, k * 3 + 2, none⟩ (.int .i64 (1 + (k : Int)))).heap[gb]? = some (.cells #[.int .i64 g.rows, .int .i64 g.cols, .slice (some ⟨b, 0, none⟩) g.es.length cap] 24 (0, 0))) := hid ((heap_setCell_ne hgb).trans HG.out)
        clear hx hlx hxc
        -- L2
        go_wp2
        go_roundw
        case rel => exact ⟨k + 1, by omega, by go_num, HN, HGN, HKN⟩
        case measure => simp [intOf]; omega
        -- /L2
    · obtain rfl : k = g.es.length := by omega
      have hki : ¬ ((g.es.length : Int) < (g.es.length : Int)) := by omega
      go_wp2
      go_end0
      exact ⟨⟨_, rfl⟩, HE.out, HK.out⟩
end Go.Proofs.YtjhomkdnhdhffaaGreat
