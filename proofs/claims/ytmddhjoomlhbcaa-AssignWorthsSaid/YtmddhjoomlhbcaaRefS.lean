/- The walks of the reference's small functions: less1, sum. -/
import Derived.Test.YtmddhjoomlhbcaaAsSt
import Derived.Test.YtmddhjoomlhbcaaAsGm
namespace Go.Proofs.Ytmddhjoomlhbcaa
open Go.RowKit

def Less1Post (w : World) (R : Nat) (e : Ending) (w' : World) : Prop := ∃ b, e = .returned (.slice (some ⟨b, 0, none⟩) R R) ∧ w.heap.size ≤ b ∧ TabAt w' b 3 (List.replicate R (-1)) ∧ Below w.heap.size w w'
set_option maxRecDepth 100000 in
theorem less1_any (R : Nat) (hR : R ≤ 64) (w : World) : Calls Try.prog 31 #[.int .i64 (R : Int)] w (Less1Post w R) := by
  have mk1 : (Instr.makeSlice 37 (.int .i64 (R : Int)) (.int .i64 (R : Int))).run Try.prog w = .ok (.slice (some ⟨w.heap.size, 0, none⟩) R R) (w.alloc (.cells (ints (List.replicate R 0)) 3)) := make_intsA w R hR
  have HT : Hid (TabAt (w.alloc (.cells (ints (List.replicate R 0)) 3)) w.heap.size 3 (fillK R (-1) 0)) := hid (by rw [fillK_zero]; exact heap_alloc_new _ _)
  have HB := hid (below_new w (.cells (ints (List.replicate R 0)) 3))
  go_enter Try.func31, Try.ntmps31
  go_wp2
  clear mk1
  generalize w.alloc (.cells (ints (List.replicate R 0)) 3) = w1 at *
  go_loopw [4] (fun i wr => ∃ k : Nat, k ≤ R ∧ i = .int .i64 k ∧ Hid (TabAt wr w.heap.size 3 (fillK R (-1) k)) ∧ Hid (Below w.heap.size w wr)) (fun i _ => R - (intOf i).toNat)
  case atStart => exact ⟨0, by omega, rfl, HT, HB⟩
  case round =>
    clear HT HB
    obtain ⟨k, hk, rfl, HT, HB⟩ := hrel
    have hk64 : (k : Int) ≤ 64 := by omega
    by_cases hlt : k < R
    · have hki : (k : Int) < (R : Int) := by omega
      have e0 := HT.out.cellI (k := k) (by rw [fillK_len _ hk]; exact hlt)
      have f0 := free_row HT.out k
      go_wp2
      exact ⟨⟨k + 1, by omega, by go_num, hid (by rw [← fillK_set _ hlt]; exact HT.out.set k (-1)), hid (HB.out.setCell (Nat.le_refl _) _)⟩, by simp [intOf]; omega⟩
    · obtain rfl : k = R := by omega
      have hkr : ¬ ((k : Int) < (k : Int)) := by omega
      rw [fillK_all] at HT
      clear hk hlt
      go_wp2
      go_ret
      exact ⟨_, rfl, Nat.le_refl _, HT.out, HB.out⟩

/-- What the edges of the rows' columns weigh. -/
def sumE (l : List Ed) (tl : List Int) : Int := (l.map fun x => if getI tl x.r.toNat = x.c then x.w else 0).sum
theorem sumE_snoc (l : List Ed) (tl : List Int) (x : Ed) : sumE (l ++ [x]) tl = sumE l tl + if getI tl x.r.toNat = x.c then x.w else 0 := by simp [sumE]
set_option maxRecDepth 100000 in
set_option maxHeartbeats 4000000 in
theorem sum_any (g : Gr) (a : Option Addr) (cap : Nat) (hc : chk g = true) (tl : List Int) (A : Option Addr) (c : Nat) (hto : tl.length = g.rows.toNat) (w : World) (hr : RowsAt 3 edV w a g.es) (hm : RowsAt 1 numV w A tl) :
    Calls Try.prog 32 #[grV g a cap, .slice A tl.length c] w fun e w' => e = .returned (.int .i64 (sumE g.es tl)) ∧ Below w.heap.size w w' := by
  have HR := hid hr
  have HM := hid hm
  have HC := hid hc
  have HTO := hid hto
  clear hr hm hc hto
  unfold grV
  go_enter Try.func32, Try.ntmps32
  go_upto_region 1 with fail
  have HS := hid (GBx.start (cap := cap) HR.out)
  generalize w.alloc (.cells #[.int .i64 g.rows, .int .i64 g.cols, .slice a g.es.length cap] 24) = w1 at *
  obtain ⟨gb, hgb⟩ : ∃ gb, gb = w.heap.size := ⟨_, rfl⟩
  rw [← hgb] at HS ⊢
  clear hgb
  have HES := hid (es_len HC.out)
  go_wp2
  go_loopw [5, 6] (fun s i wx => ∃ (k : Nat) (n : Int), k ≤ g.es.length ∧ i = .int .i64 k ∧ s = .int .i64 n ∧ (0 ≤ n ∧ n ≤ 1099513724929 * (k : Int)) ∧ Hid (n = sumE (g.es.take k) tl) ∧ Hid (Below w1.heap.size w1 wx)) (fun _ i _ => g.es.length - (intOf i).toNat)
  case atStart => exact ⟨0, 0, by omega, rfl, rfl, by omega, hid rfl, hid (Below.refl _ _)⟩
  case round =>
    obtain ⟨k, n, hk, rfl, rfl, hnb, HN, HX⟩ := hrel
    have HSx := hid (HS.out.kept HX.out)
    have c2 := HSx.out.list
    have hkl : (k : Int) ≤ 4096 := by have := HES.out; omega
    by_cases hlt : k < g.es.length
    · have hki : (k : Int) < (g.es.length : Int) := by omega
      obtain ⟨x, hx⟩ : ∃ x, g.es[k]? = some x := ⟨g.es[k], by simp [hlt]⟩
      obtain ⟨r, c, h1, h2, h3, h4, _, _⟩ := edge_ok HC.out (List.mem_of_getElem? hx)
      have hw1 := edge_w HC.out (List.mem_of_getElem? hx)
      have hrR : r < tl.length := by rw [HTO.out]; omega
      have HSN : Hid (sumE (g.es.take (k + 1)) tl = n + if getI tl r = (c : Int) then x.w else 0) := hid (by
        obtain ⟨p1, p2⟩ := List.getElem?_eq_some_iff.1 hx
        rw [List.take_succ_eq_append_getElem p1, p2, sumE_snoc, ← HN.out, h1, h2, Int.toNat_natCast])
      obtain ⟨eg, eo, haa, _, hcc⟩ := HSx.out.es.get hx
      rw [Nat.mul_comm] at hcc
      have x0 : wr.cell? ⟨eg, eo + k * 3, none⟩ = some (.int .i64 r) := by rw [← h1]; exact hcc 0 _ rfl
      have x1 : wr.cell? ⟨eg, eo + k * 3 + 1, none⟩ = some (.int .i64 c) := by rw [← h2]; exact hcc 1 _ rfl
      have x2 : wr.cell? ⟨eg, eo + k * 3 + 2, none⟩ = some (.int .i64 x.w) := hcc 2 _ rfl
      obtain ⟨ga, oa, hA, e1⟩ := num_cell (HM.out.kept HSx.out.below) (show tl[r]? = some (getI tl r) by unfold getI; rw [List.getElem?_eq_getElem hrR]; rfl)
      have hri : (r : Int) < (tl.length : Int) := by omega
      subst haa hA
      clear hx hcc h1 h2 h3 h4
      generalize x.w = xw at *
      by_cases he : getI tl r = (c : Int)
      · rw [if_pos he] at HSN
        rw [he] at e1
        clear he
        have hb : n + xw ≤ 1099513724929 * ((k : Int) + 1) := by omega
        go_wp2
        go_quiet (fail)
        go_wp2
        exact ⟨⟨k + 1, n + xw, by omega, by go_num, rfl, by omega, hid HSN.out.symm, hid (below_tr HX.out (below_dn _ _))⟩, by simp [intOf]; omega⟩
      · have he2 : (getI tl r == (c : Int)) = false := by simpa using he
        rw [if_neg he, Int.add_zero] at HSN
        clear he
        generalize getI tl r = tr at *
        go_wp2
        go_quiet (fail)
        go_wp2
        exact ⟨⟨k + 1, n, by omega, by go_num, rfl, by omega, hid HSN.out.symm, hid (below_tr HX.out (below_dn _ _))⟩, by simp [intOf]; omega⟩
    · obtain rfl : k = g.es.length := by omega
      have hkr : ¬ ((g.es.length : Int) < (g.es.length : Int)) := by omega
      rw [List.take_length] at HN
      clear hk hlt
      go_wp2
      go_ret
      exact ⟨by rw [← HN.out]; rfl, HSx.out.below⟩
end Go.Proofs.Ytmddhjoomlhbcaa
