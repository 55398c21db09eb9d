/- The walk of the reference's Parts: the same parts. -/
import Derived.Test.YtjhomkdnhdhffaaGreatRfV
import Derived.Test.YtjhomkdnhdhffaaGreatRfPa
namespace Go.Proofs.YtjhomkdnhdhffaaGreat
open Go.RowKit

/-- The outer list has one element more, a list that was made meanwhile. -/
theorem LLs.pushL {TL TI : TypeId} {w w' : World} {base : Nat} {v v' u : Value} {vs : List Value} {L : List (List Int)} {l : List Int} (h : LLs TL TI w base v vs L) (hne : TL ≠ TI) (hou : w.ownsRow base TI 1 u l.length (intV l)) (hap : ∀ (i : Nat) (u2 : Value) (g : Nat), vs[i]? = some u2 → u2.ownBlock = some g → u.ownBlock ≠ some g)
    (ho : w'.ownsRow base TL 1 v' (L.length + 1) (vs ++ [u])) (hg : w.grownBy w' v.ownBlock) : LLs TL TI w' base v' (vs ++ [u]) (L ++ [l]) := by
  have hlen := h.length
  have far : ∀ {u2 : Value} {n : Nat} {xs : List Value}, w.ownsRow base TI 1 u2 n xs → w'.ownsRow base TI 1 u2 n xs := fun hown => ownsRow_other hown fun g hgu => by
    obtain ⟨cur, hc⟩ := ownsRow_type hown hgu
    refine hg.block g (heap_lt hc) fun e => ?_
    obtain ⟨cur', hc'⟩ := ownsRow_type h.out e.symm
    rw [hc] at hc'
    cases hc'
    exact hne rfl
  refine ⟨by simpa using ho, fun i l2 hl => ?_, fun i j u1 u2 g hij hi hj hu => ?_⟩
  · by_cases e : i < L.length
    · rw [List.getElem?_append_left e] at hl
      obtain ⟨u2, hu, hown⟩ := h.each i l2 hl
      exact ⟨u2, by rw [List.getElem?_append_left (by omega)]; exact hu, far hown⟩
    · rw [List.getElem?_append_right (by omega)] at hl
      obtain ⟨h1, h2⟩ := List.getElem?_eq_some_iff.1 hl
      simp at h1 h2
      subst h2
      exact ⟨u, by rw [List.getElem?_append_right (by omega), show i - vs.length = 0 by omega]; rfl, far hou⟩
  · by_cases e1 : i < vs.length
    · rw [List.getElem?_append_left e1] at hi
      by_cases e2 : j < vs.length
      · rw [List.getElem?_append_left e2] at hj; exact h.apart i j u1 u2 g hij hi hj hu
      · rw [List.getElem?_append_right (by omega)] at hj
        obtain ⟨h1, h2⟩ := List.getElem?_eq_some_iff.1 hj
        simp at h1 h2
        subst h2
        exact hap i u1 g hi hu
    · rw [List.getElem?_append_right (by omega)] at hi
      obtain ⟨h1, h2⟩ := List.getElem?_eq_some_iff.1 hi
      simp at h1 h2
      subst h2
      have h3 := (List.getElem?_eq_some_iff.1 hj).1
      simp at h3
      have e2 : j < vs.length := by omega
      rw [List.getElem?_append_left e2] at hj
      intro h4
      exact hap j u2 g hj h4 hu

/-- The sum of a list of numbers, read off the world. -/
def readSum (w : World) (v : Value) (n : Nat) : Nat := match v with
  | .slice (some a) _ _ => ((List.range n).map fun r => (intOf ((w.cell? ⟨a.block, r, none⟩).getD undef)).toNat).sum
  | _ => 0
def moreM : Value → Nat → Nat
  | .bool true, n => n + 1
  | _, _ => 0
theorem readSum_eq {w : World} {B : Nat} {v : Value} {N : List Nat} (h : w.ownsRow B 3 1 v N.length (intV (nats N))) : readSum w v N.length = N.sum := by
  rcases Nat.eq_zero_or_pos N.length with h0 | h0
  · rw [List.length_eq_zero_iff.1 h0]
    unfold readSum
    split <;> simp
  · obtain ⟨g, cap, hv⟩ := ownsRow_form' h h0
    subst hv
    show ((List.range N.length).map fun r => (intOf ((w.cell? ⟨g, r, none⟩).getD undef)).toNat).sum = N.sum
    congr 1
    apply List.ext_getElem
    · simp
    · intro i h1 h2
      have hi : i < N.length := h2
      have hc : w.cell? ⟨g, i, none⟩ = some (.int .i64 (N[i] : Int)) := by
        rw [h.cellAt i (by omega)]; simp [intV, nats, hi]
      simp only [List.getElem_map, List.getElem_range, hc, Option.getD_some, intOf, Int.toNat_natCast]

structure PN (w wr : World) (g : Gr) (a : Option Addr) (cap gb : Nat) (nv : Value) (N : List Nat) : Prop where
  gblk : wr.heap[gb]? = some (.cells #[.int .i64 g.rows, .int .i64 g.cols, .slice a g.es.length cap] 24 (0, 0))
  num : wr.ownsRow (gb + 1) 3 1 nv N.length (intV (nats N))
  below : Below w.heap.size w wr
  at_ : gb = w.heap.size
section
variable {w wr w' : World} {g : Gr} {a : Option Addr} {cap gb : Nat} {nv : Value} {N : List Nat}
theorem PN.kept (h : PN w wr g a cap gb nv N) (k : Below wr.heap.size wr w') : PN w w' g a cap gb nv N := ⟨below_keep k h.gblk, ownsRow_other h.num fun b hb => k.block b (ownsRow_lt h.num hb), h.below.trans (k.mono h.below.size), h.at_⟩
theorem PN.rowsC (h : PN w wr g a cap gb nv N) {R : Nat} (hR : g.rows = R) : wr.cell? ⟨gb, 0, none⟩ = some (.int .i64 (R : Int)) := row_cell h.gblk 0 _ (by rw [hR]; rfl)
theorem PN.push (h : PN w wr g a cap gb nv N) {wa w4 : World} {v2 : Value} {x : Nat} (k : Below wr.heap.size wr wa) (ho : w4.ownsRow (gb + 1) 3 1 v2 (N.length + 1) (intV (nats N) ++ [.int .i64 x])) (hg : wa.grownBy w4 nv.ownBlock) : PN w w4 g a cap gb v2 (N ++ [x]) := by
  have ha := h.kept k
  have hat := h.at_
  refine ⟨?_, by rw [natsV_snoc, List.length_append]; exact ho, ha.below.grown hg ha.below.size fun b hb => by have := ownsRow_block ha.num b hb; omega, hat⟩
  rw [hg.block gb (heap_lt ha.gblk) fun e => by have := ownsRow_block ha.num gb e.symm; omega]; exact ha.gblk
theorem PN.store {gn cn m : Nat} (h : PN w wr g a cap gb (.slice (some ⟨gn, 0, none⟩) m cn) N) (hm : N.length = m) (q n : Nat) : PN w (wr.setCell ⟨gn, q, none⟩ (.int .i64 n)) g a cap gb (.slice (some ⟨gn, 0, none⟩) m cn) (N.set q n) := by
  subst hm
  have hb := ownsRow_block h.num gn rfl
  have hat := h.at_
  refine ⟨(heap_setCell_ne (by omega)).trans h.gblk, ?_, h.below.setCell (by show w.heap.size ≤ gn; omega) _, hat⟩
  have := (h.num.stored q (.int .i64 n)).1
  rw [intV_set] at this
  rw [List.length_set, nats_set]
  exact this
end
theorem cell_dn {w : World} {p : Addr} {o : Option Value} (n : Nat) (h : w.cell? p = o) : (w.drewN n).cell? p = o := h
theorem kp_dn (w : World) (n : Nat) : Below w.heap.size w (w.drewN n) := ⟨rfl, rfl, rfl, Nat.le_refl _, fun _ _ => rfl⟩
theorem range_snoc_len (r : Nat) : (List.range r).length = r := by simp

set_option maxRecDepth 100000 in
set_option maxHeartbeats 8000000 in
theorem rparts_any (g : Gr) (a : Option Addr) (cap : Nat) (hok : GrOk g cap) (hes : g.es.length ≤ 1048576) (w : World) (hr : RowsAt 3 edV w a g.es) :
    Calls Tryz.prog 8 #[grV g a cap] w (PartsPost w g) := by
  have CCK := hid (fun (w2 : World) (hb : RowsAt 3 edV w2 a g.es) => rcheck_any g a cap hok w2 hb)
  have HR := hid hr
  have HES := hid hes
  clear hok hr hes
  have gE : grV g a cap = .agg #[.int .i64 g.rows, .int .i64 g.cols, .slice a g.es.length cap] := rfl
  rw [gE] at CCK ⊢
  go_enter Tryz.func8, Tryz.ntmps8
  go_upto_region 1 with fail
  have HG := hid (heap_alloc_new w (.cells #[.int .i64 g.rows, .int .i64 g.cols, .slice a g.es.length cap] 24))
  have HB : Hid (Below w.heap.size w (w.alloc (.cells #[.int .i64 g.rows, .int .i64 g.cols, .slice a g.es.length cap] 24))) := hid ((Below.refl _ _).alloc (Nat.le_refl _) _)
  generalize w.alloc (.cells #[.int .i64 g.rows, .int .i64 g.cols, .slice a g.es.length cap] 24) = w1 at *
  obtain ⟨gb, hgb⟩ : ∃ gb, gb = w.heap.size := ⟨_, rfl⟩
  rw [← hgb] at HG ⊢
  have HGB := hid hgb
  clear hgb gE
  go_wp2_with (refine wpList_load_w rfl 24 _ rfl _ rfl _ _ _ _ (HG.out) Tryz.underlying24 rfl (info_gr) ?_)
  refine (CCK.out _ (HR.out.kept HB.out)).mono ?_
  rintro e w2 ⟨rfl, hb2⟩
  have HG2 := hid (below_keep hb2 HG.out)
  have HB2 := hid (HB.out.trans (hb2.mono HB.out.size))
  clear hb2 HG HB CCK
  by_cases hc : chk g = true
  · have hcv : chkV g = 0 := by unfold chkV; rw [if_pos hc]
    rw [hcv]
    have HCK := hid hc
    have hsz := chk_size hc
    obtain ⟨R, hR⟩ : ∃ R : Nat, g.rows = R := ⟨g.rows.toNat, by omega⟩
    have HRR := hid hR
    have HC64 : Hid (R ≤ 64) := hid (by omega)
    have hr63 : (R : Int) ≤ 64 := by omega
    have HS0 : Hid (PN w w2 g a cap gb (.slice none 0 0) (List.range 0)) := hid ⟨HG2.out, ownsRow_nil _ _ _ _, HB2.out, HGB.out⟩
    clear hc hcv hsz hR HG2 HB2
    go_wp2
    go_loopw [5, 6] (fun v i wr => ∃ (r : Nat), r ≤ R ∧ i = .int .i64 r ∧ Hid (PN w wr g a cap gb v (List.range r))) (fun _ i _ => R - (intOf i).toNat)
    case atStart => exact ⟨0, by omega, rfl, HS0⟩
    case round =>
      clear HS0
      obtain ⟨r, hrR, rfl, HS⟩ := hrel
      obtain ⟨v0, hv0⟩ : ∃ v, v = u5 := ⟨_, rfl⟩
      subst hv0
      have hrl : (r : Int) ≤ 64 := by omega
      have g0 := HS.out.rowsC HRR.out
      by_cases hlt : r < R
      · have hri : (r : Int) < (R : Int) := by omega
        have HKA := hid ((Below.refl wr.heap.size wr).alloc (Nat.le_refl _) (.cells #[.int .i64 r] 3))
        have HSA := hid (HS.out.kept HKA.out)
        have HLL : Hid ((List.range r).length ≤ 64) := hid (by rw [List.length_range]; omega)
        have HSZ : Hid (gb + 1 ≤ wr.heap.size) := hid (heap_lt HS.out.gblk)
        obtain ⟨i1, hi1, hz10, hz11, hz12⟩ := info_parts info_intT
        -- L1
        go_wp2_with (at_builtin; refine wpList_append_own_at _ rfl _ _ 65 rfl (gb + 1) 3 i1 (.int .i64 0) 1 8 Tryz.underlying65 hi1 hz10 hz11 hz12 rfl (by decide) _ _ _ rfl HSA.out.num ⟨wr.heap.size, 0, none⟩ 1 1 [.int .i64 r] rfl rfl ?d1 ?d2 ?d3 ?d4 ?d5 ?_)
        try case d1 => exact cells_new _ _ _
        try case d2 => simp [Value.oneCell']
        case d3 => have := HLL.out; unfold maxLen; omega
        case d4 => have := HLL.out; omega
        case d5 => have := HSZ.out; first | omega | (simp only [alloc_size]; omega) | (simp; omega)
        intro v9 w10 hown9 hgrow9 _ _
        have HS10 := hid (HS.out.push (x := r) HKA.out (by rw [List.length_range]; exact hown9) hgrow9)
        clear hown9 hgrow9
        go_wp2
        go_roundw
        case rel => exact ⟨r + 1, by omega, by go_num, hid (by rw [List.range_succ]; exact HS10.out)⟩
        case measure => simp [intOf]; omega
        -- /L1
      · obtain rfl : r = R := by omega
        have hri : ¬ ((r : Int) < (r : Int)) := by omega
        have HN0 : Hid (NumOk g (List.range r)) := hid (by have := NumOk.start g; rwa [HRR.out, Int.toNat_natCast] at this)
        clear hlt hrR
        go_wp2
        go_loopw [7] (fun m wx => ∃ (N : List Nat) (b : Bool), m = .bool b ∧ Hid (PN w wx g a cap gb v0 N) ∧ Hid (NumOk g N) ∧ Hid (b = false → ∀ x ∈ g.es, ∀ y ∈ g.es, Calm N x y)) (fun m wx => moreM m (readSum wx v0 r))
        case atStart => exact ⟨List.range r, true, rfl, HS, HN0, hid (fun h => by cases h)⟩
        case round =>
          clear HS HN0 g0
          obtain ⟨N0, b, rfl, HS, HN, HCA⟩ := hrel
          have HL0 : Hid (N0.length = r) := hid (by rw [HN.out.len, HRR.out]; rfl)
          have HM0 : Hid (readSum wr v0 r = N0.sum) := hid (by rw [← HL0.out]; exact readSum_eq HS.out.num)
          cases b with
          | true =>
            clear HCA
            go_wp2
            go_loopw [7, 8] (fun m i wx => ∃ (k : Nat) (N : List Nat) (b : Bool), k ≤ g.es.length ∧ i = .int .i64 k ∧ m = .bool b ∧ Hid (PN w wx g a cap gb v0 N) ∧ Hid (NumOk g N) ∧ Hid (b = true → N.sum < N0.sum) ∧ Hid (b = false → N = N0 ∧ ∀ x ∈ g.es.take k, ∀ y ∈ g.es, Calm N x y)) (fun _ i _ => g.es.length - (intOf i).toNat)
            case atStart => exact ⟨0, N0, false, by omega, rfl, rfl, HS, HN, hid (fun h => by cases h), hid (fun _ => ⟨rfl, fun x hx => by simp at hx⟩)⟩
            case round =>
              clear HS HN
              obtain ⟨k, N, b, hk, rfl, rfl, HS, HN, HBT, HBF⟩ := hrel
              have hkl : (k : Int) ≤ 1048576 := by have := HES.out; omega
              have g2 := row_cell HS.out.gblk 2 _ rfl
              by_cases hlk : k < g.es.length
              · have hki : (k : Int) < (g.es.length : Int) := by omega
                obtain ⟨x, hx⟩ : ∃ x, g.es[k]? = some x := ⟨g.es[k], by simp [hlk]⟩
                have HX := hid hx
                have HBF1 : Hid (b = false → N = N0 ∧ (∀ x' ∈ g.es.take k, ∀ y ∈ g.es, Calm N x' y) ∧ ∀ y ∈ g.es.take 0, Calm N x y) := hid (fun hb => ⟨(HBF.out hb).1, (HBF.out hb).2, fun y hy => by simp at hy⟩)
                obtain ⟨xr, xc, e1, e2, e3, e4, e5, e6⟩ := edge_ok HCK.out (List.mem_of_getElem? hx)
                have HXR := hid e1
                have HXRR : Hid (xr < r) := hid (by have := HRR.out; omega)
                clear hx e1 e2 e3 e4 HBF
                go_wp2
                go_loopw [7, 9] (fun m i wx => ∃ (j : Nat) (N : List Nat) (b : Bool), j ≤ g.es.length ∧ i = .int .i64 j ∧ m = .bool b ∧ Hid (PN w wx g a cap gb v0 N) ∧ Hid (NumOk g N) ∧ Hid (b = true → N.sum < N0.sum) ∧ Hid (b = false → N = N0 ∧ (∀ x' ∈ g.es.take k, ∀ y ∈ g.es, Calm N x' y) ∧ ∀ y ∈ g.es.take j, Calm N x y)) (fun _ i _ => g.es.length - (intOf i).toNat)
                case atStart => exact ⟨0, N, b, by omega, rfl, rfl, HS, HN, HBT, HBF1⟩
                case round =>
                  clear HS HN HBT HBF1
                  obtain ⟨j, N, b, hj, rfl, rfl, HS, HN, HBT, HBF⟩ := hrel
                  have hjl : (j : Int) ≤ 1048576 := by have := HES.out; omega
                  have g2 := row_cell HS.out.gblk 2 _ rfl
                  by_cases hlj : j < g.es.length
                  · have hji : (j : Int) < (g.es.length : Int) := by omega
                    obtain ⟨y, hy⟩ : ∃ y, g.es[j]? = some y := ⟨g.es[j], by simp [hlj]⟩
                    have HY := hid hy
                    obtain ⟨yr, yc, e1, e2, e3, e4, _, _⟩ := edge_ok HCK.out (List.mem_of_getElem? hy)
                    have HYR := hid e1
                    have HYRR : Hid (yr < r) := hid (by have := HRR.out; omega)
                    obtain ⟨gg, o, haa, _, hcx⟩ := (HR.out.kept HS.out.below).get HX.out
                    subst haa
                    obtain ⟨gg2, o2, haa, _, hcy⟩ := (HR.out.kept HS.out.below).get hy
                    cases haa
                    rw [Nat.mul_comm] at hcx hcy
                    obtain ⟨zx, hzx⟩ : ∃ z, z = x.c := ⟨_, rfl⟩
                    obtain ⟨zy, hzy⟩ : ∃ z, z = y.c := ⟨_, rfl⟩
                    have x0 : wr.cell? ⟨gg, o + k * 3, none⟩ = some (.int .i64 (xr : Int)) := by rw [← HXR.out]; exact hcx 0 _ rfl
                    have x1 : wr.cell? ⟨gg, o + k * 3 + 1, none⟩ = some (.int .i64 zx) := by rw [hzx]; exact hcx 1 _ rfl
                    have y0 : wr.cell? ⟨gg, o + j * 3, none⟩ = some (.int .i64 (yr : Int)) := by rw [← e1]; exact hcy 0 _ rfl
                    have y1 : wr.cell? ⟨gg, o + j * 3 + 1, none⟩ = some (.int .i64 zy) := by rw [hzy]; exact hcy 1 _ rfl
                    have HZ := hid (And.intro hzx hzy)
                    have HNL : Hid (N.length = r) := hid (by rw [HN.out.len, HRR.out]; rfl)
                    obtain ⟨gn, cn, hnv⟩ := ownsRow_form' HS.out.num (by rw [HNL.out]; have := HXRR.out; omega)
                    obtain ⟨na, hna⟩ : ∃ n, N[xr]? = some n := ⟨N[xr]'(by rw [HNL.out]; exact HXRR.out), by simp [HNL.out, HXRR.out]⟩
                    obtain ⟨nb, hnb⟩ : ∃ n, N[yr]? = some n := ⟨N[yr]'(by rw [HNL.out]; exact HYRR.out), by simp [HNL.out, HYRR.out]⟩
                    have HNA := hid hna
                    have HNB := hid hnb
                    have hxri : (xr : Int) < (r : Int) := by have := HXRR.out; omega
                    have hyri : (yr : Int) < (r : Int) := by have := HYRR.out; omega
                    have HTK : Hid (∀ M : List Nat, (∀ y' ∈ g.es.take j, Calm M x y') → Calm M x y → ∀ y' ∈ g.es.take (j + 1), Calm M x y') := hid (fun M h1 h2 y' hy' => by
                      obtain ⟨t1, t2⟩ := List.getElem?_eq_some_iff.1 HY.out
                      rw [List.take_succ_eq_append_getElem t1, t2, List.mem_append] at hy'
                      rcases hy' with h3 | h3
                      · exact h1 y' h3
                      · have : y' = y := by simpa using h3
                        rw [this]; exact h2)
                    have HLE : Hid (na ≤ 64 ∧ nb ≤ 64) := hid ⟨by have := HN.out.le xr na hna; have := HXRR.out; have := HC64.out; omega, by have := HN.out.le yr nb hnb; have := HYRR.out; have := HC64.out; omega⟩
                    have hna63 : (na : Int) ≤ 64 := by have := HLE.out; omega
                    have hnb63 : (nb : Int) ≤ 64 := by have := HLE.out; omega
                    rw [HNL.out] at hnv
                    subst hnv
                    have HSv := hid HS.out
                    have n0 : wr.cell? ⟨gn, xr, none⟩ = some (.int .i64 (na : Int)) := by
                      have h1 := HSv.out.num
                      rw [HNL.out] at h1
                      rw [h1.cellAt xr (by have := HXRR.out; omega)]; exact intV_get (nats_get hna)
                    have n1 : wr.cell? ⟨gn, yr, none⟩ = some (.int .i64 (nb : Int)) := by
                      have h1 := HSv.out.num
                      rw [HNL.out] at h1
                      rw [h1.cellAt yr (by have := HYRR.out; omega)]; exact intV_get (nats_get hnb)
                    have n2 : wr.frozen? ⟨gn, yr, none⟩ = false := by
                      have h1 := HSv.out.num
                      rw [HNL.out] at h1
                      exact h1.frozenAt yr
                    clear hy hcx hcy hzx hzy hna hnb e1 e2 e3 e4
                    by_cases hcc : zx = zy
                    · have HCC : Hid (x.c = y.c) := hid (by rw [← HZ.out.1, ← HZ.out.2, hcc])
                      have hcc' : (zx == zy) = true := by simpa using hcc
                      clear hcc
                      by_cases hab : na < nb
                      · have habi : (na : Int) < (nb : Int) := by omega
                        obtain ⟨hok2, hsum⟩ := HN.out.set HCK.out (List.mem_of_getElem? HX.out) (List.mem_of_getElem? HY.out) HCC.out HXR.out HYR.out HNA.out HNB.out hab
                        have HN2 := hid hok2
                        have HSU := hid hsum
                        clear hok2 hsum
                        -- L2
                        have HST := hid (fun w' (hb : Below wr.heap.size wr w') => (HS.out.kept hb))
                        go_upto_region 18 with fail
                        go_quiet (fail)
                        go_wp2
                        have HSq := hid (HSv.out.kept (kp_dn wr nq))
                        have q0 := cell_dn nq x0
                        have q1 := cell_dn nq y0
                        have q2 := cell_dn nq g2
                        have q3 := cell_dn nq n0
                        have q4 := cell_dn nq n1
                        have q5 : (wr.drewN nq).frozen? ⟨gn, yr, none⟩ = false := n2
                        have HFIN := hid (HSq.out.store HNL.out yr na)
                        clear HSq x0 x1 y0 y1 n0 n1 n2 g2 HSv
                        generalize wr.drewN nq = wq at *
                        go_upto_region 19 with fail
                        go_region
                        all_goals go_wp2
                        go_roundw
                        case rel => exact ⟨j + 1, N.set yr na, true, by omega, by go_num, rfl, hid (HFIN.out.kept ((Below.refl _ _).drew)), HN2, hid (fun _ => by
                          have h1 := HSU.out
                          cases b with
                          | true => have := HBT.out rfl; omega
                          | false => rw [(HBF.out rfl).1] at h1 ⊢; exact h1), hid (fun h => by cases h)⟩
                        case measure => simp [intOf]; omega
                        -- /L2
                      · have habi : ¬ (na : Int) < (nb : Int) := by omega
                        have HCALM : Hid (Calm N x y) := hid (fun _ r1 q1 a1 b1 h1 h2 h3 h4 h5 => by
                          have t1 : r1 = xr := by have := HXR.out; omega
                          have t2 : q1 = yr := by have := HYR.out; omega
                          subst t1; subst t2
                          rw [HNA.out] at h3
                          rw [HNB.out] at h4
                          cases h3; cases h4
                          exact hab h5)
                        -- L3
                        go_wp2
                        go_quiet (fail)
                        go_wp2
                        go_roundw
                        case rel => exact ⟨j + 1, N, b, by omega, by go_num, rfl, hid (HS.out.kept (kp_dn _ _)), HN, HBT, hid (fun hb => ⟨(HBF.out hb).1, (HBF.out hb).2.1, HTK.out N (HBF.out hb).2.2 HCALM.out⟩)⟩
                        case measure => simp [intOf]; omega
                        -- /L3
                    · have HCALM : Hid (Calm N x y) := hid (fun h => by rw [← HZ.out.1, ← HZ.out.2] at h; exact absurd h hcc)
                      have hcc' : (zx == zy) = false := by simpa using hcc
                      clear hcc
                      -- L4
                      go_wp2
                      go_quiet (fail)
                      go_wp2
                      go_roundw
                      case rel => exact ⟨j + 1, N, b, by omega, by go_num, rfl, hid (HS.out.kept (kp_dn _ _)), HN, HBT, hid (fun hb => ⟨(HBF.out hb).1, (HBF.out hb).2.1, HTK.out N (HBF.out hb).2.2 HCALM.out⟩)⟩
                      case measure => simp [intOf]; omega
                      -- /L4
                  · obtain rfl : j = g.es.length := by omega
                    have hji : ¬ ((g.es.length : Int) < (g.es.length : Int)) := by omega
                    have HTK : Hid (∀ M : List Nat, (∀ x' ∈ g.es.take k, ∀ y ∈ g.es, Calm M x' y) → (∀ y ∈ g.es, Calm M x y) → ∀ x' ∈ g.es.take (k + 1), ∀ y ∈ g.es, Calm M x' y) := hid (fun M h1 h2 x' hx' => by
                      obtain ⟨t1, t2⟩ := List.getElem?_eq_some_iff.1 HX.out
                      rw [List.take_succ_eq_append_getElem t1, t2, List.mem_append] at hx'
                      rcases hx' with h3 | h3
                      · exact h1 x' h3
                      · have : x' = x := by simpa using h3
                        rw [this]; exact h2)
                    rw [List.take_length] at HBF
                    -- L5
                    go_wp2
                    go_roundw
                    case rel => exact ⟨k + 1, N, b, by omega, by go_num, rfl, HS, HN, HBT, hid (fun hb => ⟨(HBF.out hb).1, HTK.out N (HBF.out hb).2.1 (HBF.out hb).2.2⟩)⟩
                    case measure => simp [intOf]; omega
                    -- /L5
              · obtain rfl : k = g.es.length := by omega
                have hki : ¬ ((g.es.length : Int) < (g.es.length : Int)) := by omega
                rw [List.take_length] at HBF
                have HM1 : Hid (readSum wr v0 r = N.sum) := hid (by
                  have : N.length = r := by rw [HN.out.len, HRR.out]; rfl
                  rw [← this]; exact readSum_eq HS.out.num)
                -- L6
                go_wp2
                go_roundw
                case rel => exact ⟨N, b, rfl, HS, HN, hid (fun hb => (HBF.out hb).2)⟩
                case measure =>
                  show moreM (.bool b) (readSum wr v0 r) < moreM (.bool true) _
                  rw [HM0.out, HM1.out]
                  cases b with
                  | true => have := HBT.out rfl; show N.sum + 1 < N0.sum + 1; omega
                  | false => show 0 < N0.sum + 1; omega
                -- /L6
          | false =>
            have HFX : Hid (∀ q, q < r → N0[q]? = some (rtG g q)) := hid (fun q hq => HN.out.fix HCK.out (HCA.out rfl) (by have := HRR.out; omega))
            have g0 := HS.out.rowsC HRR.out
            -- L7
            clear HN HCA HM0
            go_wp2
            go_loopw [10, 11] (fun v i wx => ∃ (q : Nat) (vs : List Value), q ≤ r ∧ i = .int .i64 q ∧ Hid (PN w wx g a cap gb v0 N0) ∧ Hid (LLs 65 3 wx w.heap.size v vs ((partsTo g q).map nats))) (fun _ i _ => r - (intOf i).toNat)
            case atStart => exact ⟨0, [], by omega, rfl, HS, hid (LLs.nil _ _)⟩
            case round =>
              clear HS g0
              obtain ⟨q, vs, hq, rfl, HS, HLL⟩ := hrel
              obtain ⟨LQ, hLQ⟩ : ∃ L, L = (partsTo g q).map nats := ⟨_, rfl⟩
              rw [← hLQ] at HLL
              have HLQ := hid hLQ
              clear hLQ
              obtain ⟨vo, hvo⟩ : ∃ v, v = u10 := ⟨_, rfl⟩
              subst hvo
              obtain ⟨wB, hwB⟩ : ∃ x, x = wr := ⟨_, rfl⟩
              subst hwB
              have hql : (q : Int) ≤ 64 := by omega
              have g0 := HS.out.rowsC HRR.out
              by_cases hlq : q < r
              · have hqi : (q : Int) < (r : Int) := by omega
                obtain ⟨gn, cn, hnv⟩ := ownsRow_form' HS.out.num (by rw [HL0.out]; omega)
                rw [HL0.out] at hnv
                subst hnv
                have HNUM : Hid (∀ x, x < r → wB.cell? ⟨gn, x, none⟩ = some (.int .i64 (rtG g x : Int))) := hid (fun x hx => by
                  have h1 := HS.out.num
                  rw [HL0.out] at h1
                  rw [h1.cellAt x (by omega)]; exact intV_get (nats_get (HFX.out x hx)))
                have HGN : Hid (gn < wB.heap.size) := hid (ownsRow_lt HS.out.num (g := gn) rfl)
                obtain ⟨t, ht⟩ : ∃ t, t = rtG g q := ⟨_, rfl⟩
                have n0 : wB.cell? ⟨gn, q, none⟩ = some (.int .i64 (t : Int)) := by rw [ht]; exact HNUM.out q hlq
                have HT := hid ht
                have htl : (t : Int) ≤ 64 := by have := rtG_le HCK.out q; omega
                clear ht
                by_cases htq : t = q
                · have HTQ : Hid (rtG g q = q) := hid (by rw [← HT.out]; exact htq)
                  subst t
                  go_wp2
                  go_loopw [12, 13] (fun v i wx => ∃ (m : Nat), q ≤ m ∧ m ≤ r ∧ i = .int .i64 m ∧ Hid (wx.ownsRow wB.heap.size 3 1 v (memTo g q m).length (intV (nats (memTo g q m)))) ∧ Hid (Below wB.heap.size wB wx)) (fun _ i _ => r - (intOf i).toNat)
                  case atStart => exact ⟨q, by omega, by omega, rfl, hid (by rw [memTo_start HCK.out]; exact ownsRow_nil _ _ _ _), hid (Below.refl _ _)⟩
                  case round =>
                    clear g0 n0
                    obtain ⟨m, hqm, hm, rfl, HOW, HBW⟩ := hrel
                    obtain ⟨vl, hvl⟩ : ∃ v, v = u12 := ⟨_, rfl⟩
                    subst hvl
                    have hml : (m : Int) ≤ 64 := by omega
                    have HSx := hid (HS.out.kept HBW.out)
                    have g0 := HSx.out.rowsC HRR.out
                    by_cases hlm : m < r
                    · have hmi : (m : Int) < (r : Int) := by omega
                      obtain ⟨z, hz⟩ : ∃ z, z = rtG g m := ⟨_, rfl⟩
                      have n0 : wr.cell? ⟨gn, m, none⟩ = some (.int .i64 (z : Int)) := by rw [hz]; exact (cell_same (HBW.out.block gn HGN.out)).trans (HNUM.out m hlm)
                      have hzl : (z : Int) ≤ 64 := by have := rtG_le HCK.out m; omega
                      have HZ := hid hz
                      clear hz
                      by_cases hzq : z = q
                      · have HZQ : Hid (rtG g m = q) := hid (by rw [← HZ.out]; exact hzq)
                        subst z
                        have HKA := hid ((Below.refl wr.heap.size wr).alloc (Nat.le_refl _) (.cells #[.int .i64 m] 3))
                        have HOA := hid (ownsRow_other HOW.out fun b hb => HKA.out.block b (ownsRow_lt HOW.out hb))
                        have HLN : Hid ((memTo g q m).length ≤ 64) := hid (by have := memTo_len g q m; omega)
                        have HSZ : Hid (wB.heap.size ≤ wr.heap.size) := hid HBW.out.size
                        obtain ⟨i1, hi1, hz10, hz11, hz12⟩ := info_parts info_intT
                        go_wp2_with (at_builtin; refine wpList_append_own_at _ rfl _ _ 65 rfl wB.heap.size 3 i1 (.int .i64 0) 1 8 Tryz.underlying65 hi1 hz10 hz11 hz12 rfl (by decide) _ _ _ rfl HOA.out ⟨wr.heap.size, 0, none⟩ 1 1 [.int .i64 m] rfl rfl ?d1 ?d2 ?d3 ?d4 ?d5 ?_)
                        try case d1 => exact cells_new _ _ _
                        try case d2 => simp [Value.oneCell']
                        case d3 => have := HLN.out; unfold maxLen; omega
                        case d4 => have := HLN.out; omega
                        case d5 => have := HSZ.out; first | omega | (simp only [alloc_size]; omega) | (simp; omega)
                        intro v9 w10 hown9 hgrow9 _ _
                        have HOW9 : Hid (w10.ownsRow wB.heap.size 3 1 v9 (memTo g q (m + 1)).length (intV (nats (memTo g q (m + 1))))) := hid (by rw [memTo_yes HZQ.out, natsV_snoc, List.length_append]; exact hown9)
                        have HBW9 : Hid (Below wB.heap.size wB w10) := hid ((HBW.out.trans (HKA.out.mono HBW.out.size)).grown hgrow9 (Nat.le_trans HBW.out.size HKA.out.size) fun b hb => ownsRow_block HOA.out b hb)
                        clear hown9 hgrow9
                        go_wp2
                        go_roundw
                        case rel => exact ⟨m + 1, by omega, by omega, by go_num, HOW9, HBW9⟩
                        case measure => simp [intOf]; omega
                      · have HZQ : Hid (rtG g m ≠ q) := hid (by rw [← HZ.out]; exact hzq)
                        have hzi : ((z : Int) == (q : Int)) = false := by simp; omega
                        clear hzq
                        go_wp2
                        go_roundw
                        case rel => exact ⟨m + 1, by omega, by omega, by go_num, hid (by rw [memTo_no HZQ.out]; exact HOW.out), HBW⟩
                        case measure => simp [intOf]; omega
                    · obtain rfl : m = r := by omega
                      have hmi : ¬ ((m : Int) < (m : Int)) := by omega
                      obtain ⟨Al, cl, hvl⟩ := ownsRow_shape HOW.out
                      subst hvl
                      have HKA := hid ((Below.refl wr.heap.size wr).alloc (Nat.le_refl _) (.cells #[.slice Al (memTo g q m).length cl] 65))
                      have HLA := hid (HLL.out.below (HBW.out.trans (HKA.out.mono HBW.out.size)))
                      have HOA := hid (ownsRow_other HOW.out fun b hb => HKA.out.block b (ownsRow_lt HOW.out hb))
                      have HSA := hid (HSx.out.kept HKA.out)
                      have HLN : Hid (LQ.length ≤ 64) := hid (by rw [HLQ.out, List.length_map]; have := partsTo_len g q; omega)
                      have HSZ : Hid (w.heap.size ≤ wr.heap.size) := hid HSx.out.below.size
                      have HVL : Hid ((Value.slice Al (memTo g q m).length cl).oneCell' = true) := hid rfl
                      have HAP : Hid (∀ (i : Nat) (u2 : Value) (b : Nat), vs[i]? = some u2 → u2.ownBlock = some b → (Value.slice Al (memTo g q m).length cl).ownBlock ≠ some b) := hid (fun i u2 b h1 h2 h3 => by
                        have h4 := ownsRow_block HOW.out b h3
                        obtain ⟨l2, hl2⟩ : ∃ l2, LQ[i]? = some l2 := ⟨_, List.getElem?_eq_getElem (by have := (List.getElem?_eq_some_iff.1 h1).1; rw [HLL.out.length] at this; exact this)⟩
                        obtain ⟨u3, h5, h6⟩ := HLL.out.each i l2 hl2
                        rw [h1] at h5; cases h5
                        have := ownsRow_lt h6 h2
                        omega)
                      obtain ⟨i1, hi1, hz10, hz11, hz12⟩ := info_parts info_ints
                      go_wp2_with (at_builtin; refine wpList_append_own_at _ rfl _ _ 27 rfl w.heap.size 65 i1 (.slice none 0 0) 1 24 Tryz.underlying27 hi1 hz10 hz11 hz12 rfl (by decide) _ _ _ rfl HLA.out.out ⟨wr.heap.size, 0, none⟩ 1 1 [.slice Al (memTo g q m).length cl] rfl rfl ?d1 ?d2 ?d3 ?d4 ?d5 ?_)
                      try case d1 => exact cells_new _ _ _
                      try case d2 => (have := HVL.out; simpa using this)
                      case d3 => have := HLN.out; unfold maxLen; omega
                      case d4 => have := HLN.out; omega
                      case d5 => have := HSZ.out; first | omega | (simp only [alloc_size]; omega) | (simp; omega)
                      intro v9 w10 hown9 hgrow9 _ _
                      have HP9 := hid (HLA.out.pushL ints_ne (by rw [nats_len]; exact ownsRow_mono HOA.out HS.out.below.size) HAP.out hown9 hgrow9)
                      have HS9 : Hid (PN w w10 g a cap gb (.slice (some ⟨gn, 0, none⟩) m cn) N0) := hid (by
                        have hat := HS.out.at_
                        have far : ∀ b o, b = gb ∨ b = gn → (wr.alloc (.cells #[.slice Al (memTo g q m).length cl] 65)).heap[b]? = some o → w10.heap[b]? = some o := fun b o hb ho => by
                          rw [hgrow9.block b (heap_lt ho) fun e => ?_]; exact ho
                          obtain ⟨c, hc⟩ := ownsRow_type HLA.out.out e.symm
                          rcases hb with rfl | rfl
                          · rw [HSA.out.gblk] at hc; cases hc
                          · obtain ⟨c2, hc2⟩ := ownsRow_type HSA.out.num (g := b) rfl
                            rw [hc2] at hc; cases hc
                        refine ⟨far _ _ (.inl rfl) HSA.out.gblk, ownsRow_other HSA.out.num fun b hb => ?_, HSA.out.below.grown hgrow9 HSA.out.below.size fun b hb => ownsRow_block HLA.out.out b hb, hat⟩
                        obtain ⟨c, hc⟩ := ownsRow_type HSA.out.num hb
                        rw [hc]; cases hb
                        exact far _ _ (.inr rfl) hc)
                      clear hown9 hgrow9
                      go_wp2
                      go_roundw
                      case rel => exact ⟨q + 1, _, by omega, by go_num, HS9, hid (by rw [partsTo_yes HTQ.out, List.map_append, ← HLQ.out]; show LLs _ _ _ _ _ _ (LQ ++ [nats (memTo g q g.rows.toNat)]); rw [HRR.out]; exact HP9.out)⟩
                      case measure => simp [intOf]; omega
                · have HTQ : Hid (rtG g q ≠ q) := hid (by rw [← HT.out]; exact htq)
                  have hti : ((t : Int) == (q : Int)) = false := by simp; omega
                  clear htq
                  go_wp2
                  go_roundw
                  case rel => exact ⟨q + 1, vs, by omega, by go_num, HS, hid (by rw [partsTo_no HTQ.out, ← HLQ.out]; exact HLL.out)⟩
                  case measure => simp [intOf]; omega
              · obtain rfl : q = r := by omega
                have hqi : ¬ ((q : Int) < (q : Int)) := by omega
                have HCV : Hid (chkV g = 0) := hid (by unfold chkV; rw [if_pos HCK.out])
                go_wp2
                go_ret2
                exact ⟨_, vs, by rw [HCV.out]; rfl, by rw [if_pos HCK.out, ← partsTo_all, HRR.out, Int.toNat_natCast, ← HLQ.out]; exact HLL.out, HS.out.below⟩
            -- /L7
  · have hcv : chkV g = 170 := by unfold chkV; rw [if_neg hc]
    rw [hcv]
    have HCF : Hid (chk g = false) := hid (by simpa using hc)
    have HCV := hid hcv
    clear hc hcv
    -- L9
    go_wp2
    go_ret2
    exact ⟨.slice none 0 0, [], by rw [HCV.out]; rfl, by rw [if_neg (by rw [HCF.out]; simp)]; exact LLs.nil _ _, HB2.out⟩
    -- /L9
end Go.Proofs.YtjhomkdnhdhffaaGreat
