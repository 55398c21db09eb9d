/- The walk of cover.Most. -/
import Derived.Test.YtjhomkdnhdhffaaGreatBuildW
import Derived.Test.YtjhomkdnhdhffaaGreatMatT
namespace Go.Proofs.YtjhomkdnhdhffaaGreat
open Go.RowKit

theorem NetHas.grown {w w' : World} {p : Nat} {tos : List Value} {tl : List (List Nat)} {gone : List Bool} {row col : List Int} (h : NetHas w p tos tl gone row col) {base size n : Nat} {e : TypeId} {v : Value} {xs : List Value} (ho : w.ownsRow base e size v n xs) (hg : w.grownBy w' v.ownBlock) (h1 : (98 : TypeId) ≠ e) (h2 : (3 : TypeId) ≠ e) :
    NetHas w' p tos tl gone row col := by
  refine ⟨?_, ⟨h.tos.len, fun r l hl => ?_⟩⟩
  · unfold NetAt
    rw [hg.block p (heap_lt h.net) (row_apart h.net ho h1)]; exact h.net
  · obtain ⟨a, cap, h3, h4⟩ := h.tos.each r l hl
    refine ⟨a, cap, h3, ?_⟩
    rcases h4 with h4 | ⟨g, cs, fr, h4, h5, h6⟩
    · exact .inl h4
    · exact .inr ⟨g, cs, fr, h4, by rw [hg.block g (heap_lt h5) (row_apart h5 ho h2)]; exact h5, h6⟩
theorem NetOk.gone' {tl : List (List Nat)} {gone gone2 : List Bool} (h : NetOk tl gone) (hg : gone2.length = 64) : NetOk tl gone2 := ⟨h.len, h.cols, hg⟩
def pairV (l : List (Nat × Nat)) : List Value := l.flatMap fun p => [.int .i64 p.1, .int .i64 p.2]
theorem pairV_snoc (l : List (Nat × Nat)) (r c : Nat) : pairV (l ++ [(r, c)]) = pairV l ++ [.int .i64 r, .int .i64 c] := by simp [pairV]
theorem pairV_len (l : List (Nat × Nat)) : (pairV l).length = l.length * 2 := by
  unfold pairV
  induction l with
  | nil => rfl
  | cons a l ih => rw [List.flatMap_cons, List.length_append, ih]; simp; omega
/-- What Most has after n rows. -/
def mostAt (g : Gr) (n : Nat) : MSt := mostF (toOf g.es) (pairAll (toOf g.es) g.rows.toNat) n
def MostPost (w : World) (g : Gr) (e : Ending) (w' : World) : Prop :=
  Below w.heap.size w w' ∧
  ((chk g = false ∧ e = .returned (.tuple #[.slice none 0 0, .int .i64 170])) ∨
   (chk g = true ∧ ∃ v, e = .returned (.tuple #[v, .int .i64 0]) ∧ w'.ownsRow w.heap.size 100 2 v (mostAt g g.rows.toNat).l.length (pairV (mostAt g g.rows.toNat).l)))
theorem info_pairT : (Tryz.prog.info? 100).map (fun i => (i.zero, i.size, i.bytes)) = some (some (.agg #[.int .i64 0, .int .i64 0]), 2, 16) := by kernel_rfl
/-- The state of the walk: the net, the list so far. -/
structure MAt (w wr : World) (p : Nat) (tos : List Value) (tl : List (List Nat)) (s : MSt) (v : Value) : Prop where
  has : NetHas wr p tos tl s.gone s.row s.col
  ok : PairOk s.row s.col
  lenG : s.gone.length = 64
  own : wr.ownsRow w.heap.size 100 2 v s.l.length (pairV s.l)
  below : Below w.heap.size w wr
  hp : w.heap.size ≤ p
theorem MAt.netS {w wr : World} {p : Nat} {tos : List Value} {tl : List (List Nat)} {s : MSt} {v : Value} (h : MAt w wr p tos tl s v) : NetS wr wr p tos tl s.gone s.row s.col :=
  ⟨h.has, ⟨rfl, rfl, rfl, Nat.le_refl _, fun _ _ _ => rfl⟩, h.ok, h.lenG⟩
/-- What take leaves. -/
theorem MAt.taken {w wr w2 : World} {p : Nat} {tos : List Value} {tl : List (List Nat)} {s : MSt} {v : Value} (h : MAt w wr p tos tl s v) {gone : List Bool} {row col : List Int} (t : NetS wr w2 p tos tl gone row col) : MAt w w2 p tos tl ⟨s.l, row, col, gone⟩ v :=
  ⟨t.has, t.ok, t.lenG, ownsRow_other h.own fun g hg => t.grown.block g (ownsRow_lt h.own hg) fun e => row_apart h.has.net h.own (by decide) (by rw [hg]; exact e.symm), h.below.grown t.grown h.below.size (fun j hj => by cases hj; exact h.hp), h.hp⟩
theorem MAt.world {w wr w2 : World} {p : Nat} {tos : List Value} {tl : List (List Nat)} {s : MSt} {v : Value} (h : MAt w wr p tos tl s v) (hb : Below wr.heap.size wr w2) : MAt w w2 p tos tl s v :=
  ⟨h.has.kept hb, h.ok, h.lenG, ownsRow_other h.own fun g hg => hb.block g (ownsRow_lt h.own hg), h.below.trans (hb.mono h.below.size), h.hp⟩
/-- A column is gone. -/
theorem MAt.setGone {w wr : World} {p : Nat} {tos : List Value} {tl : List (List Nat)} {s : MSt} {v : Value} (h : MAt w wr p tos tl s v) (c : Nat) : MAt w (wr.setCell ⟨p, 256 + c, none⟩ (.bool true)) p tos tl ⟨s.l, s.row, s.col, s.gone.set c true⟩ v :=
  h.taken (h.netS.setGone c true)
/-- A pair more. -/
theorem MAt.push {w wr w2 : World} {p : Nat} {tos : List Value} {tl : List (List Nat)} {s : MSt} {v v2 : Value} (h : MAt w wr p tos tl s v) (r c : Nat) (o : Obj) (ho : w2.ownsRow w.heap.size 100 2 v2 (s.l.length + 1) (pairV s.l ++ [.int .i64 r, .int .i64 c])) (hg : (wr.alloc o).grownBy w2 v.ownBlock) : MAt w w2 p tos tl ⟨s.l ++ [(r, c)], s.row, s.col, s.gone⟩ v2 := by
  have h1 := h.world ((Below.refl _ _).alloc (Nat.le_refl _) o)
  refine ⟨h1.has.grown h1.own hg (by decide) (by decide), h.ok, h.lenG, ?_, h1.below.grown hg h1.below.size (ownsRow_block h1.own), h.hp⟩
  rw [pairV_snoc, List.length_append]
  exact ho

theorem mostAt_succ (g : Gr) (n : Nat) : mostAt g (n + 1) = ⟨(mostAt g n).l ++ (match (mostL (toOf g.es) n ((toOf g.es)[n]?.getD []) (mostAt g n).row (mostAt g n).col (mostAt g n).gone).1 with | none => [] | some c => [(n, c)]),
    (mostL (toOf g.es) n ((toOf g.es)[n]?.getD []) (mostAt g n).row (mostAt g n).col (mostAt g n).gone).2.1, (mostL (toOf g.es) n ((toOf g.es)[n]?.getD []) (mostAt g n).row (mostAt g n).col (mostAt g n).gone).2.2.1, (mostL (toOf g.es) n ((toOf g.es)[n]?.getD []) (mostAt g n).row (mostAt g n).col (mostAt g n).gone).2.2.2⟩ := rfl

theorem mostAt_len (g : Gr) : ∀ n, (mostAt g n).l.length ≤ n
  | 0 => by simp [mostAt, mostF]
  | n + 1 => by
    have := mostAt_len g n
    rw [mostAt_succ]
    simp only [List.length_append]
    split <;> simp <;> omega

set_option maxRecDepth 100000 in
set_option maxHeartbeats 20000000 in
theorem most_any (g : Gr) (a : Option Addr) (cap : Nat) (hok : GrOk g cap) (w : World) (hr : RowsAt 3 edV w a g.es) :
    Calls Tryz.prog 20 #[grV g a cap] w (MostPost w g) := by
  have CB := hid (fun w hr => build_any g a cap hok w hr)
  have HR := hid hr
  clear hok hr
  unfold grV at *
  go_enter Tryz.func20, Tryz.ntmps20
  go_wp2_with (refine wpList_load_w rfl 24 _ rfl _ rfl _ _ _ _ (heap_alloc_new _ _) Tryz.underlying24 rfl (info_gr) ?_)
  refine (CB.out _ (HR.out.alloc _)).mono ?_
  rintro e w1 (⟨hc, rfl, hb1⟩ | ⟨hc, p, tos, rfl, hp, hb1, hnh, hpo⟩)
  · have HW1 : Hid (Below w.heap.size w w1) := hid (((Below.refl _ _).alloc (Nat.le_refl _) _).trans (hb1.mono (by simp)))
    have HC := hid hc
    clear hb1 hc
    go_wp2
    go_ret2
    exact ⟨HW1.out, .inl ⟨HC.out, rfl⟩⟩
  · have HG1 := hid (below_keep hb1 (heap_alloc_new _ _))
    have HW1 : Hid (Below w.heap.size w w1) := hid (((Below.refl _ _).alloc (Nat.le_refl _) _).trans (hb1.mono (by simp)))
    have HC := hid hc
    have hsz := chk_size hc
    obtain ⟨R, hR⟩ := Int.eq_ofNat_of_zero_le hsz.1
    have hR64 : R ≤ 64 := by omega
    have HRR : Hid (g.rows.toNat = R) := hid (by rw [hR]; rfl)
    have HOKN := hid (toOf_ok hc)
    have cg : w1.cell? ⟨w.heap.size, 0, none⟩ = some (.int .i64 R) := by rw [← hR]; exact row_cell HG1.out 0 _ rfl
    have HM0 : Hid (MAt w w1 p tos (toOf g.es) (mostAt g 0) (.slice none 0 0)) := hid ⟨hnh, hpo, by simp [mostAt, mostF, noMarks], by exact ownsRow_nil _ _ _ _, HW1.out, by rw [alloc_size] at hp; omega⟩
    clear hR hsz hb1 hc hnh hpo hp
    go_wp2
    clear cg
    go_loopw [6, 7, 9, 20] (fun v _ _ i wr => ∃ k : Nat, k ≤ R ∧ i = .int .i64 k ∧ Hid (MAt w wr p tos (toOf g.es) (mostAt g k) v)) (fun _ _ _ i _ => R - (intOf i).toNat)
    case atStart => exact ⟨0, by omega, rfl, HM0⟩
    case round =>
      clear HM0 HG1 HW1
      obtain ⟨k, hk, rfl, HM⟩ := hrel
      by_cases hlt : k < R
      · have hk64 : k < 64 := by omega
        have hki : (k : Int) < 64 := by omega
        obtain ⟨l, hl⟩ : ∃ l, (toOf g.es)[k]? = some l := ⟨_, toOf_get _ hk64⟩
        have HLC := hid (HOKN.out.cols k l hl)
        have HSU : Hid (mostAt g (k + 1) = ⟨(mostAt g k).l ++ (match (mostL (toOf g.es) k l (mostAt g k).row (mostAt g k).col (mostAt g k).gone).1 with | none => [] | some c => [(k, c)]),
          (mostL (toOf g.es) k l (mostAt g k).row (mostAt g k).col (mostAt g k).gone).2.1, (mostL (toOf g.es) k l (mostAt g k).row (mostAt g k).col (mostAt g k).gone).2.2.1, (mostL (toOf g.es) k l (mostAt g k).row (mostAt g k).col (mostAt g k).gone).2.2.2⟩) := hid (by rw [mostAt_succ, hl]; rfl)
        obtain ⟨a1, cap1, hta, hcols⟩ := HM.out.has.tos.each k l hl
        have HCO := hid hcols
        have ct := HM.out.has.net.cellTo HM.out.has.tos.len hk64 hta
        have hl64 : l.length ≤ 64 := HLC.out.2
        have HLK := hid hl
        have HTA := hid hta
        clear hl hta hcols
        have HSLK : Hid ((mostAt g k).l.length ≤ k) := hid (mostAt_len g k)
        generalize mostAt g k = s at *
        go_wp2
        clear ct
        have HT0 : Hid (mostL (toOf g.es) k l s.row s.col s.gone = mostL (toOf g.es) k (l.drop 0) s.row s.col s.gone) := hid rfl
        have HM1 : Hid (MAt w wr p tos (toOf g.es) ⟨s.l, s.row, s.col, s.gone⟩ u6) := HM
        have HSL : Hid (s.l.length ≤ k) := HSLK
        clear HM HSLK
        go_loopw [6, 9, 30] (fun v' _ i wr => ∃ (j : Nat) (row col : List Int), j ≤ l.length ∧ i = .int .i64 j ∧ v' = u6 ∧ Hid (MAt w wr p tos (toOf g.es) ⟨s.l, row, col, s.gone⟩ u6) ∧ Hid (mostL (toOf g.es) k l s.row s.col s.gone = mostL (toOf g.es) k (l.drop j) row col s.gone)) (fun _ _ i _ => l.length - (intOf i).toNat)
        case atStart => exact ⟨0, s.row, s.col, by omega, rfl, rfl, HM1, HT0⟩
        case round =>
          clear HT0 HM1
          obtain ⟨j, row, col, hj, rfl, rfl, HM, HT⟩ := hrel
          by_cases hlt : j < l.length
          · obtain ⟨c, hc⟩ : ∃ c, l[j]? = some c := ⟨l[j], by simp [hlt]⟩
            have hc64 : c < 64 := HLC.out.1 c (List.mem_of_getElem? hc)
            have hci : (c : Int) < 64 := by omega
            have HD : Hid (l.drop j = c :: l.drop (j + 1)) := hid (by obtain ⟨h1, h2⟩ := List.getElem?_eq_some_iff.1 hc; rw [List.drop_eq_getElem_cons h1, h2])
            obtain ⟨ga, cs, fr, rfl, hrow, hcell⟩ : ∃ ga cs fr, a1 = some ⟨ga, 0, none⟩ ∧ wr.heap[ga]? = some (.cells cs 3 fr) ∧ ∀ (i n : Nat), l[i]? = some n → cs[i]? = some (.int .i64 n) := by
              obtain ⟨a2, cap2, h1, h2⟩ := HM.out.has.tos.each k l HLK.out
              rw [HTA.out] at h1
              cases h1
              rcases h2 with h2 | ⟨ga, cs, fr, h2, h3, h4⟩
              · rw [h2] at hlt; simp at hlt
              · exact ⟨ga, cs, fr, h2, h3, h4⟩
            have cc : wr.cell? ⟨ga, j, none⟩ = some (.int .i64 c) := row_cell hrow j _ (hcell j c hc)
            have cr := HM.out.has.net.cellRow HM.out.has.tos.len (k := k) (by rw [HM.out.ok.rowL]; exact hk64)
            have cg := HM.out.has.net.cellGone HM.out.has.tos.len HM.out.ok.rowL HM.out.ok.colL (k := c) (by rw [HM.out.lenG]; exact hc64)
            have fg := free_row HM.out.has.net (256 + c)
            simp only at cr cg
            clear hc hrow hcell
            cases hg : getB s.gone c with
            | true =>
              rw [hg] at cg
              have HN : Hid (mostL (toOf g.es) k l s.row s.col s.gone = mostL (toOf g.es) k (l.drop (j + 1)) row col s.gone) := hid (by rw [HT.out, HD.out, mostL.eq_2, if_pos hg])
              clear hg
              go_wp2
              go_roundw
              case rel => exact ⟨j + 1, row, col, by omega, by go_num, rfl, HM, HN⟩
              case measure => simp [intOf]; omega
            | false =>
              rw [hg] at cg
              by_cases hrc : getI row k = c
              · have hb : ((getI row k) == (c : Int)) = true := beq_iff_eq.2 hrc
                have HN : Hid (mostAt g (k + 1) = ⟨s.l ++ [(k, c)], row, col, s.gone.set c true⟩) := hid (by rw [HSU.out, HT.out, HD.out, mostL.eq_2, if_neg (by rw [hg]; simp), if_pos hrc])
                have HRC := hid hrc
                have HG := hid hg
                clear hrc hg
                go_upto_region 14 with fail
                have HM3 := hid (HM.out.setGone c)
                generalize wr.setCell ⟨p, 256 + c, none⟩ (.bool true) = w3 at *
                clear cc cr cg fg hb
                obtain ⟨i1, hi1, hz10, hz11, hz12⟩ := info_parts info_pairT
                have hlen64 : s.l.length ≤ 64 := by have := HSL.out; omega
                have HSZ : Hid (w.heap.size ≤ w3.heap.size) := hid HM3.out.below.size
                have HOWN : Hid ((w3.alloc (.cells #[.int .i64 k, .int .i64 c] 100)).ownsRow w.heap.size 100 2 u6 s.l.length (pairV s.l)) := hid (HM3.out.world ((Below.refl _ _).alloc (Nat.le_refl _) _)).own
                go_wp2_with (at_builtin; refine wpList_append_own_at _ rfl _ _ 70 rfl w.heap.size 100 i1 (.agg #[.int .i64 0, .int .i64 0]) 2 16 Tryz.underlying70 hi1 hz10 hz11 hz12 rfl (by decide) _ _ _ rfl HOWN.out ⟨w3.heap.size, 0, none⟩ 1 1 [.int .i64 k, .int .i64 c] rfl rfl ?d1 ?d2 ?d3 ?d4 ?d5 ?_)
                try case d1 => exact cells_new _ _ _
                case d2 => simp [Value.oneCell']
                case d3 => unfold maxLen; omega
                case d4 => omega
                case d5 => have := HSZ.out; omega
                intro v5 w5 hown5 hgrow5 _ _
                have HM5 := hid (HM3.out.push k c _ hown5 hgrow5)
                clear hown5 hgrow5
                go_wp2
                go_roundw
                case rel => exact ⟨k + 1, by omega, by go_num, hid (by rw [HN.out]; exact HM5.out)⟩
                case measure => simp [intOf]; omega
              · have hb : ((getI row k) == (c : Int)) = false := beq_eq_false_iff_ne.2 hrc
                have TK := hid (take_any p tos (toOf g.es) s.gone (HOKN.out.gone' HM.out.lenG) row col k c hk64 hc64 wr wr HM.out.netS hg)
                have HTK : Hid (mostL (toOf g.es) k l s.row s.col s.gone = if (takeF (toOf g.es) s.gone row col k c).1 = true then (some c, (takeF (toOf g.es) s.gone row col k c).2.1, (takeF (toOf g.es) s.gone row col k c).2.2, s.gone.set c true) else mostL (toOf g.es) k (l.drop (j + 1)) (takeF (toOf g.es) s.gone row col k c).2.1 (takeF (toOf g.es) s.gone row col k c).2.2 s.gone) := hid (by rw [HT.out, HD.out, mostL.eq_2, if_neg (by rw [hg]; simp), if_neg hrc])
                clear hrc hg
                obtain ⟨t, ht⟩ : ∃ t, t = takeF (toOf g.es) s.gone row col k c := ⟨_, rfl⟩
                rw [← ht] at TK HTK
                clear ht
                obtain ⟨tb, trow, tcol⟩ := t
                go_wp2_with fail
                refine TK.out.mono ?_
                rintro e w2 ⟨rfl, ht2⟩
                have HM2 := hid (HM.out.taken ht2)
                clear ht2 cc cr cg fg hb
                cases tb with
                | false =>
                  have HN : Hid (mostL (toOf g.es) k l s.row s.col s.gone = mostL (toOf g.es) k (l.drop (j + 1)) trow tcol s.gone) := hid HTK.out
                  go_wp2
                  go_roundw
                  case rel => exact ⟨j + 1, trow, tcol, by omega, by go_num, rfl, HM2, HN⟩
                  case measure => simp [intOf]; omega
                | true =>
                  have HN : Hid (mostAt g (k + 1) = ⟨s.l ++ [(k, c)], trow, tcol, s.gone.set c true⟩) := hid (by rw [HSU.out, HTK.out]; rfl)
                  have cg2 := HM2.out.has.net.cellGone HM2.out.has.tos.len HM2.out.ok.rowL HM2.out.ok.colL (k := c) (by rw [HM2.out.lenG]; exact hc64)
                  have fg2 := free_row HM2.out.has.net (256 + c)
                  simp only at cg2
                  go_upto_region 14 with fail
                  have HM3 := hid (HM2.out.setGone c)
                  generalize w2.setCell ⟨p, 256 + c, none⟩ (.bool true) = w3 at *
                  clear cg2 fg2
                  obtain ⟨i1, hi1, hz10, hz11, hz12⟩ := info_parts info_pairT
                  have hlen64 : s.l.length ≤ 64 := by have := HSL.out; omega
                  have HSZ : Hid (w.heap.size ≤ w3.heap.size) := hid HM3.out.below.size
                  have HOWN : Hid ((w3.alloc (.cells #[.int .i64 k, .int .i64 c] 100)).ownsRow w.heap.size 100 2 u6 s.l.length (pairV s.l)) := hid (HM3.out.world ((Below.refl _ _).alloc (Nat.le_refl _) _)).own
                  go_wp2_with (at_builtin; refine wpList_append_own_at _ rfl _ _ 70 rfl w.heap.size 100 i1 (.agg #[.int .i64 0, .int .i64 0]) 2 16 Tryz.underlying70 hi1 hz10 hz11 hz12 rfl (by decide) _ _ _ rfl HOWN.out ⟨w3.heap.size, 0, none⟩ 1 1 [.int .i64 k, .int .i64 c] rfl rfl ?e1 ?e2 ?e3 ?e4 ?e5 ?_)
                  try case e1 => exact cells_new _ _ _
                  case e2 => simp [Value.oneCell']
                  case e3 => unfold maxLen; omega
                  case e4 => omega
                  case e5 => have := HSZ.out; omega
                  intro v5 w5 hown5 hgrow5 _ _
                  have HM5 := hid (HM3.out.push k c _ hown5 hgrow5)
                  clear hown5 hgrow5
                  go_wp2
                  go_roundw
                  case rel => exact ⟨k + 1, by omega, by go_num, hid (by rw [HN.out]; exact HM5.out)⟩
                  case measure => simp [intOf]; omega
          · obtain rfl : j = l.length := by omega
            have HN : Hid (mostAt g (k + 1) = ⟨s.l, row, col, s.gone⟩) := hid (by rw [HSU.out, HT.out, List.drop_length]; simp [mostL])
            go_wp2
            go_roundw
            case rel => exact ⟨k + 1, by omega, by go_num, hid (by rw [HN.out]; exact HM.out)⟩
            case measure => simp [intOf]; omega
      · obtain rfl : k = R := by omega
        go_wp2
        go_ret2
        exact ⟨HM.out.below, .inr ⟨HC.out, _, rfl, by rw [HRR.out]; exact HM.out.own⟩⟩
end Go.Proofs.YtjhomkdnhdhffaaGreat
