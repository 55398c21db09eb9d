/- The walk of cover.build. -/
import Derived.Test.YtjhomkdnhdhffaaGreatTakeW
import Derived.Test.YtjhomkdnhdhffaaGreatBuildPl
import Derived.Deep.AppendLies
import Derived.Deep.RegionLaw
import Derived.Deep.Light
namespace Go.Proofs.YtjhomkdnhdhffaaGreat
open Go.RowKit

def toNil : List Value := List.replicate 64 (.slice none 0 0)
/-- A new net. (Where the program's own facts name it otherwise, that name is met by the kernel.) -/
def netZero : Array Value := (netL toNil (ftTo 0) (ftTo 0) noMarks).toArray
theorem netZero_ne : netZero ≠ #[] := by
  intro h
  have h2 : netZero.size = 320 := by kernel_rfl
  rw [h] at h2
  cases h2
theorem zeroValue_net (w : World) : Sem.run Tryz.prog (zeroValue 98) w = .ok (.agg netZero) w := by kernel_rfl
attribute [local go_sem] zeroValue_net
attribute [local simp] netZero_ne
theorem ftTo_len (k : Nat) : (ftTo k).length = 64 := by simp [ftTo]
def noGone : List Bool := noMarks
theorem toNil_len : toNil.length = 64 := List.length_replicate ..
theorem toNil_get {i : Nat} {u : Value} (h : toNil[i]? = some u) : u = .slice none 0 0 := by
  unfold toNil at h
  rw [List.getElem?_replicate] at h
  split at h
  · exact (Option.some.inj h).symm
  · cases h
theorem inn_start (w : World) (base : Nat) : Inn w base toNil (toOf []) := by
  refine ⟨by rw [toNil_len, toOf_len], fun i l hl => ?_, fun i j u u' g _ hi _ hu => ?_⟩
  · have hi : i < 64 := by have := (List.getElem?_eq_some_iff.1 hl).1; rwa [toOf_len] at this
    rw [toOf_get _ hi] at hl
    obtain rfl : l = [] := (Option.some.inj hl).symm
    exact ⟨.slice none 0 0, by unfold toNil; rw [List.getElem?_replicate, if_pos hi], ownsRow_nil _ _ _ _⟩
  · rw [toNil_get hi] at hu; cases hu

theorem inn_to {w : World} {base : Nat} {tos : List Value} {es : List Ed} (h : Inn w base tos (toOf es)) : ToAt w tos (toOf es) := by
  refine ⟨by rw [h.len, toOf_len], fun r l hl => ?_⟩
  obtain ⟨u, hu, ho⟩ := h.each r l hl
  obtain ⟨h1, ⟨h2, h3⟩ | ⟨g2, c2, cur, h2, h3, h4, h5, h6, h7, h8⟩⟩ := ho
  · refine ⟨none, 0, by rw [hu, h2, h3], .inl (List.length_eq_zero_iff.1 h3)⟩
  · refine ⟨_, c2, by rw [hu, h2], .inr ⟨g2, cur, (0, 0), rfl, h4, fun i n hn => ?_⟩⟩
    have hin : i < l.length := (List.getElem?_eq_some_iff.1 hn).1
    have : (cur.toList.take (l.length * 1))[i]? = (intV (nats l))[i]? := by rw [h8]
    rw [List.getElem?_take, if_pos (by omega)] at this
    rw [← Array.getElem?_toList, this]
    simp [intV, nats, hn]
theorem none64_at (i : Nat) (x : Int) (h : none64[i]? = some x) : x = -1 := by
  unfold none64 at h
  rw [List.getElem?_replicate] at h
  split at h
  · exact (Option.some.inj h).symm
  · cases h
theorem none64_ok : PairOk none64 none64 := ⟨List.length_replicate .., List.length_replicate .., fun i x h => .inl (none64_at i x h), fun i x h => .inl (none64_at i x h)⟩
theorem pairAll_ok {tl : List (List Nat)} (hok : NetOk tl noMarks) : ∀ n, n ≤ 64 → PairOk (pairAll tl n).1 (pairAll tl n).2
  | 0, _ => none64_ok
  | n + 1, h => placeF_ok hok (pairAll_ok hok n (by omega)) (by omega) _
/-- A row's columns grow by one: the append, and the store of what it made into the net. -/
theorem build_grow {w w3 : World} {p r c : Nat} {tos : List Value} {L : List (List Nat)} {l : List Nat} {row col : List Int} {gone : List Bool} {u : Value}
    (hi : Inn w3 w.heap.size tos L) (hn : NetAt w3 p tos row col gone) (hb : Below w.heap.size w w3) (hl : L[r]? = some l) (hu : tos[r]? = some u) (hr : r < 64) (ht : tos.length = 64) (hp : w.heap.size ≤ p) :
    ∀ W : World, W.heap = (w3.alloc (.cells #[.int .i64 c] 3)).heap → Below w3.heap.size w3 W → ∀ (gu ucap : Nat) (w4 : World), w4.ownsRow w.heap.size 3 1 (.slice (some ⟨gu, 0, none⟩) (l.length + 1) ucap) (l.length + 1) (intV (nats l) ++ [.int .i64 c]) →
      W.grownBy w4 u.ownBlock → (u.ownBlock = some gu ∨ gu = w3.heap.size + 1) →
      (Inn (w4.setCell ⟨p, r, none⟩ (.slice (some ⟨gu, 0, none⟩) (l.length + 1) ucap)) w.heap.size (tos.set r (.slice (some ⟨gu, 0, none⟩) (l.length + 1) ucap)) (L.set r (l ++ [c])) ∧
        NetAt (w4.setCell ⟨p, r, none⟩ (.slice (some ⟨gu, 0, none⟩) (l.length + 1) ucap)) p (tos.set r (.slice (some ⟨gu, 0, none⟩) (l.length + 1) ucap)) row col gone ∧
        Below w.heap.size w (w4.setCell ⟨p, r, none⟩ (.slice (some ⟨gu, 0, none⟩) (l.length + 1) ucap))) ∧
      w4.cell? ⟨p, r, none⟩ = some u ∧ w4.frozen? ⟨p, r, none⟩ = false ∧ (∀ (b : Nat) (cs : Array Value) (T : TypeId) (fr : Nat × Nat), T ≠ 3 → w3.heap[b]? = some (.cells cs T fr) → w4.heap[b]? = some (.cells cs T fr)) := by
  intro W hW hbW gu ucap w4 hown hg hat
  have hiW : Inn W w.heap.size tos L := (hi.below ((Below.refl _ _).alloc (Nat.le_refl _) _)).same hW
  obtain ⟨u2, hu2, hoW⟩ := hiW.each r l hl
  rw [hu] at hu2; cases hu2
  have hsz : W.heap.size = w3.heap.size + 1 := by rw [hW, alloc_size]
  have hkeep : ∀ (b : Nat) (cs : Array Value) (T : TypeId) (fr : Nat × Nat), T ≠ 3 → w3.heap[b]? = some (.cells cs T fr) → w4.heap[b]? = some (.cells cs T fr) := by
    intro b cs T fr hT hbb
    have h1 : W.heap[b]? = some (.cells cs T fr) := by rw [hW]; exact alloc_keep hbb _
    rw [hg.block b (heap_lt h1) (row_apart h1 hoW hT)]; exact h1
  have hn4 : NetAt w4 p tos row col gone := hkeep p _ _ _ (by decide) hn
  have hB : Below w.heap.size w W := hb.trans (hbW.mono hb.size)
  have hB4 : Below w.heap.size w w4 := hB.grown hg hB.size (ownsRow_block hoW)
  refine ⟨⟨?_, hn4.setTo ht hr _, hB4.setCell hp _⟩, hn4.cellTo ht hr hu, free_row hn4 _, hkeep⟩
  refine (hiW.grow hl hu hown hg ?_).setCell hn4 (by decide) _ _
  rcases hat with h | h
  · exact .inl h.symm
  · right; rw [hsz, ← h]; rfl

/-- What build answers. -/
def BuildPost (w : World) (g : Gr) (e : Ending) (w' : World) : Prop :=
  (chk g = false ∧ e = .returned (.tuple #[.pointer none, .int .i64 170]) ∧ Below w.heap.size w w') ∨
  (chk g = true ∧ ∃ p tos, e = .returned (.tuple #[.pointer (some ⟨p, 0, none⟩), .int .i64 0]) ∧ w.heap.size ≤ p ∧ Below w.heap.size w w' ∧
    NetHas w' p tos (toOf g.es) noGone (pairAll (toOf g.es) g.rows.toNat).1 (pairAll (toOf g.es) g.rows.toNat).2 ∧ PairOk (pairAll (toOf g.es) g.rows.toNat).1 (pairAll (toOf g.es) g.rows.toNat).2)

set_option maxRecDepth 100000 in
set_option maxHeartbeats 20000000 in
theorem build_any (g : Gr) (a : Option Addr) (cap : Nat) (hok : GrOk g cap) (w : World) (hr : RowsAt 3 edV w a g.es) :
    Calls Tryz.prog 106 #[grV g a cap] w (BuildPost w g) := by
  have CC := hid (fun w hr => check_any g a cap hok w hr)
  have HOK := hid hok
  have HR := hid hr
  have hlen : g.es.length ≤ 9223372036854775807 := by have := hok.len; have := hok.cap; omega
  clear hok hr
  unfold grV at *
  go_enter Tryz.func106, Tryz.ntmps106
  go_wp2_with (refine wpList_load_w rfl 24 _ rfl _ rfl _ _ _ _ (heap_alloc_new _ _) Tryz.underlying24 rfl (info_gr) ?_)
  refine (CC.out _ (HR.out.alloc _)).mono ?_
  rintro e w1 ⟨rfl, hb1⟩
  have HG1 := hid (below_keep hb1 (heap_alloc_new _ _))
  have HW1 : Hid (Below w.heap.size w w1) := hid (((Below.refl _ _).alloc (Nat.le_refl _) _).trans (hb1.mono (by simp)))
  clear hb1
  by_cases hc : chk g = true
  · have HV : Hid (chkV g = 0) := hid (by unfold chkV; rw [if_pos hc])
    rw [HV.out]
    have HC0 := hid hc
    clear hc
    have hs1 : w.heap.size < w1.heap.size := heap_lt HG1.out
    go_upto_region 5 with fail
    refine at_world (fun w2 => NetAt w2 w1.heap.size toNil (ftTo 0) (ftTo 0) noMarks ∧ w2.heap[w.heap.size]? = some (.cells #[.int .i64 g.rows, .int .i64 g.cols, .slice a g.es.length cap] 24 (0, 0)) ∧ Below w.heap.size w w2) (w1.alloc (.cells (netL toNil (ftTo 0) (ftTo 0) noMarks).toArray 98)) ?_ ⟨heap_alloc_new _ _, alloc_keep HG1.out _, HW1.out.alloc HW1.out.size _⟩ ?_
    · first | rfl | (congr 2; kernel_rfl)
    rintro w2 ⟨hn0, hg2, hw2⟩
    have HN0 := hid hn0
    have HG2 := hid hg2
    have HW2 := hid hw2
    clear hn0 hg2 hw2
    generalize w1.heap.size = p at *
    clear HG1 HW1
    go_wp2
    go_loopw [6, 17] (fun _ i wr => ∃ k : Nat, k ≤ 64 ∧ i = .int .i64 k ∧ NetAt wr p toNil (ftTo k) (ftTo k) noMarks ∧
      wr.heap[w.heap.size]? = some (.cells #[.int .i64 g.rows, .int .i64 g.cols, .slice a g.es.length cap] 24 (0, 0)) ∧ Below w.heap.size w wr) (fun _ i _ => 64 - (intOf i).toNat)
    case atStart => exact ⟨0, by omega, rfl, HN0.out, HG2.out, HW2.out⟩
    case round =>
      clear HN0 HG2 HW2
      obtain ⟨k, hk, rfl, hn, hg, hbel⟩ := hrel
      have HN := hid hn
      have HG := hid hg
      have HW := hid hbel
      clear hn hg hbel
      by_cases hlt : k < 64
      · have hki : (k : Int) < 64 := by omega
        have c1 := HN.out.cellRow (by simp [toNil])  (by rw [ftTo_len]; exact hlt)
        have c2 := HN.out.cellCol (by simp [toNil]) (ftTo_len k)  (by rw [ftTo_len]; exact hlt)
        have f1 := free_row HN.out (64 + k)
        have f2 := free_row HN.out (128 + k)
        have m1 : 64 + k ≠ 128 + k := by omega
        have m2 : 128 + k ≠ 64 + k := by omega
        go_upto_region 8 with fail
        go_region
        all_goals go_wp2
        go_roundw
        case rel => exact ⟨k + 1, by omega, by go_num, by rw [← ftTo_set]; exact (NetAt.setRow (w := wr.drew) HN.out (by simp [toNil]) (ftTo_len k) hlt _).setCol (by simp [toNil]) (by simp [ftTo_len]) (ftTo_len k) hlt _, (show ((wr.setCell ⟨p, 64 + k, none⟩ (.int .i64 (-1))).setCell ⟨p, 128 + k, none⟩ (.int .i64 (-1))).heap[w.heap.size]? = _ by rw [heap_setCell_ne (by omega), heap_setCell_ne (by omega)]; exact HG.out), ((HW.out.setCell (by show w.heap.size ≤ p; omega) _).setCell (by show w.heap.size ≤ p; omega) _).drew⟩
        case measure => simp [intOf]; omega
      · obtain rfl : k = 64 := by omega
        have HN1 : Hid (NetAt wr p toNil none64 none64 noMarks) := hid (by have h := HN.out; rw [ftTo_end] at h; exact h)
        have HI1 : Hid (Inn wr w.heap.size toNil (toOf (g.es.take 0))) := hid (inn_start _ _)
        have cg : wr.cell? ⟨w.heap.size, 2, none⟩ = some (.slice a g.es.length cap) := row_cell HG.out 2 _ rfl
        go_wp2
        clear cg
        go_loopw [7, 8, 34] (fun _ _ i wr => ∃ (k : Nat) (tos : List Value), k ≤ g.es.length ∧ i = .int .i64 k ∧ Hid (Inn wr w.heap.size tos (toOf (g.es.take k))) ∧ Hid (NetAt wr p tos none64 none64 noMarks) ∧
          Hid (wr.heap[w.heap.size]? = some (.cells #[.int .i64 g.rows, .int .i64 g.cols, .slice a g.es.length cap] 24 (0, 0))) ∧ Hid (Below w.heap.size w wr)) (fun _ _ i _ => g.es.length - (intOf i).toNat)
        case atStart => exact ⟨0, toNil, by omega, rfl, HI1, HN1, HG, HW⟩
        case round =>
          clear HI1 HN1 HN HG HW
          obtain ⟨k, tos, hk, rfl, HI, HN, HG, HW⟩ := hrel
          by_cases hlt : k < g.es.length
          · -- L2
            obtain ⟨x, hx⟩ : ∃ x, g.es[k]? = some x := ⟨g.es[k], by simp [hlt]⟩
            obtain ⟨r, c, hxr, hxc, hr1, hc1, hr64, hc64⟩ := edge_ok HC0.out (List.mem_of_getElem? hx)
            obtain ⟨gg, o, rfl, hgg, hcc⟩ := (HR.out.kept HW.out).get hx
            have HC : Hid (CellsAt wr gg (o + k * 3) #[.int .i64 r, .int .i64 c, .int .i64 x.w]) := hid (by rw [Nat.mul_comm, ← hxr, ← hxc]; exact hcc)
            have HTK : Hid (g.es.take (k + 1) = g.es.take k ++ [x]) := hid (by obtain ⟨h1, h2⟩ := List.getElem?_eq_some_iff.1 hx; rw [List.take_succ_eq_append_getElem h1, h2])
            have HTO := hid (toOf_snoc (g.es.take k) x hxr hxc hr64)
            clear hx hxr hxc hcc hgg
            have cg : wr.cell? ⟨w.heap.size, 2, none⟩ = some (.slice (some ⟨gg, o, none⟩) g.es.length cap) := row_cell HG.out 2 _ rfl
            have l3 := heap_lt HG.out
            go_wp2_with (refine wpList_load_cells rfl 78 _ rfl _ _ rfl _ _ HC.out Tryz.underlying78 rfl info_ed ?_)
            have HI3 := hid (HI.out.below ((Below.refl _ _).alloc (Nat.le_refl _) (.cells #[.int .i64 r, .int .i64 c, .int .i64 x.w] 78)))
            have HN3 : Hid (NetAt (wr.alloc (.cells #[.int .i64 r, .int .i64 c, .int .i64 x.w] 78)) p tos none64 none64 noMarks) := hid (alloc_keep HN.out _)
            have HG3 := hid (alloc_keep HG.out (.cells #[.int .i64 r, .int .i64 c, .int .i64 x.w] 78))
            have HW3 := hid (HW.out.alloc HW.out.size (.cells #[.int .i64 r, .int .i64 c, .int .i64 x.w] 78))
            have HX3 : Hid ((wr.alloc (.cells #[.int .i64 r, .int .i64 c, .int .i64 x.w] 78)).heap[wr.heap.size]? = some (.cells #[.int .i64 r, .int .i64 c, .int .i64 x.w] 78 (0, 0))) := hid (heap_alloc_new _ _)
            generalize wr.alloc (.cells #[.int .i64 r, .int .i64 c, .int .i64 x.w] 78) = w3 at *
            generalize wr.heap.size = gx at *
            clear HI HN HG HW HC cg
            obtain ⟨l, hl⟩ : ∃ l, (toOf (g.es.take k))[r]? = some l := ⟨_, toOf_get _ hr64⟩
            have HLL : Hid ((toOf (g.es.take k)).set r (l ++ [c]) = toOf (g.es.take (k + 1))) := hid (by
              rw [HTK.out, HTO.out]
              rw [toOf_get _ hr64] at hl
              rw [Option.some.inj hl])
            have HL64 : Hid (l.length ≤ 64) := hid (by
              rw [toOf_get _ hr64] at hl
              rw [← Option.some.inj hl]
              exact toOf_short HC0.out k r)
            obtain ⟨u, hu, hou⟩ := HI3.out.each r l hl
            have htl : tos.length = 64 := by rw [HI3.out.len, toOf_len]
            have HFIN := hid (build_grow (c := c) HI3.out HN3.out HW3.out hl hu hr64 htl (by omega))
            have cx0 := row_cell HX3.out 0 _ rfl
            have cx1 := row_cell HX3.out 1 _ rfl
            have cto := HN3.out.cellTo htl hr64 hu
            have hri : (r : Int) < 64 := by omega
            have HOU : Hid (w3.ownsRow w.heap.size 3 1 u l.length (intV (nats l))) := hid hou
            have HB1 : Hid (Below w3.heap.size w3 (w3.drew.alloc (.cells #[.int .i64 c] 3))) := hid ((Below.refl _ _).drew.alloc (Nat.le_refl _) _)
            have HBW : Hid (w.heap.size ≤ (w3.drew.alloc (.cells #[.int .i64 c] 3)).heap.size) := hid (by rw [alloc_size]; have := HW3.out.size; show _ ≤ w3.heap.size + 1; omega)
            have lx := heap_lt HX3.out
            have lp := heap_lt HN3.out
            clear hl hu hou htl
            obtain ⟨i0, hi, hz0, hz1, hz2⟩ := info_parts info_int
            go_region_law ((refine step_append_lies _ (by rfl) _ _ 65 (by rfl) w.heap.size 3 i0 (.int .i64 0) 1 8 Tryz.underlying65 hi hz0 hz1 hz2 (by rfl) (by decide) u l.length (intV (nats l)) (by rfl) (HOU.out.drew.alloc (.cells #[.int .i64 c] 3)) ⟨w3.heap.size, 0, none⟩ 1 1 [.int .i64 c] (by rfl) (by rfl) (cells_new _ _ _) (by simp [Value.oneCell']) (by omega) (by have := HL64.out; unfold maxLen; omega) (by have := HL64.out; omega) HBW.out (w3.heap.size + 1) (by simp) ?_; intro gu ucap w4 hown' hgrow hat hgult; have hfin := HFIN.out _ (by rfl) HB1.out _ _ _ hown' hgrow hat; obtain ⟨hpost, cv4, fv4, hkp⟩ := hfin; have cx04 := row_cell (hkp _ _ _ _ (by decide) HX3.out) 0 _ rfl; have cx14 := row_cell (hkp _ _ _ _ (by decide) HX3.out) 1 _ rfl; have HPOST := hid hpost; have HG4 := hid (hkp _ _ _ _ (by decide) HG3.out); clear hown' hgrow hat hpost hkp))
            all_goals go_wp2
            all_goals go_roundw
            all_goals first
              | (go_light; (repeat apply Exists.intro); exact ⟨⟨k + 1, _, by omega, by go_num, hid (HLL.out ▸ HPOST.out.1), hid HPOST.out.2.1, hid (by rw [heap_setCell_ne (by omega)]; exact HG4.out), hid HPOST.out.2.2⟩, rfl⟩)
              | (simp [intOf]; omega)
            -- /L2
          · obtain rfl : k = g.es.length := by omega
            rw [List.take_length] at HI
            have hsz := chk_size HC0.out
            obtain ⟨R, hR⟩ := Int.eq_ofNat_of_zero_le hsz.1
            have hR64 : R ≤ 64 := by omega
            have cg : wr.cell? ⟨w.heap.size, 0, none⟩ = some (.int .i64 R) := by rw [← hR]; exact row_cell HG.out 0 _ rfl
            have HRR : Hid (g.rows.toNat = R) := hid (by rw [hR]; rfl)
            clear hR hsz
            have HOKN := hid (toOf_ok HC0.out)
            have HTA := hid (inn_to HI.out)
            have HH0 : Hid (NetHas wr p tos (toOf g.es) noMarks (pairAll (toOf g.es) 0).1 (pairAll (toOf g.es) 0).2) := hid ⟨HN.out, HTA.out⟩
            have hpb : w.heap.size ≤ p := by omega
            have l3 := heap_lt HG.out
            clear HI HN HG HTA
            go_wp2
            go_loopw [9, 62] (fun _ i w5 => ∃ k : Nat, k ≤ R ∧ i = .int .i64 k ∧ Hid (NetHas w5 p tos (toOf g.es) noMarks (pairAll (toOf g.es) k).1 (pairAll (toOf g.es) k).2) ∧ Hid (Below w.heap.size w w5)) (fun _ i _ => R - (intOf i).toNat)
            case atStart => exact ⟨0, by omega, rfl, HH0, HW⟩
            case round =>
              clear HH0 HW cg
              obtain ⟨k, hk, rfl, HH, HW⟩ := hrel
              by_cases hlt : k < R
              · have HPO := hid (pairAll_ok HOKN.out k (by omega))
                have C := hid (place_any p tos (toOf g.es) noMarks HOKN.out _ _ HPO.out k (by omega) (-1) (.inl rfl) _ HH.out)
                go_wp2_with fail
                refine C.out.mono ?_
                rintro e w6 ⟨rfl, hh6, hg6⟩
                have HH6 : Hid (NetHas w6 p tos (toOf g.es) noMarks (pairAll (toOf g.es) (k + 1)).1 (pairAll (toOf g.es) (k + 1)).2) := hid hh6
                have HW6 : Hid (Below w.heap.size w w6) := hid (HW.out.grown hg6 HW.out.size (by intro j hj; cases hj; exact hpb))
                clear hh6 hg6
                go_wp2
                go_roundw
                case rel => (repeat apply Exists.intro); exact ⟨⟨k + 1, by omega, by go_num, HH6, HW6⟩, rfl⟩
                case measure => simp [intOf]; omega
              · obtain rfl : k = R := by omega
                go_wp2
                go_ret2
                exact .inr ⟨HC0.out, p, tos, rfl, hpb, HW.out, by rw [HRR.out]; exact HH.out, by rw [HRR.out]; exact pairAll_ok HOKN.out _ hR64⟩
  · have HV : Hid (chkV g = 170) := hid (by unfold chkV; rw [if_neg hc])
    rw [HV.out]
    have HC0 : Hid (chk g = false) := hid (by simpa using hc)
    clear hc
    go_wp2
    go_ret2
    exact .inl ⟨HC0.out, rfl, HW1.out⟩
end Go.Proofs.YtjhomkdnhdhffaaGreat
