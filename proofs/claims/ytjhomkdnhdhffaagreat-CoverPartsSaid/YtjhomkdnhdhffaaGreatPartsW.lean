/- The walk of cover.Parts. -/
import Derived.Test.YtjhomkdnhdhffaaGreatPartsPl
import Derived.Test.YtjhomkdnhdhffaaGreatLists
import Derived.Deep.RegionHeld3
import Derived.Deep.RegionLaw
import Derived.BigRegion
import Derived.Deep.AppendLies
import Derived.Deep.Light
import Derived.Deep.QuietTactic
import Derived.WalkSmall
namespace Go.Proofs.YtjhomkdnhdhffaaGreat
open Go.RowKit

def nats (l : List Nat) : List Int := l.map Int.ofNat
theorem nats_get {l : List Nat} {k n : Nat} (h : l[k]? = some n) : (nats l)[k]? = some (n : Int) := by simp [nats, h]

theorem nats_set (l : List Nat) (k n : Nat) : nats (l.set k n) = (nats l).set k n := by simp [nats, List.map_set]
theorem Down.at {h : List Nat} (H : Down h) {k : Nat} (hk : k < 64) : ∃ n : Nat, h[k]? = some n := ⟨h[k]'(by rw [H.1]; exact hk), by simp [H.1, hk]⟩

set_option maxRecDepth 100000 in
theorem find_any (h : List Nat) (H : Down h) (r : Nat) (hr : r < 64) (g : Nat) (w : World) (ht : TabAt w g 80 (nats h)) :
    Calls Tryz.prog 26 #[.int .i64 r, .pointer (some ⟨g, 0, none⟩)] w fun e w' => e = .returned (.int .i64 (root h r)) ∧ w' = w := by
  have HD := hid H
  have HT := hid ht
  clear H ht
  go_enter Tryz.func26, Tryz.ntmps26
  go_wp2
  go_loop [0] (fun i => ∃ q : Nat, q < 64 ∧ i = .int .i64 q ∧ Hid (root h q = root h r)) (fun i => (intOf i).toNat)
  case atStart => exact ⟨r, hr, rfl, hid rfl⟩
  case round =>
    obtain ⟨q, hq, rfl, HQ⟩ := hrel
    obtain ⟨x, hx⟩ : ∃ x, h[q]? = some x := ⟨h[q]'(by rw [HD.out.1]; exact hq), by simp [HD.out.1, hq]⟩
    have hle := HD.out.2 q x hx
    have HX := hid hx
    have c := HT.out.cell (nats_get hx)
    clear hx
    by_cases e : x = q
    · subst e
      have HE : Hid (root h r = x) := hid (by rw [← HQ.out]; exact root_of_fix (by rw [HX.out]; rfl))
      go_wp2
      go_ret
      exact ⟨by rw [HE.out]; rfl, rfl⟩
    · have hb : ((x : Int) != (q : Int)) = true := by simp; omega
      have HN : Hid (root h x = root h r) := hid (by rw [← HQ.out, ← root_step HD.out q, HX.out]; rfl)
      have hlt : x < q := by omega
      clear e
      go_wp2
      go_round
      case rel => exact ⟨x, by omega, rfl, HN⟩
      case measure => simp [intOf]; omega

theorem find_below (h : List Nat) (H : Down h) (r : Nat) (hr : r < 64) (g : Nat) (w : World) (ht : TabAt w g 80 (nats h)) :
    Calls Tryz.prog 26 #[.int .i64 r, .pointer (some ⟨g, 0, none⟩)] w fun e w' => e = .returned (.int .i64 (root h r)) ∧ Below w.heap.size w w' :=
  (find_any h H r hr g w ht).mono fun e w' ⟨h1, h2⟩ => ⟨h1, by rw [h2]; exact Below.refl _ _⟩

def hdTo (i : Nat) : List Nat := (List.range 64).map fun k => if k < i then k else 0
def ftTo (i : Nat) : List Int := (List.range 64).map fun k => if k < i then -1 else 0
theorem hdTo_set (i : Nat) : (nats (hdTo i)).set i i = nats (hdTo (i + 1)) := by
  apply List.ext_getElem?
  intro j
  simp only [nats, hdTo, List.getElem?_set, List.getElem?_map, List.length_map, List.length_range]
  by_cases hj : j < 64
  · by_cases e : i = j
    · subst e; simp [hj]
    · rw [if_neg e]
      simp only [List.getElem?_range hj, Option.map_some]
      congr 2
      by_cases h2 : j < i
      · rw [if_pos h2, if_pos (by omega)]
      · rw [if_neg h2, if_neg (by omega)]
  · have : (List.range 64)[j]? = none := by simp; omega
    rw [this]
    by_cases e : i = j
    · subst e; simp [hj]
    · simp [e]
theorem ftTo_set (i : Nat) : (ftTo i).set i (-1) = ftTo (i + 1) := by
  apply List.ext_getElem?
  intro j
  simp only [ftTo, List.getElem?_set, List.getElem?_map, List.length_map, List.length_range]
  by_cases hj : j < 64
  · by_cases e : i = j
    · subst e; simp [hj]
    · rw [if_neg e]
      simp only [List.getElem?_range hj, Option.map_some]
      congr 1
      by_cases h2 : j < i
      · rw [if_pos h2, if_pos (by omega)]
      · rw [if_neg h2, if_neg (by omega)]
  · have : (List.range 64)[j]? = none := by simp; omega
    rw [this]
    by_cases e : i = j
    · subst e; simp [hj]
    · simp [e]
theorem hdTo_get {i k : Nat} (hk : k < 64) : ∃ n : Int, (nats (hdTo i))[k]? = some n := ⟨_, by simp [nats, hdTo, hk]; rfl⟩
theorem ftTo_get {i k : Nat} (hk : k < 64) : ∃ n : Int, (ftTo i)[k]? = some n := ⟨_, by simp [ftTo, hk]; rfl⟩
theorem hdTo_end : hdTo 64 = startH := by decide
theorem ftTo_end : ftTo 64 = startF := by decide
theorem hdTo_zero : ints (nats (hdTo 0)) = (List.replicate 64 (Value.int .i64 0)).toArray := by kernel_rfl
theorem ftTo_zero : ints (ftTo 0) = (List.replicate 64 (Value.int .i64 0)).toArray := by kernel_rfl

/-- What Parts answers: of a graph that may be its parts, in memory of its own. -/
def PartsPost (w : World) (g : Gr) (e : Ending) (w' : World) : Prop :=
  ∃ v vs, e = .returned (.tuple #[v, .int .i64 (chkV g)]) ∧ LLs 65 3 w' w.heap.size v vs (if chk g = true then (parts g).map nats else []) ∧ Below w.heap.size w w'
theorem info_ints : (Tryz.prog.info? 65).map (fun i => (i.zero, i.size, i.bytes)) = some (some (.slice none 0 0), 1, 24) := by kernel_rfl
theorem info_int : (Tryz.prog.info? 3).map (fun i => (i.zero, i.size, i.bytes)) = some (some (.int .i64 0), 1, 8) := by kernel_rfl
theorem ints_ne : (65 : TypeId) ≠ 3 := by decide
theorem tab_ne1 : (80 : TypeId) ≠ 65 := by decide
theorem tab_ne2 : (80 : TypeId) ≠ 3 := by decide
theorem nats_len (l : List Nat) : (nats l).length = l.length := by simp [nats]
/-- The table by roots: which part is a root's. -/
def AtOk (h : List Nat) (k : Nat) (at_ : List Int) : Prop := at_.length = 64 ∧ ∀ r, r < k → root h r = r → at_[r]? = some (rank h r : Int)
theorem AtOk.keep {h : List Nat} {k : Nat} {l : List Int} (H : AtOk h k l) (e : root h k ≠ k) : AtOk h (k + 1) l :=
  ⟨H.1, fun r hr hrr => H.2 r (by by_cases e2 : r = k; (subst e2; exact absurd hrr e); omega) hrr⟩
theorem AtOk.put {h : List Nat} {k : Nat} {l : List Int} (H : AtOk h k l) (hk : k < 64) {n : Int} (hn : n = (rank h k : Int)) : AtOk h (k + 1) (l.set k n) := by
  refine ⟨by simp [H.1], fun r hr hrr => ?_⟩
  rw [List.getElem?_set]
  by_cases e : k = r
  · subst e; rw [if_pos rfl, if_pos (by rw [H.1]; exact hk), hn]
  · rw [if_neg e]; exact H.2 r (by omega) hrr
theorem rank_le (h : List Nat) (r : Nat) : rank h r ≤ r := by
  unfold rank
  exact Nat.le_trans (List.length_filter_le _ _) (by simp)
theorem at_zero : (List.replicate 64 (0 : Int)).length = 64 := by decide
theorem at_zero_row : ints (List.replicate 64 0) = (List.replicate 64 (Value.int .i64 0)).toArray := by kernel_rfl

theorem parts_new {hd : List Nat} (H : Down hd) {k : Nat} {L : List (List Int)} (hL : L = (partsOf hd k).map nats) (e : root hd k = k) : L.length = rank hd k ∧ (L ++ [[]])[rank hd k]? = some (nats []) ∧ (L ++ [[]]).set (rank hd k) (nats [] ++ [(k : Int)]) = (partsOf hd (k + 1)).map nats := by
  have h1 : L.length = rank hd k := by rw [hL, List.length_map, partsOf_length]
  refine ⟨h1, by rw [← h1]; simp [nats], ?_⟩
  rw [partsOf_root H e, List.map_append, ← hL, ← h1]
  simp [nats]
/-- What the opening of a part leaves. -/
theorem parts_open {w w3 : World} {gh ga k : Nat} {hd : List Nat} {at_ : List Int} {vs : List Value} {L : List (List Int)} {v v5 : Value} {w5 : World} {n : Int}
    (hll : LLs 65 3 w3 w.heap.size v vs L) (hth : TabAt w3 gh 80 (nats hd)) (hta : TabAt w3 ga 80 at_) (hb : Below w.heap.size w w3) (hga : w.heap.size ≤ ga) (hne : gh ≠ ga) (o : Obj)
    (hown : w5.ownsRow w.heap.size 65 1 v5 (L.length + 1) (vs ++ [.slice none 0 0])) (hg : ((w3.setCell ⟨ga, k, none⟩ (.int .i64 n)).alloc o).grownBy w5 v.ownBlock) :
    LLs 65 3 w5 w.heap.size v5 (vs ++ [.slice none 0 0]) (L ++ [[]]) ∧ TabAt w5 gh 80 (nats hd) ∧ TabAt w5 ga 80 (at_.set k n) ∧ Below w.heap.size w w5 := by
  have h1 := (hll.setCell hta tab_ne1 tab_ne2 k (.int .i64 n)).alloc o
  have h2 := (hth.other hne k (.int .i64 n)).alloc o
  have h3 := (hta.set k n).alloc o
  have h4 : Below w.heap.size w ((w3.setCell ⟨ga, k, none⟩ (.int .i64 n)).alloc o) := (hb.setCell hga _).alloc (by rw [setCell_size]; exact hb.size) o
  exact ⟨h1.push ints_ne hown hg, h2.grown hg (row_apart h2 h1.out tab_ne1), h3.grown hg (row_apart h3 h1.out tab_ne1), h4.grown hg h4.size (ownsRow_block h1.out)⟩
/-- What one row more leaves. -/
def GrowPost (w w5 : World) (gh ga : Nat) (hd : List Nat) (at_ : List Int) (v : Value) (vs : List Value) (L : List (List Int)) : Prop :=
  LLs 65 3 w5 w.heap.size v vs L ∧ TabAt w5 gh 80 (nats hd) ∧ TabAt w5 ga 80 at_ ∧ Below w.heap.size w w5
theorem tab_not {w : World} {g gv vcap : Nat} {l : List Int} {base : Nat} {vs : List Value} {L : List (List Int)} (h : TabAt w g 80 l) (hl : LLs 65 3 w base (.slice (some ⟨gv, 0, none⟩) L.length vcap) vs L) : g ≠ gv := by
  intro e
  obtain ⟨c2, h2⟩ := ownsRow_type hl.out (g := gv) rfl
  unfold TabAt at h
  rw [e, h2] at h
  cases h
theorem parts_grow {w w3 : World} {gh ga gv vcap j k : Nat} {hd : List Nat} {at_ l : List Int} {vs : List Value} {L : List (List Int)} {u : Value}
    (hll : LLs 65 3 w3 w.heap.size (.slice (some ⟨gv, 0, none⟩) L.length vcap) vs L) (hth : TabAt w3 gh 80 (nats hd)) (hta : TabAt w3 ga 80 at_) (hb : Below w.heap.size w w3)
    (hl : L[j]? = some l) (hu : vs[j]? = some u) (ho : w3.ownsRow w.heap.size 3 1 u l.length (intV l)) :
    ∀ W : World, W.heap = (w3.alloc (.cells #[.int .i64 k] 3)).heap → Below w3.heap.size w3 W → ∀ (gu ucap : Nat) (w4 : World), w4.ownsRow w.heap.size 3 1 (.slice (some ⟨gu, 0, none⟩) (l.length + 1) ucap) (l.length + 1) (intV l ++ [.int .i64 k]) →
      W.grownBy w4 u.ownBlock → (u.ownBlock = some gu ∨ gu = w3.heap.size + 1) →
      GrowPost w (w4.setCell ⟨gv, j, none⟩ (.slice (some ⟨gu, 0, none⟩) (l.length + 1) ucap)) gh ga hd at_ (.slice (some ⟨gv, 0, none⟩) L.length vcap) (vs.set j (.slice (some ⟨gu, 0, none⟩) (l.length + 1) ucap)) (L.set j (l ++ [(k : Int)])) ∧
      w4.cell? ⟨gv, j, none⟩ = some u ∧ w4.frozen? ⟨gv, j, none⟩ = false ∧ TabAt w4 ga 80 at_ ∧ ga ≠ gv := by
  intro W hW hbW gu ucap w4 hown hg hat
  have hllW : LLs 65 3 W w.heap.size (.slice (some ⟨gv, 0, none⟩) L.length vcap) vs L := (hll.alloc _).same hW
  have hthW : TabAt W gh 80 (nats hd) := by unfold TabAt; rw [hW]; exact hth.alloc _
  have htaW : TabAt W ga 80 at_ := by unfold TabAt; rw [hW]; exact hta.alloc _
  have hoW : W.ownsRow w.heap.size 3 1 u l.length (intV l) := ownsRow_other (w := w3) ho fun g' hg' => by rw [hW]; exact Below.heap_alloc _ _ _ (ownsRow_lt ho hg')
  have hsz : W.heap.size = w3.heap.size + 1 := by rw [hW, alloc_size]
  have hth4 := hthW.grown hg (row_apart hthW hoW tab_ne2)
  have hta4 := htaW.grown hg (row_apart htaW hoW tab_ne2)
  have n1 := tab_not hth hll
  have n2 := tab_not hta hll
  obtain ⟨curv, hcurv⟩ := ownsRow_type hllW.out (g := gv) rfl
  have hcv4 : w4.heap[gv]? = some (.cells curv 65 (0, 0)) := by rw [hg.block gv (heap_lt hcurv) (row_apart hcurv hoW ints_ne)]; exact hcurv
  have hco : W.cell? ⟨gv, j, none⟩ = some u := by
    have hj : j < L.length := (List.getElem?_eq_some_iff.1 hl).1
    have := hllW.out.cellAt j (by omega)
    rw [this, hu]
  have hB : Below w.heap.size w W := hb.trans (hbW.mono hb.size)
  have hB4 : Below w.heap.size w w4 := hB.grown hg hB.size (ownsRow_block hoW)
  refine ⟨⟨?_, hth4.other n1 _ _, hta4.other n2 _ _, hB4.setCell (ownsRow_block hllW.out gv rfl) _⟩, ?_, free_row hcv4 _, hta4, n2⟩
  · refine hllW.grow ints_ne hl hu hown hg ?_ rfl
    rcases hat with h | h
    · exact .inl h.symm
    · right; rw [hsz, ← h]; rfl
  · rw [cell_of_row _ _ _ _ _ _ hcv4, ← cell_of_row _ _ _ _ _ _ hcurv]; exact hco

set_option maxRecDepth 100000 in
set_option maxHeartbeats 20000000 in
theorem parts_any (g : Gr) (a : Option Addr) (cap : Nat) (hok : GrOk g cap) (w : World) (hr : RowsAt 3 edV w a g.es) :
    Calls Tryz.prog 9 #[grV g a cap] w (PartsPost w g) := by
  have CC := hid (fun w hr => check_any g a cap hok w hr)
  have HOK := hid hok
  have HR := hid hr
  have hlen : g.es.length ≤ 9223372036854775807 := by have := hok.len; have := hok.cap; omega
  clear hok hr
  unfold grV at *
  go_enter Tryz.func9, Tryz.ntmps9
  go_wp2_with (refine wpList_load_w rfl 24 _ rfl _ rfl _ _ _ _ (heap_alloc_new _ _) Tryz.underlying24 rfl (info_gr) ?_)
  refine (CC.out _ (HR.out.alloc _)).mono ?_
  rintro e w1 ⟨rfl, hb1⟩
  have HG1 := hid (below_keep hb1 (heap_alloc_new _ _))
  have HR1 := hid ((HR.out.alloc _).kept hb1)
  have HW1 : Hid (Below w.heap.size w w1) := hid (((Below.refl _ _).alloc (Nat.le_refl _) _).trans (hb1.mono (by simp)))
  clear hb1
  by_cases hc : chk g = true
  · have HV : Hid (chkV g = 0) := hid (by unfold chkV; rw [if_pos hc])
    rw [HV.out]
    have HC0 := hid hc
    clear hc
    go_wp2
    have hs1 : w.heap.size < w1.heap.size := heap_lt HG1.out
    go_loopw [7, 22] (fun _ i wr => ∃ k : Nat, k ≤ 64 ∧ i = .int .i64 k ∧ TabAt wr w1.heap.size 80 (nats (hdTo k)) ∧ TabAt wr (w1.heap.size + 1) 80 (ftTo k) ∧
      wr.heap[w.heap.size]? = some (.cells #[.int .i64 g.rows, .int .i64 g.cols, .slice a g.es.length cap] 24 (0, 0)) ∧ Below w.heap.size w wr) (fun _ i _ => 64 - (intOf i).toNat)
    case atStart => exact ⟨0, by omega, rfl, by unfold TabAt; rw [hdTo_zero]; exact alloc_keep (heap_alloc_new _ _) _, by unfold TabAt; rw [ftTo_zero]; exact heap_2 _ _ _, alloc_keep (alloc_keep HG1.out _) _, (HW1.out.alloc HW1.out.size _).alloc (by simp; omega) _⟩
    case round =>
      obtain ⟨k, hk, rfl, ht1, ht2, hg, hbel⟩ := hrel
      have HT1 := hid ht1
      have HT2 := hid ht2
      have HG := hid hg
      have HW := hid hbel
      clear ht1 ht2 hg hbel
      by_cases hlt : k < 64
      · obtain ⟨n1, hn1⟩ := hdTo_get (i := k) hlt
        obtain ⟨n2, hn2⟩ := ftTo_get (i := k) hlt
        have c1 := HT1.out.cell hn1
        have c2 := HT2.out.cell hn2
        have f1 := free_row HT1.out k
        have f2 := free_row HT2.out k
        clear hn1 hn2
        go_wp2
        go_roundw
        case rel => exact ⟨k + 1, by omega, by go_num, by rw [← hdTo_set]; exact (HT1.out.set _ _).other (by omega) _ _, by rw [← ftTo_set]; exact (HT2.out.other (by omega) _ _).set _ _, by rw [heap_setCell_ne (by omega), heap_setCell_ne (by omega)]; exact HG.out, (HW.out.setCell (by show w.heap.size ≤ w1.heap.size; omega) _).setCell (by show w.heap.size ≤ w1.heap.size + 1; omega) _⟩
        case measure => simp [intOf]; omega
      · obtain rfl : k = 64 := by omega
        have HH : Hid (TabAt wr w1.heap.size 80 (nats startH)) := hid (hdTo_end ▸ HT1.out)
        have HF : Hid (TabAt wr (w1.heap.size + 1) 80 startF) := hid (ftTo_end ▸ HT2.out)
        have cg : wr.cell? ⟨w.heap.size, 2, none⟩ = some (.slice a g.es.length cap) := row_cell HG.out 2 _ rfl
        go_wp2
        go_loopw [10, 11, 12, 35] (fun _ _ _ i wr => ∃ k : Nat, k ≤ g.es.length ∧ i = .int .i64 k ∧ TabAt wr w1.heap.size 80 (nats (joinAll (g.es.take k)).1) ∧ TabAt wr (w1.heap.size + 1) 80 (joinAll (g.es.take k)).2 ∧ FirstOk (joinAll (g.es.take k)).2 ∧
          wr.heap[w.heap.size]? = some (.cells #[.int .i64 g.rows, .int .i64 g.cols, .slice a g.es.length cap] 24 (0, 0)) ∧ Below w.heap.size w wr) (fun _ _ _ i _ => g.es.length - (intOf i).toNat)
        case atStart => exact ⟨0, by omega, rfl, HH.out, HF.out, startF_ok, HG.out, HW.out⟩
        case round =>
          clear HT1 HT2 HG HW HH HF cg
          obtain ⟨k, hk, rfl, ht1, ht2, hfo, hg, hbel⟩ := hrel
          have HT1 := hid ht1
          have HT2 := hid ht2
          have HFO := hid hfo
          have HG := hid hg
          have HW := hid hbel
          clear ht1 ht2 hfo hg hbel
          by_cases hlt : k < g.es.length
          · -- L2
            obtain ⟨x, hx⟩ : ∃ x, g.es[k]? = some x := ⟨g.es[k], by simp [hlt]⟩
            obtain ⟨r, c, hxr, hxc, hr1, hc1, hr64, hc64⟩ := edge_ok HC0.out (List.mem_of_getElem? hx)
            obtain ⟨gg, o, rfl, hgg, hcc⟩ := (HR.out.kept HW.out).get hx
            have HC : Hid (CellsAt wr gg (o + k * 3) #[.int .i64 r, .int .i64 c, .int .i64 x.w]) := hid (by rw [Nat.mul_comm, ← hxr, ← hxc]; exact hcc)
            have HJ := hid (joinAll_snoc g.es k x hx hxr hxc)
            have HDN := hid (joinAll_down (g.es.take k))
            clear hx hxr hxc hcc hgg
            generalize joinAll (g.es.take k) = s at *
            obtain ⟨hd, ft⟩ := s
            have HFL : Hid (ft.length = 64) := hid HFO.out.1
            obtain ⟨fv, hfv⟩ : ∃ fv, ft[c]? = some fv := ⟨ft[c]'(by rw [HFL.out]; exact hc64), by simp [HFL.out, hc64]⟩
            have l1 := HT1.out.lt
            have l2 := HT2.out.lt
            have l3 := heap_lt HG.out
            have c2 := HT2.out.cell hfv
            have f2 := free_row HT2.out c
            rcases HFO.out.2 c fv hfv with rfl | ⟨q, rfl, hq64⟩
            · have HFV := hid hfv
              clear hfv
              go_wp2_with (refine wpList_load_cells rfl 78 _ rfl _ _ rfl _ _ HC.out Tryz.underlying78 rfl info_ed ?_)
              have HTQ : Hid (TabAt ((wr.setCell ⟨w1.heap.size + 1, c, none⟩ (.int .i64 r)).alloc (.cells #[.int .i64 r, .int .i64 c, .int .i64 x.w] 78)) w1.heap.size 80 (nats hd)) := hid ((HT1.out.other (by omega) _ _).alloc _)
              have HTF : Hid (TabAt ((wr.setCell ⟨w1.heap.size + 1, c, none⟩ (.int .i64 r)).alloc (.cells #[.int .i64 r, .int .i64 c, .int .i64 x.w] 78)) (w1.heap.size + 1) 80 (ft.set c r)) := hid ((HT2.out.set _ _).alloc _)
              have HGQ : Hid (((wr.setCell ⟨w1.heap.size + 1, c, none⟩ (.int .i64 r)).alloc (.cells #[.int .i64 r, .int .i64 c, .int .i64 x.w] 78)).heap[w.heap.size]? = some (.cells #[.int .i64 g.rows, .int .i64 g.cols, .slice (some ⟨gg, o, none⟩) g.es.length cap] 24 (0, 0))) := hid (alloc_keep (by rw [heap_setCell_ne (by omega)]; exact HG.out) _)
              have HWQ : Hid (Below w.heap.size w ((wr.setCell ⟨w1.heap.size + 1, c, none⟩ (.int .i64 r)).alloc (.cells #[.int .i64 r, .int .i64 c, .int .i64 x.w] 78))) := hid ((HW.out.setCell (by show w.heap.size ≤ w1.heap.size + 1; omega) _).alloc (by rw [setCell_size]; exact HW.out.size) _)
              have hXQ : ((wr.setCell ⟨w1.heap.size + 1, c, none⟩ (.int .i64 r)).alloc (.cells #[.int .i64 r, .int .i64 c, .int .i64 x.w] 78)).heap[wr.heap.size]? = some (.cells #[.int .i64 r, .int .i64 c, .int .i64 x.w] 78 (0, 0)) := by
                have := heap_alloc_new (wr.setCell ⟨w1.heap.size + 1, c, none⟩ (.int .i64 r)) (.cells #[.int .i64 r, .int .i64 c, .int .i64 x.w] 78)
                rwa [setCell_size] at this
              generalize (wr.setCell ⟨w1.heap.size + 1, c, none⟩ (.int .i64 r)).alloc (.cells #[.int .i64 r, .int .i64 c, .int .i64 x.w] 78) = wq at *
              clear HT1 HT2 HG HW c2 f2
              have c3 : wq.cell? ⟨wr.heap.size, 0, none⟩ = some (.int .i64 r) := row_cell hXQ 0 _ rfl
              have c4 : wq.cell? ⟨wr.heap.size, 1, none⟩ = some (.int .i64 c) := row_cell hXQ 1 _ rfl
              have c5 := HTF.out.cell (k := c) (n := r) (by simp [HFL.out, hc64])
              clear hXQ
              go_quiet ((go_at_call 26; exact Calls.quiet_of_same (find_any hd HDN.out r hr64 _ _ HTQ.out)))
              have HJ2 := hid (HJ.out.trans (joinE_none HFV.out))
              have q1 : root hd r < 64 := by have := root_le HDN.out r; omega
              have q2 : root hd r < 64 := by have := root_le HDN.out r; omega
              generalize root hd r = ra at *
              
              have e1 : max ra ra = ra := Nat.max_self _
              have e2 : min ra ra = ra := Nat.min_self _
              rw [e1, e2] at HJ2
              clear e1 e2
              obtain ⟨n6, hn6⟩ := HDN.out.at (show ra < 64 by omega)
              have c6 := HTQ.out.cell (nats_get hn6)
              have f6 := free_row HTQ.out (ra)
              clear hn6
              go_wp2
              go_roundw
              case rel => (repeat apply Exists.intro); exact ⟨⟨k + 1, by omega, by go_num, by rw [HJ2.out, nats_set]; exact (HTQ.out).set _ _, by rw [HJ2.out]; exact (HTF.out).other (by omega) _ _, by rw [HJ2.out]; exact HFO.out.set _ hr64, by rw [heap_setCell_ne (by omega)]; exact HGQ.out, (below_drewN HWQ.out _).setCell (by show w.heap.size ≤ w1.heap.size; omega) _⟩, rfl⟩
              case measure => simp [intOf]; omega
            · have HFV := hid hfv
              clear hfv
              have hq0 : ¬ ((q : Int) < 0) := by omega
              go_wp2_with (refine wpList_load_cells rfl 78 _ rfl _ _ rfl _ _ HC.out Tryz.underlying78 rfl info_ed ?_)
              have HTQ : Hid (TabAt (wr.alloc (.cells #[.int .i64 r, .int .i64 c, .int .i64 x.w] 78)) w1.heap.size 80 (nats hd)) := hid (HT1.out.alloc _)
              have HTF : Hid (TabAt (wr.alloc (.cells #[.int .i64 r, .int .i64 c, .int .i64 x.w] 78)) (w1.heap.size + 1) 80 (ft)) := hid (HT2.out.alloc _)
              have HGQ : Hid ((wr.alloc (.cells #[.int .i64 r, .int .i64 c, .int .i64 x.w] 78)).heap[w.heap.size]? = some (.cells #[.int .i64 g.rows, .int .i64 g.cols, .slice (some ⟨gg, o, none⟩) g.es.length cap] 24 (0, 0))) := hid (alloc_keep HG.out _)
              have HWQ : Hid (Below w.heap.size w (wr.alloc (.cells #[.int .i64 r, .int .i64 c, .int .i64 x.w] 78))) := hid (HW.out.alloc HW.out.size _)
              have hXQ : (wr.alloc (.cells #[.int .i64 r, .int .i64 c, .int .i64 x.w] 78)).heap[wr.heap.size]? = some (.cells #[.int .i64 r, .int .i64 c, .int .i64 x.w] 78 (0, 0)) := by
                exact heap_alloc_new _ _
              generalize wr.alloc (.cells #[.int .i64 r, .int .i64 c, .int .i64 x.w] 78) = wq at *
              clear HT1 HT2 HG HW c2 f2
              have c3 : wq.cell? ⟨wr.heap.size, 0, none⟩ = some (.int .i64 r) := row_cell hXQ 0 _ rfl
              have c4 : wq.cell? ⟨wr.heap.size, 1, none⟩ = some (.int .i64 c) := row_cell hXQ 1 _ rfl
              have c5 := HTF.out.cell (k := c) (n := q) (HFV.out)
              clear hXQ
              go_quiet (first | (go_at_call_of 26 (Value.int .i64 (q : Int)); exact Calls.quiet_of_same (find_any hd HDN.out q hq64 _ _ HTQ.out)) | (go_at_call_of 26 (Value.int .i64 (r : Int)); exact Calls.quiet_of_same (find_any hd HDN.out r hr64 _ _ HTQ.out)))
              have HJ2 := hid (HJ.out.trans (joinE_some HFV.out))
              have q1 : root hd q < 64 := by have := root_le HDN.out q; omega
              have q2 : root hd r < 64 := by have := root_le HDN.out r; omega
              generalize root hd q = ra at *
              generalize root hd r = rb at *
              rcases Nat.lt_trichotomy ra rb with hab | rfl | hab
              · have e1 : max ra rb = rb := Nat.max_eq_right (by omega)
                have e2 : min ra rb = ra := Nat.min_eq_left (by omega)
                have hi1 : (ra : Int) < (rb : Int) := by omega
                rw [e1, e2] at HJ2
                clear e1 e2
                obtain ⟨n6, hn6⟩ := HDN.out.at (show rb < 64 by omega)
                have c6 := HTQ.out.cell (nats_get hn6)
                have f6 := free_row HTQ.out (rb)
                clear hn6
                go_wp2
                go_roundw
                case rel => (repeat apply Exists.intro); exact ⟨⟨k + 1, by omega, by go_num, by rw [HJ2.out, nats_set]; exact (HTQ.out).set _ _, by rw [HJ2.out]; exact (HTF.out).other (by omega) _ _, by rw [HJ2.out]; exact HFO.out, by rw [heap_setCell_ne (by omega)]; exact HGQ.out, (below_drewN HWQ.out _).setCell (by show w.heap.size ≤ w1.heap.size; omega) _⟩, rfl⟩
                case measure => simp [intOf]; omega
              · have e1 : max ra ra = ra := Nat.max_self _
                have e2 : min ra ra = ra := Nat.min_self _
                rw [e1, e2] at HJ2
                clear e1 e2
                obtain ⟨n6, hn6⟩ := HDN.out.at (show ra < 64 by omega)
                have c6 := HTQ.out.cell (nats_get hn6)
                have f6 := free_row HTQ.out (ra)
                clear hn6
                go_wp2
                go_roundw
                case rel => (repeat apply Exists.intro); exact ⟨⟨k + 1, by omega, by go_num, by rw [HJ2.out, nats_set]; exact (HTQ.out).set _ _, by rw [HJ2.out]; exact (HTF.out).other (by omega) _ _, by rw [HJ2.out]; exact HFO.out, by rw [heap_setCell_ne (by omega)]; exact HGQ.out, (below_drewN HWQ.out _).setCell (by show w.heap.size ≤ w1.heap.size; omega) _⟩, rfl⟩
                case measure => simp [intOf]; omega
              · have e1 : max ra rb = ra := Nat.max_eq_left (by omega)
                have e2 : min ra rb = rb := Nat.min_eq_right (by omega)
                have hi1 : (rb : Int) < (ra : Int) := by omega
                rw [e1, e2] at HJ2
                clear e1 e2
                obtain ⟨n6, hn6⟩ := HDN.out.at (show ra < 64 by omega)
                have c6 := HTQ.out.cell (nats_get hn6)
                have f6 := free_row HTQ.out (ra)
                clear hn6
                go_wp2
                go_roundw
                case rel => (repeat apply Exists.intro); exact ⟨⟨k + 1, by omega, by go_num, by rw [HJ2.out, nats_set]; exact (HTQ.out).set _ _, by rw [HJ2.out]; exact (HTF.out).other (by omega) _ _, by rw [HJ2.out]; exact HFO.out, by rw [heap_setCell_ne (by omega)]; exact HGQ.out, (below_drewN HWQ.out _).setCell (by show w.heap.size ≤ w1.heap.size; omega) _⟩, rfl⟩
                case measure => simp [intOf]; omega
            -- /L2
          · obtain rfl : k = g.es.length := by omega
            rw [List.take_length] at HT1
            have HDN := hid (joinAll_down g.es)
            have hsz := chk_size HC0.out
            obtain ⟨R, hR⟩ := Int.eq_ofNat_of_zero_le hsz.1
            have hR64 : R ≤ 64 := by omega
            have HPARTS : Hid ((if chk g = true then (parts g).map nats else []) = (partsOf (joinAll g.es).1 R).map nats) := hid (by rw [if_pos HC0.out]; unfold parts; rw [hR]; rfl)
            have cg : wr.cell? ⟨w.heap.size, 0, none⟩ = some (.int .i64 R) := by rw [← hR]; exact row_cell HG.out 0 _ rfl
            have l3 := heap_lt HG.out
            have HRR := hid hR
            clear hR
            generalize (joinAll g.es).1 = hd at *
            clear HT2 HFO
            have HHT : Hid (TabAt (wr.alloc (.cells (ints (List.replicate 64 0)) 80)) w1.heap.size 80 (nats hd)) := hid (HT1.out.alloc _)
            have HWT : Hid (Below w.heap.size w (wr.alloc (.cells (ints (List.replicate 64 0)) 80))) := hid (HW.out.alloc HW.out.size _)
            have HAT : Hid (TabAt (wr.alloc (.cells (ints (List.replicate 64 0)) 80)) wr.heap.size 80 (List.replicate 64 0)) := hid (heap_alloc_new _ _)
            have hne : w1.heap.size < wr.heap.size := HT1.out.lt
            rw [at_zero_row] at HHT HWT HAT
            go_wp2
            generalize wr.heap.size = ga at *
            go_loopw [13, 15, 16, 69] (fun v _ _ i w2 => ∃ (k : Nat) (vs : List Value) (L : List (List Int)) (at_ : List Int), k ≤ R ∧ i = .int .i64 k ∧ LLs 65 3 w2 w.heap.size v vs L ∧ Hid (L = (partsOf hd k).map nats) ∧
              TabAt w2 w1.heap.size 80 (nats hd) ∧ TabAt w2 ga 80 at_ ∧ Hid (AtOk hd k at_) ∧ Below w.heap.size w w2) (fun _ _ _ i _ => R - (intOf i).toNat)
            case atStart => exact ⟨0, [], [], List.replicate 64 0, by omega, rfl, LLs.nil _ _, hid rfl, HHT.out, HAT.out, hid ⟨at_zero, fun r hr => by omega⟩, HWT.out⟩
            case round =>
              clear HHT HWT HAT HT1 HG HW cg
              obtain ⟨k, vs, L, at_, hk, rfl, hll, HL, hth, hta, HAO, hbel⟩ := hrel
              have HTH := hid hth
              have HW := hid hbel
              clear hth hbel
              by_cases hlt : k < R
              · have hk64 : k < 64 := by omega
                by_cases e : root hd k = k
                · have HE := hid e
                  clear e
                  obtain ⟨n1, n2, n3⟩ := parts_new HDN.out HL.out HE.out
                  have HN1 := hid n1
                  have HN2 := hid n2
                  have HN3 := hid n3
                  have hr64 : k < 64 := hk64
                  have hrank : rank hd k ≤ k := rank_le hd k
                  clear n1 n2 n3
                  obtain ⟨va, vc, hvs⟩ := ownsRow_shape hll.out
                  subst hvs
                  have HLLA := hid hll
                  have HTA := hid hta
                  clear hll hta
                  have hlen64 : L.length ≤ 64 := by rw [HN1.out]; omega
                  have ca0 := HTA.out.cell (k := k) (n := (at_[k]?).getD 0) (by have := HAO.out.1; rw [List.getElem?_eq_getElem (by omega)]; rfl)
                  have fa0 := free_row HTA.out k
                  have lga0 := HTA.out.lt
                  obtain ⟨i1, hi1, hz10, hz11, hz12⟩ := info_parts info_ints
                  have hGA : w.heap.size ≤ ga := by omega
                  have hne2 : w1.heap.size ≠ ga := by omega
                  go_wp2_with (first | (go_at_call 26; refine (find_any hd HDN.out k hk64 _ _ HTH.out).mono ?_; rw [HE.out]; rintro e w3 ⟨rfl, rfl⟩) | (at_builtin; refine wpList_append_own_at _ rfl _ _ 27 rfl w.heap.size 65 i1 (.slice none 0 0) 1 24 Tryz.underlying27 hi1 hz10 hz11 hz12 rfl (by decide) _ _ _ rfl ((HLLA.out.setCell HTA.out tab_ne1 tab_ne2 k _).alloc (.cells #[.slice none 0 0] 65)).out ⟨_, 0, none⟩ 1 1 [.slice none 0 0] rfl rfl ?d1 ?d2 ?d3 ?d4 ?d5 ?_))
                  case d1 => exact fun j u hj => by have h := cells_new (w3.setCell ⟨ga, k, none⟩ (.int .i64 L.length)) [.slice none 0 0] 65 j u hj; rwa [setCell_size] at h
                  case d2 => simp [Value.oneCell']
                  case d3 => unfold maxLen; omega
                  case d4 => omega
                  case d5 => rw [alloc_size, setCell_size]; have := HW.out.size; omega
                  intro v5 w5 hown5 hgrow5 _ _
                  obtain ⟨hll, hth5, hta, hw5⟩ := parts_open HLLA.out HTH.out HTA.out HW.out hGA hne2 _ hown5 hgrow5
                  have HTH5 := hid hth5
                  have HW5 := hid hw5
                  have ha0 : (at_.set k (L.length : Int))[k]? = some (rank hd k : Int) := by rw [List.getElem?_set, if_pos rfl, if_pos (by rw [HAO.out.1]; exact hk64), HN1.out]
                  have HAO5 : Hid (AtOk hd (k + 1) (at_.set k (L.length : Int))) := hid (HAO.out.put hk64 (by rw [HN1.out]))
                  have hl0 := HN2.out
                  obtain ⟨l, hl⟩ : ∃ l : List Nat, l = [] := ⟨_, rfl⟩
                  rw [← hl] at hl0
                  have HLIST := hid hl
                  clear hl
                  clear hown5 hgrow5 hth5 hw5 HTH HW HTA HLLA HAO ca0 fa0
                  obtain ⟨L2, hL2⟩ : ∃ L2, L2 = L ++ [[]] := ⟨_, rfl⟩
                  have HL2 : Hid (L2.set (rank hd k) (nats l ++ [(k : Int)]) = (partsOf hd (k + 1)).map nats) := hid (by rw [hL2, HLIST.out]; exact HN3.out)
                  have hlen2 : L.length + 1 = L2.length := by rw [hL2]; simp
                  rw [← hL2] at hl0 hll
                  generalize at_.set k (L.length : Int) = at2 at *
                  clear hL2 hlen2 hlen64
                  go_wp2
                  -- L4
                  have HLL0 := hid hll
                  have HAT0 := hid hta
                  have hjl : rank hd k < L2.length := (List.getElem?_eq_some_iff.1 hl0).1
                  obtain ⟨u, hu, hou⟩ := HLL0.out.each _ _ hl0
                  obtain ⟨gv, vcap, hv⟩ := ownsRow_form' HLL0.out.out (by omega)
                  subst hv
                  have HU := hid hu
                  have HOU := hid hou
                  have HL0 := hid hl0
                  have HA0 := hid ha0
                  clear hll hta hu hou hl0 ha0
                  have ca := HAT0.out.cell HA0.out
                  have co : w5.cell? ⟨gv, rank hd k, none⟩ = some u := by
                    have := HLL0.out.out.cellAt (rank hd k) (by omega)
                    rw [this, HU.out]
                  have lgv := cell_lt co
                  have lga := cell_lt ca
                  have hri : (k : Int) < 64 := by omega
                  have hji : (rank hd k : Int) < (L2.length : Int) := by omega
                  have HB1 : Hid (Below w5.heap.size w5 (w5.drew.alloc (.cells #[.int .i64 k] 3))) := hid ((Below.refl _ _).drew.alloc (Nat.le_refl _) _)
                  have HBW : Hid (w.heap.size ≤ (w5.drew.alloc (.cells #[.int .i64 k] 3)).heap.size) := hid (by rw [alloc_size]; have := HW5.out.size; show _ ≤ w5.heap.size + 1; omega)
                  have hll64 : l.length ≤ 64 := by rw [HLIST.out]; simp
                  have HL64 : Hid ((nats l).length + 1 ≤ 65) := hid (by rw [nats_len]; omega)
                  clear hll64
                  have HFIN := hid (parts_grow (k := k) HLL0.out HTH5.out HAT0.out HW5.out HL0.out HU.out HOU.out)
                  obtain ⟨i0, hi, hz0, hz1, hz2⟩ := info_parts info_int
                  go_region_law ((refine step_append_lies _ (by rfl) _ _ 65 (by rfl) w.heap.size 3 i0 (.int .i64 0) 1 8 Tryz.underlying65 hi hz0 hz1 hz2 (by rfl) (by decide) u (nats l).length (intV (nats l)) (by rfl) (HOU.out.drew.alloc (.cells #[.int .i64 k] 3)) ⟨w5.heap.size, 0, none⟩ 1 1 [.int .i64 k] (by rfl) (by rfl) (cells_new _ _ _) (by simp [Value.oneCell']) (by omega) (by have := HL64.out; unfold maxLen; omega) (by have := HL64.out; omega) HBW.out (w5.heap.size + 1) (by simp) ?_; intro gu ucap w4 hown' hgrow hat hgult; have hfin := HFIN.out _ (by rfl) HB1.out _ _ _ hown' hgrow hat; obtain ⟨hpost, cv4, fv4, hta4, hgb⟩ := hfin; have ca4 := TabAt.cell hta4 HA0.out; have HPOST := hid hpost; have HTA4 := hid hta4; clear hown' hgrow hat hpost))
                  all_goals go_wp2
                  all_goals go_roundw
                  all_goals first
                    | (go_light; (repeat apply Exists.intro); exact ⟨⟨k + 1, _, _, at2, by omega, by go_num, HPOST.out.1, hid (HL2.out), HPOST.out.2.1, HPOST.out.2.2.1, hid (HAO5.out), HPOST.out.2.2.2⟩, rfl⟩)
                    | (simp [intOf]; omega)
                  -- /L4
                · obtain ⟨rho, hrho⟩ : ∃ rho, rho = root hd k := ⟨_, rfl⟩
                  have hrl := root_le HDN.out k
                  rw [← hrho] at hrl e
                  have HRHO := hid hrho
                  clear hrho
                  have hbe : ((rho : Int) == (k : Int)) = false := by simp; omega
                  have hrk : rho < k := by omega
                  have HE := hid e
                  clear e
                  have hr64 : rho < 64 := by omega
                  have ha0 := HAO.out.2 rho hrk (by rw [HRHO.out]; exact root_root HDN.out k)
                  obtain ⟨l, hl⟩ : ∃ l, l = (List.range k).filter fun q => root hd q = rho := ⟨_, rfl⟩
                  have hl0 : L[rank hd rho]? = some (nats l) := by
                    rw [HL.out, List.getElem?_map, partsOf_get hrk (by rw [HRHO.out]; exact root_root HDN.out k), hl]; rfl
                  have HLIST := hid hl
                  clear hl
                  go_wp2_with (go_at_call 26; refine (find_any hd HDN.out k hk64 _ _ HTH.out).mono ?_; rw [← HRHO.out]; rintro e w3 ⟨rfl, rfl⟩)
                  -- L3
                  have HLL0 := hid hll
                  have HAT0 := hid hta
                  have hjl : rank hd rho < L.length := (List.getElem?_eq_some_iff.1 hl0).1
                  obtain ⟨u, hu, hou⟩ := HLL0.out.each _ _ hl0
                  obtain ⟨gv, vcap, hv⟩ := ownsRow_form' HLL0.out.out (by omega)
                  subst hv
                  have HU := hid hu
                  have HOU := hid hou
                  have HL0 := hid hl0
                  have HA0 := hid ha0
                  clear hll hta hu hou hl0 ha0
                  have ca := HAT0.out.cell HA0.out
                  have co : w3.cell? ⟨gv, rank hd rho, none⟩ = some u := by
                    have := HLL0.out.out.cellAt (rank hd rho) (by omega)
                    rw [this, HU.out]
                  have lgv := cell_lt co
                  have lga := cell_lt ca
                  have hri : (rho : Int) < 64 := by omega
                  have hji : (rank hd rho : Int) < (L.length : Int) := by omega
                  have HB1 : Hid (Below w3.heap.size w3 (w3.drew.alloc (.cells #[.int .i64 k] 3))) := hid ((Below.refl _ _).drew.alloc (Nat.le_refl _) _)
                  have HBW : Hid (w.heap.size ≤ (w3.drew.alloc (.cells #[.int .i64 k] 3)).heap.size) := hid (by rw [alloc_size]; have := HW.out.size; show _ ≤ w3.heap.size + 1; omega)
                  have hll64 : l.length ≤ 64 := by rw [HLIST.out]; exact Nat.le_trans (List.length_filter_le _ _) (by simp; omega)
                  have HL64 : Hid ((nats l).length + 1 ≤ 65) := hid (by rw [nats_len]; omega)
                  clear hll64
                  have HFIN := hid (parts_grow (k := k) HLL0.out HTH.out HAT0.out HW.out HL0.out HU.out HOU.out)
                  obtain ⟨i0, hi, hz0, hz1, hz2⟩ := info_parts info_int
                  go_region_law ((refine step_append_lies _ (by rfl) _ _ 65 (by rfl) w.heap.size 3 i0 (.int .i64 0) 1 8 Tryz.underlying65 hi hz0 hz1 hz2 (by rfl) (by decide) u (nats l).length (intV (nats l)) (by rfl) (HOU.out.drew.alloc (.cells #[.int .i64 k] 3)) ⟨w3.heap.size, 0, none⟩ 1 1 [.int .i64 k] (by rfl) (by rfl) (cells_new _ _ _) (by simp [Value.oneCell']) (by omega) (by have := HL64.out; unfold maxLen; omega) (by have := HL64.out; omega) HBW.out (w3.heap.size + 1) (by simp) ?_; intro gu ucap w4 hown' hgrow hat hgult; have hfin := HFIN.out _ (by rfl) HB1.out _ _ _ hown' hgrow hat; obtain ⟨hpost, cv4, fv4, hta4, hgb⟩ := hfin; have ca4 := TabAt.cell hta4 HA0.out; have HPOST := hid hpost; have HTA4 := hid hta4; clear hown' hgrow hat hpost))
                  all_goals go_wp2
                  all_goals go_roundw
                  all_goals first
                    | (go_light; (repeat apply Exists.intro); exact ⟨⟨k + 1, _, _, at_, by omega, by go_num, HPOST.out.1, hid (by rw [HL.out, partsOf_other HDN.out (by rw [← HRHO.out]; exact HE.out), List.map_set, HRHO.out, HLIST.out, HRHO.out]; simp [nats]), HPOST.out.2.1, HPOST.out.2.2.1, hid (HAO.out.keep (by rw [← HRHO.out]; exact HE.out)), HPOST.out.2.2.2⟩, rfl⟩)
                    | (simp [intOf]; omega)
                  -- /L3
              · obtain rfl : k = R := by omega
                go_wp2
                go_ret2
                exact ⟨_, vs, by rw [HV.out]; rfl, by rw [HPARTS.out, ← HL.out]; exact hll, HW.out⟩
  · have HV : Hid (chkV g = 170) := hid (by unfold chkV; rw [if_neg hc])
    rw [HV.out]
    have HC0 := hid hc
    clear hc
    go_wp2
    go_ret2
    exact ⟨.slice none 0 0, [], by rw [HV.out]; rfl, by rw [if_neg HC0.out]; exact LLs.nil _ _, HW1.out⟩
end Go.Proofs.YtjhomkdnhdhffaaGreat
