/- The greatest graph: plain, and the walk of 'full'. -/
import Derived.Test.YtmddhjoomlhbcaaAsHb
import Derived.Test.YtmddhjoomlhbcaaAsTb
import Derived.Maps.AppendAt
namespace Go.Proofs.Ytmddhjoomlhbcaa
open Go.RowKit

def fullE (k : Nat) : Ed := ⟨((k / 64 : Nat) : Int), ((k % 64 : Nat) : Int), 1099513724929 - ((k / 64 : Nat) : Int)⟩
def fullL (n : Nat) : List Ed := (List.range n).map fullE
theorem fullL_succ (n : Nat) : fullL (n + 1) = fullL n ++ [fullE n] := by simp [fullL, List.range_succ]
theorem fullL_len (n : Nat) : (fullL n).length = n := by simp [fullL]
def gF : Gr := ⟨64, 64, fullL 4096⟩
theorem gF_es : gF.es = fullL 4096 := by simp only [gF]
theorem full_chk : chk gF = true := by
  refine chk_mk (by omega) (by omega) (fun x hx => ?_) ?_
  · obtain ⟨k, hk, rfl⟩ := List.mem_map.1 hx
    have := List.mem_range.1 hk
    refine ⟨⟨?_, ?_⟩, ⟨?_, ?_⟩, ?_, ?_⟩ <;> simp only [fullE] <;> omega
  · unfold fullL
    rw [List.pairwise_map]
    refine List.Pairwise.imp ?_ List.pairwise_lt_range
    intro a b h
    unfold ltE
    simp only [fullE]
    omega
theorem full_w {r c : Nat} (hr : r < 64) (hc : c < 64) : wG gF r c = 1099513724929 - (r : Int) := by
  have hm : (⟨r, c, 1099513724929 - (r : Int)⟩ : Ed) ∈ fullL 4096 := by
    unfold fullL
    refine List.mem_map.2 ⟨64 * r + c, List.mem_range.2 (by omega), ?_⟩
    unfold fullE
    rw [show (64 * r + c) / 64 = r by omega, show (64 * r + c) % 64 = c by omega]
  rw [← gF_es] at hm
  generalize hx : (⟨r, c, 1099513724929 - (r : Int)⟩ : Ed) = x at hm
  have h1 : x.r = r := by rw [← hx]
  have h2 : x.c = c := by rw [← hx]
  rw [wG_edge full_chk hm h1 h2, ← hx]
theorem full_best : BestW (wG gF) 64 64 (fun r => if r < 64 then (r : Int) else -1) (fun r => 1099513724929 - (r : Int)) (fun _ => 0) := by
  refine ⟨⟨fun x hx => ?_, fun _ _ => rfl, fun x y hx he => ?_⟩, ⟨fun r hr => by show 0 ≤ 1099513724929 - (r : Int); omega, fun _ _ => Int.le_refl _, fun r c hr hc => by show wG gF r c ≤ 1099513724929 - (r : Int) + 0; rw [full_w hr hc]; omega⟩, ⟨fun r c hr hc hf => by show 1099513724929 - (r : Int) + 0 = wG gF r c; rw [full_w hr hc]; omega, fun r hr hf => ?_, fun _ _ _ => rfl⟩, fun y' z' d _ c hc => d.z0 c hc, fun f' hm s r hr hb => ?_⟩
  · by_cases h : x < 64
    · exact ⟨x, if_pos h, ⟨h, h, by rw [full_w h h]; omega⟩, rfl⟩
    · simp only [if_neg h] at hx; omega
  · try simp only at hx he
    split at hx <;> split at he <;> omega
  · simp only [if_pos hr] at hf; omega
  · simp only [if_pos hr]
    unfold LexLe
    by_cases hn : f' r < 0
    · exact .inl hn
    · right
      refine ⟨by omega, ?_⟩
      obtain ⟨c, h1, _, _, _⟩ := hm.at (Int.not_lt.1 hn)
      by_cases hcr : c < r
      · have h2 := hb c hcr
        simp only [if_pos (show c < 64 by omega)] at h2
        unfold Alk at h2
        have h3 := h2 (.inr (by omega))
        have := hm.one c r (by omega) (by omega)
        omega
      · omega
theorem full_ans {tt y z : List Int} (h : BestAns gF tt y z) : (∀ r, r < 64 → getI tt r = r) ∧ (∀ r : Nat, r < 64 → getI y r = 1099513724929 - (r : Int)) ∧ (∀ c, c < 64 → getI z c = 0) ∧ val (wG gF) (upTo 64 tt) 64 = 70368878393440 := by
  have hb := h.best
  have hR : gF.rows.toNat = 64 := rfl
  have hC : gF.cols.toNat = 64 := rfl
  rw [hR, hC] at hb
  obtain ⟨u1, u2, u3⟩ := hb.unique full_best
  refine ⟨fun r hr => ?_, u2, u3, ?_⟩
  · have := u1 r hr
    simp only [if_pos hr] at this
    unfold Alk upTo at this
    rw [if_pos hr] at this
    exact this (.inr (by omega))
  · rw [val_eq hb.mat hb.slack, sumN_congr u2, sumN_congr u3]
    decide +kernel
theorem full_prs {tt : List Int} (h : ∀ r, r < 64 → getI tt r = r) {i : Nat} (hi : i < 64) : (prsTo tt 64)[i]? = some ((i : Int), (i : Int)) := by
  have : prsTo tt 64 = (List.range 64).map (fun (r : Nat) => ((r : Int), (r : Int))) := by
    unfold prsTo
    rw [filterMap_same (g := fun (r : Nat) => some ((r : Int), (r : Int))) fun r hr => ?_]
    · generalize List.range 64 = l
      induction l with
      | nil => rfl
      | cons a l ih => rw [List.filterMap_cons, List.map_cons, ih]
    · have := h r (List.mem_range.1 hr)
      rw [this, if_neg (by omega)]
  rw [this, List.getElem?_map, List.getElem?_range hi]; rfl

theorem HBx.apart {w0 w : World} {hb B : Nat} {R C : Int} {A : Option Addr} {cap : Nat} {l : List Ed} (h : HBx w0 w hb B R C (.slice A l.length cap) l) {g0 : Nat} (hg : g0 < B) (cs : Array Value) : RowsAt 3 edV (w.setRow g0 cs) A l := by
  have ho : (w.setRow g0 cs).ownsRow B 47 3 (.slice A l.length cap) l.length (flatV edV l) :=
    ownsRow_other h.own fun g hg' => setRow_other _ _ _ _ (by have := ownsRow_block h.own g hg'; omega)
  obtain ⟨A', cap', h1, _, _, h2⟩ := own_rows2 (f := edV) (s := 3) (fun _ => rfl) ho
  cases h1; exact h2
def FullPost (w : World) (e : Ending) (w' : World) : Prop := ∃ A cap, e = .returned (grV gF A cap) ∧ gF.es.length ≤ cap ∧ cap ≤ 9223372036854775807 ∧ RowsAt 3 edV w' A gF.es ∧ Below w.heap.size w w'
set_option maxRecDepth 100000 in
set_option maxHeartbeats 8000000 in
theorem full_any (w : World) : Calls Try.prog 27 #[.int .i64 1] w (FullPost w) := by
  go_enter Try.func27, Try.ntmps27
  go_upto_region 2 with fail
  have HR0 := hid (heap_alloc_new w (.cells #[.int .i64 0, .int .i64 0, .slice none 0 0] 24))
  have HB0 := hid (below_new w (.cells #[.int .i64 0, .int .i64 0, .slice none 0 0] 24))
  have HH0 := hid (HBx.start (w.alloc (.cells #[.int .i64 0, .int .i64 0, .slice none 0 0] 24)) 64 64)
  rw [alloc_size] at HH0
  generalize w.alloc (.cells #[.int .i64 0, .int .i64 0, .slice none 0 0] 24) = w1 at *
  generalize w1.alloc (.cells #[.int .i64 64, .int .i64 64, .slice none 0 0] 24) = w2 at *
  obtain ⟨hb, hhb⟩ : ∃ hb, hb = w.heap.size + 1 := ⟨_, rfl⟩
  rw [← hhb] at HH0 ⊢
  have HHB : Hid (w.heap.size < hb) := hid (by omega)
  generalize hb + 1 = B at *
  clear hhb
  go_wp2
  go_loopw [4] (fun i wr => ∃ (r : Nat) (pv : Value), r ≤ 64 ∧ i = .int .i64 r ∧ Hid (HBx w1 wr hb B 64 64 pv (fullL (64 * r)))) (fun i _ => 64 - (intOf i).toNat)
  case atStart => exact ⟨0, _, by omega, rfl, HH0⟩
  case round =>
    clear HH0
    obtain ⟨r, pv, hr, rfl, HH⟩ := hrel
    by_cases hlt : r < 64
    · have hri : (r : Int) < 64 := by omega
      go_wp2
      go_loopw [5] (fun i wx => ∃ (c : Nat) (pv : Value), c ≤ 64 ∧ i = .int .i64 c ∧ Hid (HBx w1 wx hb B 64 64 pv (fullL (64 * r + c)))) (fun i _ => 64 - (intOf i).toNat)
      case atStart => exact ⟨0, pv, by omega, rfl, HH⟩
      case round =>
        clear HH
        obtain ⟨c, pv, hc, rfl, HH⟩ := hrel
        by_cases hlc : c < 64
        · have hci : (c : Int) < 64 := by omega
          obtain ⟨wz, hwz⟩ : ∃ wz, wz = wr := ⟨_, rfl⟩
          subst hwz
          have HSC : Hid (fullL (64 * r + (c + 1)) = fullL (64 * r + c) ++ [⟨(r : Int), (c : Int), 1099513724929 - (r : Int)⟩]) := hid (by
            rw [← Nat.add_assoc, fullL_succ]
            unfold fullE
            rw [show (64 * r + c) / 64 = r by omega, show (64 * r + c) % 64 = c by omega])
          obtain ⟨L, hL⟩ : ∃ L, L = fullL (64 * r + c) := ⟨_, rfl⟩
          have HLL : Hid (L.length ≤ 9000) := hid (by rw [hL, fullL_len]; omega)
          rw [← hL] at HH HSC
          clear hL
          have HH10 := hid HH.out
          clear HH
          have HOW := hid (HH10.out.ownAt (below_new wz (.cells #[.int .i64 r, .int .i64 (c : Int), .int .i64 (1099513724929 - (r : Int))] 47)))
          have HSZ : Hid (B ≤ (wz.alloc (.cells #[.int .i64 r, .int .i64 (c : Int), .int .i64 (1099513724929 - (r : Int))] 47)).heap.size) := hid (by rw [alloc_size]; have := HH10.out.ord; omega)
          have HFIN := hid (fun (v5 : Value) (w5 : World) ho hg => HH10.out.grow (m := [⟨(r : Int), (c : Int), 1099513724929 - (r : Int)⟩]) (v2 := v5) (w4 := w5) (below_new wz (.cells #[.int .i64 r, .int .i64 (c : Int), .int .i64 (1099513724929 - (r : Int))] 47)) rfl rfl ho hg)
          obtain ⟨i1, hi1, hz10, hz11, hz12⟩ := info_parts info_edge3
          have h2 := HH10.out.list
          go_wp2_with (at_builtin; refine wpList_append_own_at _ rfl _ _ 22 rfl B 47 i1 (.agg #[.int .i64 0, .int .i64 0, .int .i64 0]) 3 24 Try.underlying22 hi1 hz10 hz11 hz12 rfl (by decide) pv L.length (flatV edV L) rfl HOW.out ⟨wz.heap.size, 0, none⟩ 1 1 [.int .i64 r, .int .i64 (c : Int), .int .i64 (1099513724929 - (r : Int))] rfl rfl (cells_new _ _ _) (by simp [Value.oneCell']) ?d3 ?d4 HSZ.out ?_)
          case d3 => have := HLL.out; unfold maxLen; omega
          case d4 => have := HLL.out; omega
          intro v5 w5 hown5 hgrow5 _ _
          obtain ⟨a5, p5, rfl⟩ := ownsRow_shape hown5
          have hfin := HFIN.out _ w5 hown5 hgrow5
          have c5 := row_cell hfin.1 2 pv rfl
          have f5 := free_row hfin.1 2
          have HG5 := hid hfin.2
          clear hown5 hgrow5 hfin HFIN HOW HSZ h2
          go_wp2
          exact ⟨⟨c + 1, _, by omega, by go_num, hid (by rw [HSC.out]; exact HG5.out)⟩, by simp [intOf]; omega⟩
        · obtain rfl : c = 64 := by omega
          have hci : ¬ ((64 : Nat) : Int) < 64 := by omega
          clear hlc hc
          go_wp2
          exact ⟨⟨r + 1, _, by omega, by go_num, hid (by rw [show 64 * (r + 1) = 64 * r + 64 by omega]; exact HH.out)⟩, by simp [intOf]; omega⟩
    · obtain rfl : r = 64 := by omega
      have hri : ¬ ((64 : Nat) : Int) < 64 := by omega
      obtain ⟨A, cap, rfl, h1, h2, h3⟩ := HH.out.graph (gx := gF) rfl rfl rfl
      have HG := hid h3
      have HRB := hid (below_keep HG.out.below HR0.out)
      have HCAP := hid (And.intro h1 h2)
      have HRW := hid (HH.out.apart (l := gF.es) (g0 := w.heap.size) (by have := HH.out.ord; have := HHB.out; omega))
      clear hlt hr h1 h2 h3 HH
      go_wp2_with (first | (refine wpList_load_w rfl 24 _ rfl _ rfl _ _ _ _ (HG.out.blk) Try.underlying24 rfl (info_gr) ?_) | (refine wpList_store_row rfl 24 _ _ rfl w.heap.size rfl _ rfl _ _ HRB.out rfl (gr_one _ _ _ _ _) info_gr _ rfl ?_))
      refine bodyPost_ret (results_cell_row rfl _ _ w.heap.size 24 _ (0, 0) _ rfl (setRow_at HRB.out _) Try.underlying24 rfl info_gr) rfl ⟨A, cap, rfl, HCAP.out.1, HCAP.out.2, HRW.out _, below_setRow' (below_tr HB0.out HG.out.below) (Nat.le_refl _) _⟩
end Go.Proofs.Ytmddhjoomlhbcaa
