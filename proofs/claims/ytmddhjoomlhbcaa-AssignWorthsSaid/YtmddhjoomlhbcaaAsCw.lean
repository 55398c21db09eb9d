/- The walk of covers: point by point. -/
import Derived.Test.YtmddhjoomlhbcaaAsCv
namespace Go.Proofs.Ytmddhjoomlhbcaa
open Go.RowKit

/-! ### covers -/
def natV (x : Nat) : Array Value := #[.int .i64 (x : Int)]
theorem CvAt.clear {w0 w : World} {nb sb tb ob cb n : Nat} {fid : FuncId} {caps : Array Value} {s : St} (h : CvAt w0 w nb sb tb ob cb n fid caps s) : CvAt w0 (w.setRow sb (bls noMarks)) nb sb tb ob cb n fid caps { s with met := noMarks } := by
  have := h.ord
  exact ⟨setRow_keep h.nbox _ _ (by omega), setRow_at h.seen _, setRow_keep h.tbox _ _ (by omega), setRow_keep h.of _ _ (by omega), setRow_keep h.cbox _ _ (by omega), below_setRow' h.below (by omega) _, h.ord⟩
theorem bls_one (l : List Bool) : ∀ v ∈ (bls l).toList, v.oneCell' = true := by
  intro v hv
  simp [bls] at hv
  rcases hv with ⟨_, rfl⟩ | ⟨_, rfl⟩ <;> rfl
theorem bls_size (l : List Bool) : (bls l).size = l.length := by simp [bls]
theorem info_b64 : (Try.prog.info? 63).map (·.size) = some 64 := by kernel_rfl
theorem fillM_end : fillM 64 = none64 := rfl
/-- Ahead of the search: how many others, the function, who has whom. -/
structure CpAt (w0 w : World) (nb tb ob n : Nat) (fid : FuncId) (caps : Array Value) (col : List Int) : Prop where
  nbox : w.heap[nb]? = some (.cells #[.int .i64 n] 3 (0, 0))
  tbox : w.heap[tb]? = some (.cells #[.func (.func fid) #[] caps] 79 (0, 0))
  of : TabAt w ob 64 col
  below : Below w0.heap.size w0 w
  ord : w0.heap.size ≤ nb ∧ nb < tb ∧ tb < ob
theorem CpAt.start (w : World) (n : Nat) (fid : FuncId) (caps : Array Value) : CpAt w (((w.alloc (.cells #[.int .i64 n] 3)).alloc (.cells #[.func (.func fid) #[] caps] 79)).alloc (.cells (ints (List.replicate 64 0)) 64)) w.heap.size (w.heap.size + 1) (w.heap.size + 1 + 1) n fid caps (fillM 0) := by
  have b1 : Below w.heap.size w (w.alloc (.cells #[.int .i64 n] 3)) := (Below.refl _ _).alloc (Nat.le_refl _) _
  have n1 := heap_alloc_new w (.cells #[.int .i64 (n : Int)] 3)
  have s1 : (w.alloc (.cells #[.int .i64 n] 3)).heap.size = w.heap.size + 1 := alloc_size _ _
  generalize w.alloc (.cells #[.int .i64 n] 3) = a at *
  have b2 : Below a.heap.size a (a.alloc (.cells #[.func (.func fid) #[] caps] 79)) := (Below.refl _ _).alloc (Nat.le_refl _) _
  have n2 : (a.alloc (.cells #[.func (.func fid) #[] caps] 79)).heap[w.heap.size + 1]? = some (.cells #[.func (.func fid) #[] caps] 79 (0, 0)) := by rw [← s1]; exact heap_alloc_new _ _
  have s2 : (a.alloc (.cells #[.func (.func fid) #[] caps] 79)).heap.size = w.heap.size + 1 + 1 := by rw [alloc_size, s1]
  generalize a.alloc (.cells #[.func (.func fid) #[] caps] 79) = b at *
  have b3 : Below b.heap.size b (b.alloc (.cells (ints (List.replicate 64 0)) 64)) := (Below.refl _ _).alloc (Nat.le_refl _) _
  have n3 : TabAt (b.alloc (.cells (ints (List.replicate 64 0)) 64)) (w.heap.size + 1 + 1) 64 (fillM 0) := by rw [← s2]; exact heap_alloc_new _ _
  generalize b.alloc (.cells (ints (List.replicate 64 0)) 64) = c at *
  have k2 := b2.trans (b3.mono b2.size)
  exact ⟨below_keep k2 n1, below_keep b3 n2, n3, b1.trans (k2.mono b1.size), ⟨Nat.le_refl _, by omega, by omega⟩⟩
theorem CpAt.setOf {w0 w : World} {nb tb ob n : Nat} {fid : FuncId} {caps : Array Value} {col : List Int} (h : CpAt w0 w nb tb ob n fid caps col) (k : Nat) (x : Int) : CpAt w0 (w.setCell ⟨ob, k, none⟩ (.int .i64 x)) nb tb ob n fid caps (col.set k x) := by
  have := h.ord
  exact ⟨by rw [heap_setCell_ne (by omega)]; exact h.nbox, by rw [heap_setCell_ne (by omega)]; exact h.tbox, h.of.set k x, h.below.setCell (by show w0.heap.size ≤ ob; omega) _, h.ord⟩
theorem CpAt.full {w0 w : World} {nb tb ob n : Nat} {fid : FuncId} {caps : Array Value} {row col : List Int} (h : CpAt w0 w nb tb ob n fid caps col) (v : Value) (hv : v = .func (.func 50) #[] #[.pointer (some ⟨nb, 0, none⟩), .pointer (some ⟨w.heap.size, 0, none⟩), .pointer (some ⟨tb, 0, none⟩), .pointer (some ⟨ob, 0, none⟩), .pointer (some ⟨w.heap.size + 1, 0, none⟩)]) :
    CvAt w0 ((w.alloc (.cells (bls noMarks) 63)).alloc (.cells #[v] 81)) nb w.heap.size tb ob (w.heap.size + 1) n fid caps ⟨noMarks, row, col⟩ := by
  subst hv
  have hlt := h.of.lt
  have b1 : Below w.heap.size w (w.alloc (.cells (bls noMarks) 63)) := (Below.refl _ _).alloc (Nat.le_refl _) _
  have n1 : BlsAt (w.alloc (.cells (bls noMarks) 63)) w.heap.size 63 noMarks := heap_alloc_new _ _
  have s1 : (w.alloc (.cells (bls noMarks) 63)).heap.size = w.heap.size + 1 := alloc_size _ _
  generalize w.alloc (.cells (bls noMarks) 63) = a at *
  rw [← s1]
  have b2 : Below a.heap.size a (a.alloc (.cells #[.func (.func 50) #[] #[.pointer (some ⟨nb, 0, none⟩), .pointer (some ⟨w.heap.size, 0, none⟩), .pointer (some ⟨tb, 0, none⟩), .pointer (some ⟨ob, 0, none⟩), .pointer (some ⟨a.heap.size, 0, none⟩)]] 81)) := (Below.refl _ _).alloc (Nat.le_refl _) _
  have k := b1.trans (b2.mono b1.size)
  have := h.ord
  exact ⟨below_keep k h.nbox, n1.kept b2, below_keep k h.tbox, h.of.kept k, heap_alloc_new _ _, h.below.trans (k.mono h.below.size), ⟨by omega, by omega, by omega, hlt, by omega⟩⟩

set_option maxRecDepth 100000 in
set_option maxHeartbeats 4000000 in
theorem covers_any (w : World) (n : Nat) (fid : FuncId) (caps : Array Value) (t : Nat → Nat → Bool) (hn : n ≤ 64) (hent : Enters fid) (hT : TightAt w fid caps n t) (l : List Nat) (hl : ∀ a ∈ l, a < 64) (hl64 : l.length ≤ 64) (A : Option Addr) (cap : Nat) (hm : RowsAt 1 natV w A l) :
    Calls Try.prog 48 #[.slice A l.length cap, .int .i64 n, .func (.func fid) #[] caps] w fun e w' => e = .returned (.bool (covL (tlOf n t) l none64 none64)) ∧ Below w.heap.size w w' := by
  have CM := hid (fun nb sb tb ob cb => comes_any w nb sb tb ob cb n fid caps t hn hent hT 65)
  have HK := hid (tryF_keeps (tlOf_ok hn t) 65)
  have HL := hid hl
  have HM := hid hm
  have HCP := hid (CpAt.start w n fid caps)
  have HN := hid hn
  have hst := fun (W : World) (a : Addr) f b c => run_store Try.prog W a (Value.func f b c) .plain rfl
  clear hent hT hl hm hn
  go_enter Try.func48, Try.ntmps48
  go_upto_region 2 with fail
  refine at_world (fun w1 => CpAt w w1 w.heap.size (w.heap.size + 1) (w.heap.size + 1 + 1) n fid caps (fillM 0)) _ rfl HCP.out ?_
  intro w1 hc1
  have HC := hid hc1
  clear hc1 HCP
  generalize w.heap.size + 1 + 1 = ob at *
  generalize w.heap.size + 1 = tb at *
  go_wp2
  go_loopw [13] (fun i wr => ∃ k : Nat, k ≤ 64 ∧ i = .int .i64 k ∧ Hid (CpAt w wr w.heap.size tb ob n fid caps (fillM k))) (fun i _ => 64 - (intOf i).toNat)
  case atStart => exact ⟨0, by omega, rfl, HC⟩
  case round =>
    clear HC
    obtain ⟨k, hk, rfl, HC⟩ := hrel
    by_cases hk64 : k < 64
    · have hki : (k : Int) < 64 := by omega
      have c1 := HC.out.of.cellI (k := k) (by rw [fillM_len hk]; omega)
      have f1 := free_row HC.out.of k
      have HC2 := hid (HC.out.setOf k (-1))
      rw [fillM_set hk64] at HC2
      go_wp2
      go_roundw
      case rel => exact ⟨k + 1, by omega, by go_num, HC2⟩
      case measure => simp [intOf]; omega
    · obtain rfl : k = 64 := by omega
      have hki : ¬ ((64 : Nat) : Int) < 64 := by omega
      have HF := hid (HC.out.full (row := none64) _ rfl)
      have hlt := HC.out.of.lt
      clear hk hk64
      go_upto_region 10 with fail
      refine at_world (fun w2 => CvAt w w2 w.heap.size wr.heap.size tb ob (wr.heap.size + 1) n fid caps ⟨noMarks, none64, fillM 64⟩) _ rfl HF.out ?_
      intro w2 hv2
      have HV : Hid (CvAt w w2 w.heap.size wr.heap.size tb ob (wr.heap.size + 1) n fid caps ⟨noMarks, none64, none64⟩) := hid hv2
      have HM2 := hid (HM.out.kept HV.out.below)
      clear hv2 HF HC hki hst
      generalize wr.heap.size + 1 = cb at *
      generalize wr.heap.size = sb at *
      go_wp2
      go_loopw [22] (fun i wr => ∃ (k : Nat) (met : List Bool) (row col : List Int), k ≤ l.length ∧ i = .int .i64 k ∧ Hid (CvAt w wr w.heap.size sb tb ob cb n fid caps ⟨met, row, col⟩) ∧ Hid (PairOk row col ∧ met.length = 64) ∧ Hid (covL (tlOf n t) l none64 none64 = covL (tlOf n t) (l.drop k) row col)) (fun i _ => l.length - (intOf i).toNat)
      case atStart => exact ⟨0, _, _, _, by omega, rfl, HV, hid ⟨none64_pairs, by simp [noMarks]⟩, hid rfl⟩
      case round =>
        clear HV HM2
        obtain ⟨k, met, row, col, hk, rfl, HV, HPO, HT⟩ := hrel
        by_cases hlt : k < l.length
        · obtain ⟨x, hx⟩ : ∃ x, l[k]? = some x := ⟨l[k], by simp [hlt]⟩
          have hx64 : x < 64 := HL.out x (List.mem_of_getElem? hx)
          have hki : (k : Int) < (l.length : Int) := by omega
          have HD : Hid (l.drop k = x :: l.drop (k + 1)) := hid (by obtain ⟨h1, h2⟩ := List.getElem?_eq_some_iff.1 hx; rw [List.drop_eq_getElem_cons h1, h2])
          obtain ⟨g, o, rfl, _, hc⟩ := (HM.out.kept HV.out.below).get hx
          have cx : wr.cell? ⟨g, o + k, none⟩ = some (.int .i64 x) := by have h := hc 0 (.int .i64 (x : Int)) rfl; rw [Nat.one_mul, Nat.add_zero] at h; exact h
          clear hx hc
          have HC2 := hid HV.out.clear
          have HSE := hid HV.out.seen
          have HIB : Hid ((Try.prog.info? 63).map (·.size) = some (bls noMarks).size) := hid (by rw [bls_size]; exact info_b64)
          have HSZ : Hid ((bls noMarks).size = (bls met).size) := hid (by rw [bls_size, bls_size, HPO.out.2]; rfl)
          go_upto_region 14 with (refine wpList_store_row rfl 63 _ _ rfl _ rfl (bls noMarks) rfl _ _ HSE.out HSZ.out (bls_one _) HIB.out _ rfl ?_)
          generalize wr.setRow sb (bls noMarks) = w5 at *
          have cb2 := row_cell HC2.out.cbox 0 _ rfl
          have hst5 : StOk ⟨noMarks, row, col⟩ := ⟨by simp [noMarks], HPO.out.1.rowL, HPO.out.1.colL, HPO.out.1.rows, HPO.out.1.cols⟩
          have C := hid (CM.out _ _ _ _ _ ⟨noMarks, row, col⟩ x w5 hx64 hst5 (by have := unmet_le noMarks; have e : noMarks.length = 64 := by simp [noMarks]
                                                                                 rw [e] at this; show unmet noMarks < 65; omega) HC2.out)
          have hks := (HK.out ⟨noMarks, row, col⟩ x hx64 hst5).1
          obtain ⟨rb, s2, hbs⟩ : ∃ rb s2, tryF (tlOf n t) noMarks 65 ⟨noMarks, row, col⟩ x = (rb, s2) := ⟨_, _, rfl⟩
          rw [hbs] at C hks
          have HS2 := hid hks
          have HT2 : Hid (covL (tlOf n t) l none64 none64 = if rb = true then covL (tlOf n t) (l.drop (k + 1)) s2.row s2.col else false) := hid (by rw [HT.out, HD.out, covL, hbs])
          clear hks hbs hst5
          cases rb with
          | true =>
            go_wp2_with (go_at_call 50; refine C.out.mono ?_; rintro e w6 ⟨rfl, hh6⟩; have HX6 := hid hh6; clear hh6)
            go_roundw
            case rel => exact ⟨_, _, _, _, _, _, _, _, _, _, _, _, ⟨k + 1, s2.met, s2.row, s2.col, by omega, by go_num, HX6, hid ⟨HS2.out.pairOk, HS2.out.met⟩, hid (by rw [HT2.out, if_pos trivial])⟩, rfl⟩
            case measure => simp [intOf]; omega
          | false =>
            go_wp2_with (go_at_call 50; refine C.out.mono ?_; rintro e w6 ⟨rfl, hh6⟩; have HX6 := hid hh6; clear hh6)
            go_ret
            exact ⟨by rw [HT2.out, if_neg (by simp)]; rfl, HX6.out.below⟩
        · obtain rfl : k = l.length := by omega
          have hki : ¬ ((l.length : Int) < (l.length : Int)) := by omega
          clear hk hlt
          go_wp2
          go_ret
          exact ⟨by rw [HT.out, List.drop_length]; rfl, HV.out.below⟩
end Go.Proofs.Ytmddhjoomlhbcaa
