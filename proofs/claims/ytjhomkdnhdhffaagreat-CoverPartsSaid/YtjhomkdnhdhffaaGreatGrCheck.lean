/- The walks of weigh.Check and of the reference's Check. -/
import Derived.Test.YtjhomkdnhdhffaaGreatGraph
import Derived.Deep.DeepCutAuto
import Derived.WalkMore
namespace Go.Proofs.YtjhomkdnhdhffaaGreat
open Go.RowKit

def edBad (rows cols : Int) (x : Ed) : Bool := decide (x.r < 0 ∨ x.r ≥ rows ∨ x.c < 0 ∨ x.c ≥ cols ∨ x.w < 1 ∨ x.w > 1099513724929)
def ordBad (y x : Ed) : Bool := decide (x.r < y.r ∨ x.r = y.r ∧ x.c ≤ y.c)
def badFrom (rows cols : Int) : Ed → List Ed → Bool
  | _, [] => false
  | p, x :: l => edBad rows cols x || ordBad p x || badFrom rows cols x l
def sizeBad (g : Gr) : Bool := decide (g.rows < 0 ∨ g.rows > 64 ∨ g.cols < 0 ∨ g.cols > 64)
/-- May the graph be? -/
def chk (g : Gr) : Bool := !(sizeBad g || badFrom g.rows g.cols ⟨-1, 0, 0⟩ g.es)
def chkV (g : Gr) : Int := if chk g = true then 0 else 170

/-- The edge ahead of the k-th one. -/
def prevE (g : Gr) (k : Nat) : Ed := ((⟨-1, 0, 0⟩ : Ed) :: g.es)[k]?.getD ⟨-1, 0, 0⟩
theorem prevE_zero (g : Gr) : prevE g 0 = ⟨-1, 0, 0⟩ := rfl
theorem prevE_succ {g : Gr} {k : Nat} {x : Ed} (h : g.es[k]? = some x) : prevE g (k + 1) = x := by simp [prevE, h]

/-- Nothing bad among the first k edges. -/
def okTo (g : Gr) (k : Nat) : Prop := badFrom g.rows g.cols ⟨-1, 0, 0⟩ g.es = badFrom g.rows g.cols (prevE g k) (g.es.drop k)
theorem okTo_zero (g : Gr) : okTo g 0 := rfl
theorem okTo_at {g : Gr} {k : Nat} {x : Ed} (h : okTo g k) (hx : g.es[k]? = some x) :
    badFrom g.rows g.cols ⟨-1, 0, 0⟩ g.es = (edBad g.rows g.cols x || ordBad (prevE g k) x || badFrom g.rows g.cols x (g.es.drop (k + 1))) := by
  obtain ⟨hk, rfl⟩ := List.getElem?_eq_some_iff.1 hx
  rw [h, List.drop_eq_getElem_cons hk]; rfl
theorem okTo_succ {g : Gr} {k : Nat} {x : Ed} (h : okTo g k) (hx : g.es[k]? = some x) (h1 : edBad g.rows g.cols x = false) (h2 : ordBad (prevE g k) x = false) : okTo g (k + 1) := by
  unfold okTo
  rw [okTo_at h hx, h1, h2, prevE_succ hx]; rfl
theorem okTo_bad1 {g : Gr} {k : Nat} {x : Ed} (h : okTo g k) (hx : g.es[k]? = some x) (h1 : edBad g.rows g.cols x = true) : chkV g = 170 := by
  unfold chkV chk
  rw [okTo_at h hx, h1]; simp
theorem okTo_bad2 {g : Gr} {k : Nat} {x : Ed} (h : okTo g k) (hx : g.es[k]? = some x) (h1 : ordBad (prevE g k) x = true) : chkV g = 170 := by
  unfold chkV chk
  rw [okTo_at h hx, h1]; simp
theorem chkV_size {g : Gr} (h : sizeBad g = true) : chkV g = 170 := by unfold chkV chk; rw [h]; simp
theorem chkV_end {g : Gr} {k : Nat} (h : okTo g k) (hk : g.es.length ≤ k) (hs : sizeBad g = false) : chkV g = 0 := by
  unfold chkV chk
  rw [hs, h, List.drop_of_length_le hk]; rfl

def grC (g : Gr) (a : Option Addr) (cap : Nat) : Array Value := #[.int .i64 g.rows, .int .i64 g.cols, .slice a g.es.length cap]
theorem info_ed : (Tryz.prog.info? 78).map (·.size) = some 3 := by kernel_rfl
theorem info_gr : (Tryz.prog.info? 24).map (·.size) = some 3 := by kernel_rfl
theorem cellsOf_ed : Tryz.prog.cellsOf 78 = 3 := by kernel_rfl
theorem ed_one (e : Ed) : ∀ v ∈ (edV e).toList, v.oneCell' = true := by simp [edV, Value.oneCell']

set_option maxRecDepth 100000 in
set_option maxHeartbeats 2000000 in
theorem check_any (g : Gr) (a : Option Addr) (cap : Nat) (hok : GrOk g cap) (w : World) (hr : RowsAt 3 edV w a g.es) :
    Calls Tryz.prog 25 #[grV g a cap] w fun e w' => e = .returned (.int .i64 (chkV g)) ∧ Below w.heap.size w w' := by
  have HOK := hid hok
  have HR := hid hr
  have hlen : g.es.length ≤ 9223372036854775807 := by have := hok.len; have := hok.cap; omega
  clear hok hr
  unfold grV
  go_enter Tryz.func25, Tryz.ntmps25
  go_upto_region 1 with fail
  go_step3
  go_upto_region 1 with fail
  go_cut [3] (fun b wx => b = .bool (sizeBad g) ∧ wx = w.alloc (.cells #[.int .i64 g.rows, .int .i64 g.cols, .slice a g.es.length cap] 24))
  case first =>
    by_cases h1 : g.rows < 0
    · have hs : Hid (sizeBad g = true) := hid (by simp [sizeBad, h1])
      go_wp2
      go_meet
      exact ⟨by rw [hs.out], rfl⟩
    by_cases h2 : g.rows > 64
    · have hs : Hid (sizeBad g = true) := hid (by simp [sizeBad, h2])
      go_wp2
      go_meet
      exact ⟨by rw [hs.out], rfl⟩
    by_cases h3 : g.cols < 0
    · have hs : Hid (sizeBad g = true) := hid (by simp [sizeBad, h3])
      go_wp2
      go_meet
      exact ⟨by rw [hs.out], rfl⟩
    by_cases h4 : g.cols > 64
    · have hs : Hid (sizeBad g = true) := hid (by simp [sizeBad, h4])
      go_wp2
      go_meet
      exact ⟨by rw [hs.out], rfl⟩
    have hs : Hid (sizeBad g = false) := hid (by simp [sizeBad]; omega)
    go_wp2
    go_meet
    exact ⟨by rw [hs.out], rfl⟩
  case rest =>
    obtain ⟨rfl, rfl⟩ := hcut
    obtain ⟨B, hB⟩ : ∃ B, B = sizeBad g := ⟨_, rfl⟩
    rw [← hB]
    have HB := hid hB
    clear hB
    go_wp2
    go_step3
    go_wp2
    go_loopw [3, 6, 29, 33, 56] (fun b _ i _ _ wr => ∃ k : Nat, k ≤ g.es.length ∧ i = .int .i64 k ∧ b = .bool B ∧ okTo g k ∧
      wr.heap[w.heap.size]? = some (.cells #[.int .i64 g.rows, .int .i64 g.cols, .slice a g.es.length cap] 24 (0, 0)) ∧
      wr.heap[w.heap.size + 1]? = some (.cells (edV (prevE g k)) 78 (0, 0)) ∧ Below w.heap.size w wr) (fun _ _ i _ _ _ => g.es.length - (intOf i).toNat)
    case atStart => exact ⟨0, by omega, rfl, rfl, okTo_zero g, alloc_keep (heap_alloc_new _ _) _, heap_2 _ _ _, ((Below.refl _ _).alloc (Nat.le_refl _) _).alloc (by simp) _⟩
    case round =>
      obtain ⟨k, hk, rfl, rfl, hto, hg0, hg1, hbel⟩ := hrel
      have HT := hid hto
      have HG := hid hg0
      have HL := hid hg1
      have HW := hid hbel
      clear hto hbel
      have c00 : wr.cell? ⟨w.heap.size, 0, none⟩ = some (.int .i64 g.rows) := row_cell hg0 0 _ rfl
      have c01 : wr.cell? ⟨w.heap.size, 1, none⟩ = some (.int .i64 g.cols) := row_cell hg0 1 _ rfl
      have c10 : wr.cell? ⟨w.heap.size + 1, 0, none⟩ = some (.int .i64 (prevE g k).r) := row_cell hg1 0 _ rfl
      have c11 : wr.cell? ⟨w.heap.size + 1, 1, none⟩ = some (.int .i64 (prevE g k).c) := row_cell hg1 1 _ rfl
      have l0 := cell_lt c00
      have l1 := cell_lt c10
      clear hg0 hg1
      by_cases hlt : k < g.es.length
      · obtain ⟨x, hx⟩ : ∃ x, g.es[k]? = some x := ⟨g.es[k], by simp [hlt]⟩
        obtain ⟨gg, o, rfl, hgg, hcc⟩ := (HR.out.kept HW.out).get hx
        have HX := hid hx
        have HC : Hid (CellsAt wr gg (o + k * 3) #[.int .i64 x.r, .int .i64 x.c, .int .i64 x.w]) := hid (by rw [Nat.mul_comm]; exact hcc)
        have B1 : Hid (edBad g.rows g.cols x = true → chkV g = 170) := hid (okTo_bad1 HT.out hx)
        have B2 : Hid (ordBad (prevE g k) x = true → chkV g = 170) := hid (okTo_bad2 HT.out hx)
        have HN : Hid (edBad g.rows g.cols x = false → ordBad (prevE g k) x = false → okTo g (k + 1)) := hid (okTo_succ HT.out hx)
        have HP : Hid (prevE g (k + 1) = x) := hid (prevE_succ hx)
        clear hx hcc hgg
        generalize hpe : prevE g k = pe at *
        clear hpe
        by_cases h1 : x.r < 0
        · have HB1 : Hid (chkV g = 170) := hid (B1.out (by simp [edBad, h1]))
          go_wp2_with (refine wpList_load_cells rfl 78 _ rfl _ _ rfl _ _ HC.out Tryz.underlying78 rfl info_ed ?_)
          try rw [Exit.noGoto_ret]
          go_ret
          exact ⟨by rw [HB1.out]; rfl, HW.out.alloc HW.out.size _⟩
        by_cases h2 : x.r ≥ g.rows
        · have HB1 : Hid (chkV g = 170) := hid (B1.out (by simp [edBad, h2]))
          go_wp2_with (refine wpList_load_cells rfl 78 _ rfl _ _ rfl _ _ HC.out Tryz.underlying78 rfl info_ed ?_)
          try rw [Exit.noGoto_ret]
          go_ret
          exact ⟨by rw [HB1.out]; rfl, HW.out.alloc HW.out.size _⟩
        by_cases h3 : x.c < 0
        · have HB1 : Hid (chkV g = 170) := hid (B1.out (by simp [edBad, h3]))
          go_wp2_with (refine wpList_load_cells rfl 78 _ rfl _ _ rfl _ _ HC.out Tryz.underlying78 rfl info_ed ?_)
          try rw [Exit.noGoto_ret]
          go_ret
          exact ⟨by rw [HB1.out]; rfl, HW.out.alloc HW.out.size _⟩
        by_cases h4 : x.c ≥ g.cols
        · have HB1 : Hid (chkV g = 170) := hid (B1.out (by simp [edBad, h4]))
          go_wp2_with (refine wpList_load_cells rfl 78 _ rfl _ _ rfl _ _ HC.out Tryz.underlying78 rfl info_ed ?_)
          try rw [Exit.noGoto_ret]
          go_ret
          exact ⟨by rw [HB1.out]; rfl, HW.out.alloc HW.out.size _⟩
        by_cases h5 : x.w < 1
        · have HB1 : Hid (chkV g = 170) := hid (B1.out (by simp [edBad, h5]))
          go_wp2_with (refine wpList_load_cells rfl 78 _ rfl _ _ rfl _ _ HC.out Tryz.underlying78 rfl info_ed ?_)
          try rw [Exit.noGoto_ret]
          go_ret
          exact ⟨by rw [HB1.out]; rfl, HW.out.alloc HW.out.size _⟩
        by_cases h6 : x.w > 1099513724929
        · have HB1 : Hid (chkV g = 170) := hid (B1.out (by simp [edBad, h6]))
          go_wp2_with (refine wpList_load_cells rfl 78 _ rfl _ _ rfl _ _ HC.out Tryz.underlying78 rfl info_ed ?_)
          try rw [Exit.noGoto_ret]
          go_ret
          exact ⟨by rw [HB1.out]; rfl, HW.out.alloc HW.out.size _⟩
        have HE : Hid (edBad g.rows g.cols x = false) := hid (by simp [edBad]; omega)
        by_cases h7 : x.r < pe.r
        · have HB1 : Hid (chkV g = 170) := hid (B2.out (by simp [ordBad, h7]))
          go_wp2_with (refine wpList_load_cells rfl 78 _ rfl _ _ rfl _ _ HC.out Tryz.underlying78 rfl info_ed ?_)
          try rw [Exit.noGoto_ret]
          go_ret
          exact ⟨by rw [HB1.out]; rfl, HW.out.alloc HW.out.size _⟩
        by_cases h8 : x.r = pe.r
        · have hb8 : (x.r == pe.r) = true := by simpa using h8
          have H8 := hid h8
          clear h8
          by_cases h9 : x.c ≤ pe.c
          · have HB1 : Hid (chkV g = 170) := hid (B2.out (by simp [ordBad, H8.out, h9]))
            go_wp2_with (refine wpList_load_cells rfl 78 _ rfl _ _ rfl _ _ HC.out Tryz.underlying78 rfl info_ed ?_)
            try rw [Exit.noGoto_ret]
            go_ret
            exact ⟨by rw [HB1.out]; rfl, HW.out.alloc HW.out.size _⟩
          · have HN2 := hid (HN.out HE.out (by simp [ordBad, H8.out]; omega))
            go_wp2_with (first | (refine wpList_load_cells rfl 78 _ rfl _ _ rfl _ _ HC.out Tryz.underlying78 rfl info_ed ?_) | (refine wpList_store_row rfl 78 _ _ rfl (w.heap.size + 1) rfl _ rfl _ _ (alloc_keep HL.out _) rfl (ed_one x) info_ed _ rfl ?_))
            go_roundw
            case rel => exact ⟨k + 1, by omega, by go_num, rfl, HN2.out, setRow_keep (alloc_keep HG.out _) _ _ (by omega), by rw [HP.out]; exact setRow_at (alloc_keep HL.out _) _, below_setRow' (HW.out.alloc HW.out.size _) (by omega) _⟩
            case measure => simp [intOf]; omega
        · have HN2 := hid (HN.out HE.out (by simp [ordBad]; omega))
          have hb8 : (x.r == pe.r) = false := by simpa using h8
          clear h8
          go_wp2_with (first | (refine wpList_load_cells rfl 78 _ rfl _ _ rfl _ _ HC.out Tryz.underlying78 rfl info_ed ?_) | (refine wpList_store_row rfl 78 _ _ rfl (w.heap.size + 1) rfl _ rfl _ _ (alloc_keep HL.out _) rfl (ed_one x) info_ed _ rfl ?_))
          go_roundw
          case rel => exact ⟨k + 1, by omega, by go_num, rfl, HN2.out, setRow_keep (alloc_keep HG.out _) _ _ (by omega), by rw [HP.out]; exact setRow_at (alloc_keep HL.out _) _, below_setRow' (HW.out.alloc HW.out.size _) (by omega) _⟩
          case measure => simp [intOf]; omega
      · have HK : Hid (g.es.length ≤ k) := hid (by omega)
        cases B with
        | true =>
          go_wp2
          try rw [Exit.noGoto_ret]
          go_ret
          exact ⟨by rw [chkV_size HB.out.symm]; rfl, HW.out⟩
        | false =>
          go_wp2
          try rw [Exit.noGoto_ret]
          go_ret
          exact ⟨by rw [chkV_end HT.out HK.out HB.out.symm]; rfl, HW.out⟩
end Go.Proofs.YtjhomkdnhdhffaaGreat
