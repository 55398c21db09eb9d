/- The walk of Best. -/
import Derived.Test.YtmddhjoomlhbcaaAsLd
import Derived.Test.YtmddhjoomlhbcaaAsPx
import Derived.Test.YtmddhjoomlhbcaaAsLw
import Derived.Test.YtmddhjoomlhbcaaAsOwn
import Derived.Laws.CopyOwn
import Derived.Deep.AppendLies
import Derived.Deep.RegionLaw
namespace Go.Proofs.Ytmddhjoomlhbcaa
open Go.RowKit

def numV (x : Int) : Array Value := #[.int .i64 x]
def prV (p : Int × Int) : Array Value := #[.int .i64 p.1, .int .i64 p.2]
/-- The pairs of the first n rows. -/
def prsTo (tt : List Int) (n : Nat) : List (Int × Int) := (List.range n).filterMap fun r => if getI tt r < 0 then none else some ((r : Int), getI tt r)
theorem prsTo_succ (tt : List Int) (n : Nat) : prsTo tt (n + 1) = prsTo tt n ++ (if getI tt n < 0 then [] else [((n : Int), getI tt n)]) := by
  unfold prsTo
  rw [List.range_succ, List.filterMap_append]
  by_cases h : getI tt n < 0 <;> simp [h]
theorem prsTo_len (tt : List Int) (n : Nat) : (prsTo tt n).length ≤ n := Nat.le_trans (List.length_filterMap_le _ _) (by simp)
/-- What Best answers for a graph that may be. -/
structure BestAns (g : Gr) (tt y z : List Int) : Prop where
  best : BestW (wG g) g.rows.toNat g.cols.toNat (upTo g.rows.toNat tt) (getI y) (getI z)
  lt : tt.length = 64
  ly : y.length = 64
  lz : z.length = 64
  val : ∀ x, x < g.rows.toNat → getI tt x = -1 ∨ ∃ c : Nat, getI tt x = c ∧ c < g.cols.toNat
/-- A certificate in memory. -/
structure CertAt (w : World) (v : Value) (ps : List (Int × Int)) (ys zs : List Int) : Prop where
  at_ : ∃ Ap cp Ay cy Az cz, v = .agg #[.slice Ap ps.length cp, .slice Ay ys.length cy, .slice Az zs.length cz] ∧ ps.length ≤ cp ∧ ys.length ≤ cy ∧ zs.length ≤ cz ∧ RowsAt 2 prV w Ap ps ∧ RowsAt 1 numV w Ay ys ∧ RowsAt 1 numV w Az zs
def BestPost (w : World) (g : Gr) (e : Ending) (w' : World) : Prop :=
  Below w.heap.size w w' ∧ ((chk g = false ∧ e = .returned (.tuple #[.agg #[.slice none 0 0, .slice none 0 0, .slice none 0 0], .int .i64 170])) ∨
  (chk g = true ∧ ∃ tt y z v, BestAns g tt y z ∧ e = .returned (.tuple #[v, .int .i64 0]) ∧ CertAt w' v (prsTo tt g.rows.toNat) (y.take g.rows.toNat) (z.take g.cols.toNat)))

theorem tab_rows {w : World} {b : Nat} {T : TypeId} {l : List Int} (h : TabAt w b T l) : RowsAt 1 numV w (some ⟨b, 0, none⟩) l := by
  refine .inr ⟨b, 0, rfl, h.lt, fun i x hx j u hj => ?_⟩
  have hj0 : j = 0 := by
    have := (Array.getElem?_eq_some_iff.1 hj).1
    simp [numV] at this; exact this
  subst hj0
  have hu : u = .int .i64 x := by simp [numV] at hj; exact hj.symm
  subst hu
  rw [show 0 + 1 * i + 0 = i by omega]
  exact h.cell hx

def z64 : Array Value := ints (List.replicate 64 0)
theorem two_new (w : World) (y z : List Int) : let w' := (((w.alloc (.cells z64 64)).alloc (.cells z64 64)).setRow w.heap.size (ints y)).setRow (w.heap.size + 1) (ints z)
    TabAt w' w.heap.size 64 y ∧ TabAt w' (w.heap.size + 1) 64 z ∧ Below w.heap.size w w' := by
  have h1 : ((w.alloc (.cells z64 64)).alloc (.cells z64 64)).heap[w.heap.size]? = some (.cells z64 64 (0, 0)) := alloc_keep (heap_alloc_new _ _) _
  have h2 : ((w.alloc (.cells z64 64)).alloc (.cells z64 64)).heap[w.heap.size + 1]? = some (.cells z64 64 (0, 0)) := heap_2 _ _ _
  have hb : Below w.heap.size w ((w.alloc (.cells z64 64)).alloc (.cells z64 64)) := ((Below.refl _ _).alloc (Nat.le_refl _) _).alloc (by simp) _
  generalize (w.alloc (.cells z64 64)).alloc (.cells z64 64) = a at *
  intro w'
  have k1 : (a.setRow w.heap.size (ints y)).heap[w.heap.size]? = some (.cells (ints y) 64 (0, 0)) := setRow_at h1 _
  have k2 : (a.setRow w.heap.size (ints y)).heap[w.heap.size + 1]? = some (.cells z64 64 (0, 0)) := setRow_keep h2 _ _ (by omega)
  exact ⟨setRow_keep k1 _ _ (by omega), setRow_at k2 _, below_setRow' (below_setRow' hb (Nat.le_refl _) _) (by omega) _⟩

theorem made_intsA (n : Nat) : madeCells (Value.int .i64 0).cells n = ints (List.replicate n 0) := by
  apply Array.ext
  · simp [size_madeCells, ints]
  · intro i h1 h2
    simp only [madeCells, Array.getElem_map, Array.getElem_range, ints, List.getElem_toArray, List.getElem_map, List.getElem_replicate]
    show #[Value.int .i64 0][i % 1]! = _
    rw [Nat.mod_one]; rfl
theorem make_intsA (w : World) (R : Nat) (hR : R ≤ 64) : (Instr.makeSlice 37 (.int .i64 (R : Int)) (.int .i64 (R : Int))).run Try.prog w = .ok (.slice (some ⟨w.heap.size, 0, none⟩) R R) (w.alloc (.cells (ints (List.replicate R 0)) 3)) := by
  obtain ⟨i, hi, hz0, hz1, hz2⟩ := info_parts info_intA
  have h := run_make (P := Try.prog) w 37 3 i _ Try.underlying37 hi hz0 .i64 .i64 (R : Int) (R : Int) (by omega) (by omega) (by rw [hz2]; omega) (by omega)
  rw [h, hz1, Int.toNat_natCast, Nat.mul_one, made_intsA]
/-- A certificate that is being made. -/
structure CzAt (w0 w : World) (gy gz gc R C : Nat) (ys zs : List Int) (pv : Value) : Prop where
  y : TabAt w gy 3 ys
  z : TabAt w gz 3 zs
  cert : w.heap[gc]? = some (.cells #[pv, .slice (some ⟨gy, 0, none⟩) R R, .slice (some ⟨gz, 0, none⟩) C C] 39 (0, 0))
  below : Below w0.heap.size w0 w
  ne : w0.heap.size ≤ gy ∧ w0.heap.size ≤ gz ∧ w0.heap.size ≤ gc ∧ gy ≠ gz ∧ gy ≠ gc ∧ gz ≠ gc

theorem CzAt.kept {w0 w w' : World} {gy gz gc R C : Nat} {ys zs : List Int} {pv : Value} (h : CzAt w0 w gy gz gc R C ys zs pv) (hb : Below w.heap.size w w') : CzAt w0 w' gy gz gc R C ys zs pv :=
  ⟨h.y.kept hb, h.z.kept hb, below_keep hb h.cert, h.below.trans (hb.mono h.below.size), h.ne⟩
theorem CzAt.setY {w0 w : World} {gy gz gc R C : Nat} {ys zs : List Int} {pv : Value} (h : CzAt w0 w gy gz gc R C ys zs pv) (l : List Int) : CzAt w0 (w.setRow gy (ints l)) gy gz gc R C l zs pv := by
  have := h.ne
  exact ⟨setRow_at h.y _, setRow_keep h.z _ _ (by omega), setRow_keep h.cert _ _ (by omega), below_setRow' h.below (by omega) _, h.ne⟩
theorem CzAt.setZ {w0 w : World} {gy gz gc R C : Nat} {ys zs : List Int} {pv : Value} (h : CzAt w0 w gy gz gc R C ys zs pv) (l : List Int) : CzAt w0 (w.setRow gz (ints l)) gy gz gc R C ys l pv := by
  have := h.ne
  exact ⟨setRow_keep h.y _ _ (by omega), setRow_at h.z _, setRow_keep h.cert _ _ (by omega), below_setRow' h.below (by omega) _, h.ne⟩

theorem take_len {y : List Int} (h : y.length = 64) {R : Nat} (_ : R ≤ 64) : ((y.take R).map (Value.int .i64)).length = Nat.min 64 R := by
  rw [List.length_map, List.length_take, h]; show min R 64 = min 64 R; omega
theorem copy_src {w : World} {b : Nat} {T : TypeId} {y : List Int} (h : TabAt w b T y) (R : Nat) : ∀ (j : Nat) v, ((y.take R).map (Value.int .i64))[j]? = some v → w.cell? ((⟨b, 0, none⟩ : Addr).add j) = some v := by
  intro j v hj
  rw [List.getElem?_map] at hj
  obtain ⟨x, hx, rfl⟩ := Option.map_eq_some_iff.1 hj
  rw [List.getElem?_take] at hx
  split at hx
  · rw [add_off]; exact h.cell hx
  · cases hx
theorem take_one (y : List Int) (R : Nat) : ∀ v ∈ (y.take R).map (Value.int .i64), v.oneCell' = true := by
  intro v hv
  obtain ⟨x, _, rfl⟩ := List.mem_map.1 hv
  rfl
theorem copy_res {y : List Int} (h : y.length = 64) {R : Nat} (hR : R ≤ 64) : (List.take 0 (ints (List.replicate R 0)).toList ++ ((y.take R).map (Value.int .i64) ++ List.drop (0 + ((y.take R).map (Value.int .i64)).length) (ints (List.replicate R 0)).toList)).toArray = ints (y.take R) := by
  rw [take_len h hR, List.take_zero, List.nil_append, List.drop_of_length_le (by rw [Array.length_toList, ints_size, List.length_replicate]; show R ≤ 0 + min 64 R; omega), List.append_nil]; rfl
/-- The certificate grows pair by pair. -/
structure BzAt (w0 w : World) (B nes cap : Nat) (a : Option Addr) (cb tb gy gz gc R C : Nat) (tt ys zs : List Int) (pv : Value) (l : List (Int × Int)) : Prop where
  gbox : w.heap[w0.heap.size]? = some (.cells #[.int .i64 R, .int .i64 C, .slice a nes cap] 24 (0, 0))
  res : w.heap[cb]? = some (.cells #[.slice none 0 0, .slice none 0 0, .slice none 0 0] 39 (0, 0))
  tt : TabAt w tb 64 tt
  y : TabAt w gy 3 ys
  z : TabAt w gz 3 zs
  cert : w.heap[gc]? = some (.cells #[pv, .slice (some ⟨gy, 0, none⟩) R R, .slice (some ⟨gz, 0, none⟩) C C] 39 (0, 0))
  own : w.ownsRow B 45 2 pv l.length (flatV prV l)
  below : Below w0.heap.size w0 w
  ord : w0.heap.size < B ∧ cb < B ∧ tb < B ∧ gy < B ∧ gz < B ∧ gc < B ∧ B ≤ w.heap.size ∧ w0.heap.size < gc ∧ cb < gc ∧ tb < gc ∧ gy ≠ gc ∧ gz ≠ gc ∧ cb < gy ∧ cb < gz

theorem info_pair : (Try.prog.info? 45).map (fun i => (i.zero, i.size, i.bytes)) = some (some (.agg #[.int .i64 0, .int .i64 0]), 2, 16) := by kernel_rfl
section
variable {w0 w w' : World} {B nes cap : Nat} {a : Option Addr} {cb tb gy gz gc R C : Nat} {tt ys zs : List Int} {pv : Value} {l : List (Int × Int)}
theorem BzAt.kept (h : BzAt w0 w B nes cap a cb tb gy gz gc R C tt ys zs pv l) (hb : Below w.heap.size w w') : BzAt w0 w' B nes cap a cb tb gy gz gc R C tt ys zs pv l :=
  ⟨below_keep hb h.gbox, below_keep hb h.res, h.tt.kept hb, h.y.kept hb, h.z.kept hb, below_keep hb h.cert, ownsRow_other h.own fun g hg => hb.block g (ownsRow_lt h.own hg), h.below.trans (hb.mono h.below.size), by have := h.ord; have := hb.size; omega⟩
theorem BzAt.grow (h : BzAt w0 w B nes cap a cb tb gy gz gc R C tt ys zs pv l) {p : Int × Int} {w4 : World} {v2 : Value} (o : Obj) (ho : w4.ownsRow B 45 2 v2 (l.length + 1) (flatV prV l ++ [.int .i64 p.1, .int .i64 p.2])) (hg : (w.alloc o).grownBy w4 pv.ownBlock) :
    w4.heap[gc]? = some (.cells #[pv, .slice (some ⟨gy, 0, none⟩) R R, .slice (some ⟨gz, 0, none⟩) C C] 39 (0, 0)) ∧ BzAt w0 (w4.setCell ⟨gc, 0, none⟩ v2) B nes cap a cb tb gy gz gc R C tt ys zs v2 (l ++ [p]) := by
  have hb := (Below.refl w.heap.size w).alloc (Nat.le_refl _) o
  have hord := h.ord
  have hown : (w.alloc o).ownsRow B 45 2 pv l.length (flatV prV l) := ownsRow_other h.own fun g hg => hb.block g (ownsRow_lt h.own hg)
  have hbw := h.below.alloc h.below.size o
  have hk : ∀ {b : Nat} {x : Obj}, b < B → w.heap[b]? = some x → w4.heap[b]? = some x := by
    intro b x hbB hc
    have h1 := alloc_keep hc o
    rw [hg.block b (heap_lt h1) (fun e => by have := ownsRow_block h.own b e.symm; omega)]; exact h1
  have hc := hk hord.2.2.2.2.2.1 h.cert
  have hks : ∀ {b : Nat} {x : Obj}, b < B → b ≠ gc → w.heap[b]? = some x → (w4.setCell ⟨gc, 0, none⟩ v2).heap[b]? = some x := fun {b x} hbB hne hx => by
    rw [heap_setCell_ne hne]; exact hk hbB hx
  refine ⟨hc, hks (by omega) (by omega) h.gbox, hks (by omega) (by omega) h.res, hks (by omega) (by omega) h.tt, hks (by omega) (by omega) h.y, hks (by omega) (by omega) h.z, by rw [row_setCell hc]; rfl, ?_, (hbw.grown hg hbw.size (fun g hg' => by have := ownsRow_block h.own g hg'; omega)).setCell (by show w0.heap.size ≤ gc; omega) _, ?_⟩
  · rw [flatV_snoc, List.length_append]
    exact ownsRow_other ho fun g hg => by rw [heap_setCell_ne]; have := ownsRow_block ho g hg; omega
  · have h1 := hg.size
    rw [alloc_size] at h1
    rw [setCell_size]
    omega
theorem BzAt.certAt (h : BzAt w0 w B nes cap a cb tb gy gz gc R C tt ys zs pv l) (_ : w0.heap.size < cb) (hy : ys.length = R) (hz : zs.length = C) : CertAt (w.setRow cb #[pv, .slice (some ⟨gy, 0, none⟩) R R, .slice (some ⟨gz, 0, none⟩) C C]) (.agg #[pv, .slice (some ⟨gy, 0, none⟩) R R, .slice (some ⟨gz, 0, none⟩) C C]) l ys zs := by
  have hord := h.ord
  have ho : (w.setRow cb #[pv, .slice (some ⟨gy, 0, none⟩) R R, .slice (some ⟨gz, 0, none⟩) C C]).ownsRow B 45 2 pv l.length (flatV prV l) :=
    ownsRow_other h.own fun g hg => setRow_other _ _ _ _ (by have := ownsRow_block h.own g hg; omega)
  obtain ⟨A, cp, rfl, h1, h2⟩ := own_rows (f := prV) (s := 2) (fun _ => rfl) ho
  have ty : TabAt (w.setRow cb #[.slice A l.length cp, .slice (some ⟨gy, 0, none⟩) R R, .slice (some ⟨gz, 0, none⟩) C C]) gy 3 ys := setRow_keep h.y _ _ (by omega)
  have tz : TabAt (w.setRow cb #[.slice A l.length cp, .slice (some ⟨gy, 0, none⟩) R R, .slice (some ⟨gz, 0, none⟩) C C]) gz 3 zs := setRow_keep h.z _ _ (by omega)
  exact ⟨A, cp, _, R, _, C, by rw [hy, hz], h1, by omega, by omega, h2, tab_rows ty, tab_rows tz⟩
end

set_option maxRecDepth 100000 in
set_option maxHeartbeats 8000000 in
theorem best_any (g : Gr) (a : Option Addr) (cap : Nat) (hok : GrOk g cap) (w : World) (hr : RowsAt 3 edV w a g.es) :
    Calls Try.prog 28 #[grV g a cap] w (BestPost w g) := by
  have HOK := hid hok
  have HR := hid hr
  have CK := hid (fun w hr => check_any g a cap hok w hr)
  clear hok hr
  unfold grV at *
  go_enter Try.func28, Try.ntmps28
  go_upto_region 1 with fail
  have HG := hid (alloc_keep (heap_alloc_new w (.cells #[.int .i64 g.rows, .int .i64 g.cols, .slice a g.es.length cap] 24)) (.cells #[.slice none 0 0, .slice none 0 0, .slice none 0 0] 39))
  have HC := hid (heap_2 w (.cells #[.int .i64 g.rows, .int .i64 g.cols, .slice a g.es.length cap] 24) (.cells #[.slice none 0 0, .slice none 0 0, .slice none 0 0] 39))
  have HB : Hid (Below w.heap.size w ((w.alloc (.cells #[.int .i64 g.rows, .int .i64 g.cols, .slice a g.es.length cap] 24)).alloc (.cells #[.slice none 0 0, .slice none 0 0, .slice none 0 0] 39))) := hid (((Below.refl _ _).alloc (Nat.le_refl _) _).alloc (by simp) _)
  generalize (w.alloc (.cells #[.int .i64 g.rows, .int .i64 g.cols, .slice a g.es.length cap] 24)).alloc (.cells #[.slice none 0 0, .slice none 0 0, .slice none 0 0] 39) = w1 at *
  obtain ⟨cb, hcb⟩ : ∃ cb, cb = w.heap.size + 1 := ⟨_, rfl⟩
  rw [← hcb] at HC ⊢
  have HCB : Hid (w.heap.size < cb) := hid (by omega)
  clear hcb
  go_wp2_with (refine wpList_load_w rfl 24 _ rfl _ rfl _ _ _ _ (HG.out) Try.underlying24 rfl (info_gr) ?_)
  refine (CK.out _ (HR.out.kept HB.out)).mono ?_
  rintro e w2 ⟨rfl, hb2⟩
  have HG2 := hid (below_keep hb2 HG.out)
  have HC2 := hid (below_keep hb2 HC.out)
  have HB2 := hid (HB.out.trans (hb2.mono HB.out.size))
  clear hb2 HG HC HB
  have HIC : Hid ((Try.prog.info? 39).map (·.size) = some (#[Value.slice none 0 0, Value.slice none 0 0, Value.slice none 0 0] : Array Value).size) := hid (by kernel_rfl)
  by_cases k1 : chk g = true
  · have HV1 : Hid (chkV g = 0) := hid (by unfold chkV; rw [if_pos k1])
    rw [HV1.out]
    have hsz := chk_size k1
    have K1 := hid k1
    obtain ⟨R, hR⟩ := Int.eq_ofNat_of_zero_le hsz.1
    obtain ⟨C, hC⟩ := Int.eq_ofNat_of_zero_le hsz.2.2.1
    have hRt : g.rows.toNat = R := by omega
    have hCt : g.cols.toNat = C := by omega
    have hR64 : R ≤ 64 := by omega
    have hC64 : C ≤ 64 := by omega
    have HRT := hid hRt
    have HCT0 := hid hCt
    have hRi : (R : Int) ≤ 64 := by omega
    have hCi : (C : Int) ≤ 64 := by omega
    have CL := hid (fun w hr => laid_any g a cap R C HOK.out k1 hR hC w hr)
    have CH := hid (fun tp w ht => heaviest_any tp R C (tblOf g.es) hR64 hC64 (wG_ok k1) (fun r c hn => wG_out k1 r c (by rw [hRt, hCt]; exact hn)) w ht)
    have CP := hid (fun tp tt htl htop w ht => prices_any tp R C (tblOf g.es) tt hR64 hC64 (wG_ok k1) htl htop w ht)
    have CS := hid (fun tp y z ly lz hyb hzb he w ht => least_any tp R C (tblOf g.es) y z hR64 hC64 (wG_ok k1) (fun r c hn => wG_out k1 r c (by rw [hRt, hCt]; exact hn)) ly lz hyb hzb he w ht)
    unfold grV at CL
    rw [hR, hC] at HG2 CL
    clear k1 hsz hR hC hRt hCt
    go_wp2_with (refine wpList_load_w rfl 24 _ rfl _ rfl _ _ _ _ (HG2.out) Try.underlying24 rfl (info_gr) ?_)
    refine (CL.out _ (HR.out.kept HB2.out)).mono ?_
    rintro e w3 ⟨tp, rfl, htp, htb, hb3⟩
    have HG3 := hid (below_keep hb3 HG2.out)
    have HC3 := hid (below_keep hb3 HC2.out)
    have HB3 := hid (HB2.out.trans (hb3.mono HB2.out.size))
    have HT3 := hid htb
    clear hb3 HG2 HC2 HB2 htb htp CL CK
    go_wp2_with fail
    refine (CH.out _ _ HT3.out).mono ?_
    rintro e w4 ⟨tt0, rfl, htl, htop, hb4⟩
    have HG4 := hid (below_keep hb4 HG3.out)
    have HC4 := hid (below_keep hb4 HC3.out)
    have HB4 := hid (HB3.out.trans (hb4.mono HB3.out.size))
    have HT4 := hid (HT3.out.kept hb4)
    have HTL := hid htl
    have HTOP := hid htop
    clear hb4 HG3 HC3 HB3 HT3 htl htop CH
    go_wp2_with fail
    refine (CP.out _ _ HTL.out HTOP.out _ HT4.out).mono ?_
    rintro e w5 ⟨y, z, rfl, hly, hlz, hen, hzb, hyb, hb5⟩
    have HG5 := hid (below_keep hb5 HG4.out)
    have HC5 := hid (below_keep hb5 HC4.out)
    have HB5 := hid (HB4.out.trans (hb5.mono HB4.out.size))
    have HT5 := hid (HT4.out.kept hb5)
    have HYZ := hid (And.intro hly (And.intro hlz (And.intro hyb hzb)))
    have HEN := hid hen
    clear hb5 HG4 HC4 HB4 HT4 HTL HTOP hly hlz hen hzb hyb CP
    have hsy : (ints y).size = 64 := by rw [ints_size]; exact HYZ.out.1
    have hsz : (ints z).size = 64 := by rw [ints_size]; exact HYZ.out.2.1
    have HSY := hid hsy
    have HSZ := hid hsz
    have HIY : Hid ((Try.prog.info? 64).map (·.size) = some (ints y).size) := hid (by rw [hsy]; exact info_64)
    have HIZ : Hid ((Try.prog.info? 64).map (·.size) = some (ints z).size) := hid (by rw [hsz]; exact info_64)
    clear hsy hsz
    go_upto_region 6 with (first | refine wpList_store_row rfl 64 _ _ rfl w5.heap.size rfl (ints y) rfl _ _ (alloc_keep (heap_alloc_new _ _) _) HSY.out (ints_one _) HIY.out _ rfl ?_ | refine wpList_store_row rfl 64 _ _ rfl (w5.heap.size + 1) rfl (ints z) rfl _ _ (setRow_keep (heap_2 _ _ _) _ _ (by omega)) HSZ.out (ints_one _) HIZ.out _ rfl ?_)
    have HTN := hid (two_new w5 y z)
    refine at_world (fun w6 => TabAt w6 w5.heap.size 64 y ∧ TabAt w6 (w5.heap.size + 1) 64 z ∧ Below w5.heap.size w5 w6) _ rfl HTN.out ?_
    rintro w6 ⟨hty, htz, hb6⟩
    have HG6 := hid (below_keep hb6 HG5.out)
    have HC6 := hid (below_keep hb6 HC5.out)
    have HB6 := hid (HB5.out.trans (hb6.mono HB5.out.size))
    have HT6 := hid (HT5.out.kept hb6)
    have HTY := hid hty
    have HTZ := hid htz
    have HCL5 : Hid (cb < w5.heap.size) := hid (heap_lt HC5.out)
    clear hb6 HG5 HC5 HB5 HT5 hty htz HTN HSY HSZ
    generalize w5.heap.size + 1 = zb at *
    generalize w5.heap.size = yb at *
    go_wp2_with (first | refine wpList_load_w rfl 64 _ rfl _ rfl _ _ _ _ (HTY.out) Try.underlying64 rfl (HIY.out) ?_ | refine wpList_load_w rfl 64 _ rfl _ rfl _ _ _ _ (HTZ.out) Try.underlying64 rfl (HIZ.out) ?_)
    refine (CS.out tp y z HYZ.out.1 HYZ.out.2.1 HYZ.out.2.2.1 HYZ.out.2.2.2 HEN.out w6 HT6.out).mono ?_
    rintro e w7 ⟨tt, rfl, hlt, hbw, hvl, hb7⟩
    have HG7 := hid (below_keep hb7 HG6.out)
    have HC7 := hid (below_keep hb7 HC6.out)
    have HB7 := hid (HB6.out.trans (hb7.mono HB6.out.size))
    have HTY7 := hid (HTY.out.kept hb7)
    have HTZ7 := hid (HTZ.out.kept hb7)
    have HANS : Hid (BestAns g tt y z) := hid ⟨by rw [HRT.out, HCT0.out]; exact hbw, hlt, HYZ.out.1, HYZ.out.2.1, by rw [HRT.out, HCT0.out]; exact hvl⟩
    have HST : Hid ((ints tt).size = 64) := hid (by rw [ints_size]; exact hlt)
    have HIT : Hid ((Try.prog.info? 64).map (·.size) = some (ints tt).size) := hid (by rw [ints_size, hlt]; exact info_64)
    clear hb7 HG6 HC6 HB6 HT6 HTY HTZ HEN hlt hbw hvl CS
    go_upto_region 7 with (refine wpList_store_row rfl 64 _ _ rfl _ rfl (ints tt) rfl _ _ (heap_alloc_new _ _) HST.out (ints_one _) HIT.out _ (setRow_alloc _ _ _ _) ?_)
    have hb8 : Below w7.heap.size w7 (w7.alloc (.cells (ints tt) 64)) := (Below.refl _ _).alloc (Nat.le_refl _) _
    have HTT : Hid (TabAt (w7.alloc (.cells (ints tt) 64)) w7.heap.size 64 tt) := hid (heap_alloc_new _ _)
    have HG8 := hid (below_keep hb8 HG7.out)
    have HC8 := hid (below_keep hb8 HC7.out)
    have HB8 := hid (HB7.out.trans (hb8.mono HB7.out.size))
    have HTY8 := hid (HTY7.out.kept hb8)
    have HTZ8 := hid (HTZ7.out.kept hb8)
    clear hb8 HG7 HC7 HB7 HTY7 HTZ7 HST HIT
    generalize w7.alloc (.cells (ints tt) 64) = w8 at *
    generalize w7.heap.size = tb at *
    have hmr : ∀ w1 : World, (Instr.makeSlice 37 (.int .i64 (R : Int)) (.int .i64 (R : Int))).run Try.prog w1 = .ok (.slice (some ⟨w1.heap.size, 0, none⟩) R R) (w1.alloc (.cells (ints (List.replicate R 0)) 3)) := fun w1 => make_intsA w1 R hR64
    have hmc : ∀ w1 : World, (Instr.makeSlice 37 (.int .i64 (C : Int)) (.int .i64 (C : Int))).run Try.prog w1 = .ok (.slice (some ⟨w1.heap.size, 0, none⟩) C C) (w1.alloc (.cells (ints (List.replicate C 0)) 3)) := fun w1 => make_intsA w1 C hC64
    simp only [Act.put]
    go_cut [9] (fun s9 wx => ∃ gy gz gc, s9 = .pointer (some ⟨gc, 0, none⟩) ∧ Hid (CzAt w8 wx gy gz gc R C (List.replicate R 0) (List.replicate C 0) (.slice none 0 0)))
    case first =>
      have cg0 := row_cell HG8.out 0 _ rfl
      have cg1 := row_cell HG8.out 1 _ rfl
      have hl8 := heap_lt HG8.out
      have hn8 : w8.heap.size ≠ w.heap.size := by omega
      have hn9 : w8.heap.size + 1 ≠ w.heap.size := by omega
      have hn10 : w8.heap.size + 1 + 1 ≠ w.heap.size := by omega
      go_region
      all_goals go_wp2
      all_goals go_meet
      all_goals (have h3 := fun A B D => three_new w8 A B D; exact ⟨_, _, _, rfl, hid ⟨by first | exact (h3 _ _ _).1 | exact (h3 _ _ _).2.1 | exact (h3 _ _ _).2.2.1, by first | exact (h3 _ _ _).1 | exact (h3 _ _ _).2.1 | exact (h3 _ _ _).2.2.1, by first | exact (h3 _ _ _).1 | exact (h3 _ _ _).2.1 | exact (h3 _ _ _).2.2.1, (h3 _ _ _).2.2.2, by omega⟩⟩)
    case rest =>
      obtain ⟨gy, gz, gc, rfl, HZ⟩ := hcut
      have HB9 := hid (HB8.out.trans (HZ.out.below.mono HB8.out.size))
      have HG9 := hid (below_keep HZ.out.below HG8.out)
      have HC9 := hid (below_keep HZ.out.below HC8.out)
      have HTY9 := hid (HTY8.out.kept HZ.out.below)
      have HTZ9 := hid (HTZ8.out.kept HZ.out.below)
      have HTT9 := hid (HTT.out.kept HZ.out.below)
      have HLT : Hid (w.heap.size < w8.heap.size ∧ cb < w8.heap.size ∧ tb < w8.heap.size ∧ yb < w8.heap.size ∧ zb < w8.heap.size) := hid ⟨heap_lt HG8.out, heap_lt HC8.out, HTT.out.lt, HTY8.out.lt, HTZ8.out.lt⟩
      clear hmr hmc HB8 HG8 HC8 HTY8 HTZ8 HTT
      go_wp2
      obtain ⟨wq, hwq⟩ : ∃ wq, wq = wc.drew := ⟨_, rfl⟩
      have HQD := hid hwq
      have hbd : Below wc.heap.size wc wq := by rw [hwq]; exact (Below.refl _ _).drew
      have HZq := hid (HZ.out.kept hbd)
      have HBq := hid (HB9.out.trans (hbd.mono HB9.out.size))
      have HGq := hid (below_keep hbd HG9.out)
      have HCq := hid (below_keep hbd HC9.out)
      have HTYq := hid (HTY9.out.kept hbd)
      have HTZq := hid (HTZ9.out.kept hbd)
      have HTTq := hid (HTT9.out.kept hbd)
      clear hwq hbd HZ HB9 HG9 HC9 HTY9 HTZ9 HTT9
      have c1 := row_cell HZq.out.cert 1 _ rfl
      refine wp_region_tail 3 (by kernel_rfl) (by kernel_rfl) wq HQD.out ?_
      simp only [List.take_succ_cons, List.take_zero, List.drop_succ_cons, List.drop_zero]
      iterate 3 still_step
      refine wpStill_nil ?_
      refine wpList_copy_own rfl _ _ _ _ rfl 3 Try.underlying37 (by kernel_rfl) gy 0 R R ⟨yb, 0, none⟩ 64 64 rfl rfl _ _ HZq.out.y ((y.take R).map (Value.int .i64)) ?_ ?_ ?_ ?_ ?_
      · exact take_len HYZ.out.1 hR64
      · exact copy_src HTYq.out R
      · rw [take_len HYZ.out.1 hR64, ints_size, List.length_replicate]; show 0 + min 64 R ≤ R; omega
      · exact take_one y R
      rw [copy_res HYZ.out.1 hR64]
      have HZ2 := hid (HZq.out.setY (y.take R))
      have hbs : Below w8.heap.size w8 (wq.setRow gy (ints (y.take R))) := HZ2.out.below
      have hkp : ∀ {b : Nat} {o : Obj}, b < w8.heap.size → wq.heap[b]? = some o → (wq.setRow gy (ints (y.take R))).heap[b]? = some o := fun {b o} hb h => setRow_keep h _ _ (by have := HZq.out.ne; omega)
      have HG3 := hid (hkp HLT.out.1 HGq.out)
      have HC3 := hid (hkp HLT.out.2.1 HCq.out)
      have HTY3 : Hid (TabAt (wq.setRow gy (ints (y.take R))) yb 64 y) := hid (hkp HLT.out.2.2.2.1 HTYq.out)
      have HTZ3 : Hid (TabAt (wq.setRow gy (ints (y.take R))) zb 64 z) := hid (hkp HLT.out.2.2.2.2 HTZq.out)
      have HTT3 : Hid (TabAt (wq.setRow gy (ints (y.take R))) tb 64 tt) := hid (hkp HLT.out.2.2.1 HTTq.out)
      have HB3 : Hid (Below w.heap.size w (wq.setRow gy (ints (y.take R)))) := hid (below_setRow' HBq.out (by have := HZq.out.ne; have := HLT.out; omega) _)
      clear hbs hkp c1 HZq HGq HCq HTYq HTZq HTTq HBq HQD
      generalize wq.setRow gy (ints (y.take R)) = wd at *
      go_wp2
      obtain ⟨wq2, hwq⟩ : ∃ wq, wq = wd.drew := ⟨_, rfl⟩
      have HQD := hid hwq
      have hbd : Below wd.heap.size wd wq2 := by rw [hwq]; exact (Below.refl _ _).drew
      have HZq := hid (HZ2.out.kept hbd)
      have HBq := hid (HB3.out.trans (hbd.mono HB3.out.size))
      have HGq := hid (below_keep hbd HG3.out)
      have HCq := hid (below_keep hbd HC3.out)
      have HTZq := hid (HTZ3.out.kept hbd)
      have HTTq := hid (HTT3.out.kept hbd)
      clear hwq hbd HZ2 HB3 HG3 HC3 HTY3 HTZ3 HTT3
      have c1 := row_cell HZq.out.cert 2 _ rfl
      refine wp_region_tail 3 (by kernel_rfl) (by kernel_rfl) wq2 HQD.out ?_
      simp only [List.take_succ_cons, List.take_zero, List.drop_succ_cons, List.drop_zero]
      iterate 3 still_step
      refine wpStill_nil ?_
      refine wpList_copy_own rfl _ _ _ _ rfl 3 Try.underlying37 (by kernel_rfl) gz 0 C C ⟨zb, 0, none⟩ 64 64 rfl rfl _ _ HZq.out.z ((z.take C).map (Value.int .i64)) ?_ ?_ ?_ ?_ ?_
      · exact take_len HYZ.out.2.1 hC64
      · exact copy_src HTZq.out C
      · rw [take_len HYZ.out.2.1 hC64, ints_size, List.length_replicate]; show 0 + min 64 C ≤ C; omega
      · exact take_one z C
      rw [copy_res HYZ.out.2.1 hC64]
      have HZ2 := hid (HZq.out.setZ (z.take C))
      have hkp : ∀ {b : Nat} {o : Obj}, b < w8.heap.size → wq2.heap[b]? = some o → (wq2.setRow gz (ints (z.take C))).heap[b]? = some o := fun {b o} hb h => setRow_keep h _ _ (by have := HZq.out.ne; omega)
      have HG3 := hid (hkp HLT.out.1 HGq.out)
      have HC3 := hid (hkp HLT.out.2.1 HCq.out)
      have HTT3 : Hid (TabAt (wq2.setRow gz (ints (z.take C))) tb 64 tt) := hid (hkp HLT.out.2.2.1 HTTq.out)
      have HB3 : Hid (Below w.heap.size w (wq2.setRow gz (ints (z.take C)))) := hid (below_setRow' HBq.out (by have := HZq.out.ne; have := HLT.out; omega) _)
      clear hkp c1 HZq HGq HCq HTZq HTTq HBq HQD
      generalize wq2.setRow gz (ints (z.take C)) = we at *
      have HBZ : Hid (BzAt w we we.heap.size g.es.length cap a cb tb gy gz gc R C tt (y.take R) (z.take C) (.slice none 0 0) []) := hid ⟨HG3.out, HC3.out, HTT3.out, HZ2.out.y, HZ2.out.z, HZ2.out.cert, by exact ownsRow_nil _ _ _ _, HB3.out, by
        have h1 := heap_lt HG3.out
        have h2 := heap_lt HC3.out
        have h3 := HTT3.out.lt
        have h4 := HZ2.out.y.lt
        have h5 := HZ2.out.z.lt
        have h6 := heap_lt HZ2.out.cert
        have h7 := HZ2.out.ne
        have h8 := HLT.out
        have h9 := HB3.out.size
        omega⟩
      clear HG3 HC3 HTT3 HZ2 HB3
      generalize we.heap.size = B at *
      go_wp2
      go_loopw [10] (fun i wr => ∃ (r : Nat) (pv : Value), r ≤ R ∧ i = .int .i64 r ∧ Hid (BzAt w wr B g.es.length cap a cb tb gy gz gc R C tt (y.take R) (z.take C) pv (prsTo tt r))) (fun i _ => R - (intOf i).toNat)
      case atStart => exact ⟨0, _, by omega, rfl, HBZ⟩
      case round =>
        clear HBZ
        obtain ⟨r, pv, hr, rfl, HBZ⟩ := hrel
        have c1 := row_cell HBZ.out.gbox 0 _ rfl
        by_cases hlt : r < R
        · have hri : (r : Int) < (R : Int) := by omega
          have hr64i : (r : Int) < 64 := by omega
          have c2 := HBZ.out.tt.cellI (k := r) (by rw [HANS.out.lt]; omega)
          by_cases hneg : getI tt r < 0
          · have HN : Hid (prsTo tt (r + 1) = prsTo tt r) := hid (by rw [prsTo_succ, if_pos hneg, List.append_nil])
            go_wp2
            go_roundw
            case rel => exact ⟨r + 1, pv, by omega, by go_num, hid (by rw [HN.out]; exact HBZ.out)⟩
            case measure => simp [intOf]; omega
          · have HN : Hid (prsTo tt (r + 1) = prsTo tt r ++ [((r : Int), getI tt r)]) := hid (by rw [prsTo_succ, if_neg hneg])
            have hneg2 : decide ((0 : Int) ≤ getI tt r) = true := decide_eq_true (by omega)
            go_wp2
            have HBQ := hid (HBZ.out.kept (Below.refl _ _).drew)
            have HFIN := hid (fun (gu ucap : Nat) (w4 : World) ho hg => HBQ.out.grow (p := ((r : Int), getI tt r)) (w4 := w4) (v2 := .slice (some ⟨gu, 0, none⟩) ((prsTo tt r).length + 1) ucap) (.cells #[.int .i64 r, .int .i64 (getI tt r)] 45) ho hg)
            have HOU : Hid (wr.ownsRow B 45 2 pv (prsTo tt r).length (flatV prV (prsTo tt r))) := hid HBZ.out.own
            have c3 := row_cell HBZ.out.cert 0 _ rfl
            have lgc := heap_lt HBZ.out.cert
            have ltb := HBZ.out.tt.lt
            have HLEN : Hid ((prsTo tt r).length ≤ 64) := hid (by have := prsTo_len tt r; omega)
            have HSZ : Hid (B ≤ (wr.drew.alloc (.cells #[.int .i64 r, .int .i64 (getI tt r)] 45)).heap.size) := hid (by rw [alloc_size]; have := HBZ.out.ord; show B ≤ wr.heap.size + 1; omega)
            obtain ⟨i1, hi1, hz10, hz11, hz12⟩ := info_parts info_pair
            clear HBZ HBQ c1
            go_region_law ((refine step_append_lies _ (by rfl) _ _ 25 (by rfl) B 45 i1 (.agg #[.int .i64 0, .int .i64 0]) 2 16 Try.underlying25 hi1 hz10 hz11 hz12 (by rfl) (by decide) pv (prsTo tt r).length (flatV prV (prsTo tt r)) (by rfl) (HOU.out.drew.alloc (.cells #[.int .i64 r, .int .i64 (getI tt r)] 45)) ⟨wr.heap.size, 0, none⟩ 1 1 [.int .i64 r, .int .i64 (getI tt r)] (by rfl) (by rfl) (cells_new _ _ _) (by simp [Value.oneCell']) (by omega) (by have := HLEN.out; unfold maxLen; omega) (by have := HLEN.out; omega) HSZ.out (wr.heap.size + 1) (by simp) ?_; intro gu ucap w4 hown' hgrow hat hgult; have hfin := HFIN.out gu ucap w4 hown' hgrow; have c5 := row_cell hfin.1 0 _ rfl; have f5 := free_row hfin.1 0; have HG5 := hid hfin; clear hown' hgrow hat hfin))
            all_goals go_wp2
            all_goals go_roundw
            all_goals first
              | exact ⟨r + 1, _, by omega, by go_num, hid (by rw [HN.out]; exact HG5.out.2)⟩
              | (simp [intOf]; omega)
        · obtain rfl : R = r := by omega
          have hri : ¬ ((R : Int) < (R : Int)) := by omega
          have HCT := hid HBZ.out.cert
          have HRS := hid HBZ.out.res
          have hoc : ∀ v ∈ (#[pv, .slice (some ⟨gy, 0, none⟩) R R, .slice (some ⟨gz, 0, none⟩) C C] : Array Value).toList, v.oneCell' = true := by
            obtain ⟨A1, c1, h1, _⟩ := own_rows (f := prV) (s := 2) (fun _ => rfl) HBZ.out.own
            subst h1
            simp [Value.oneCell']
          have HOC := hid hoc
          have HIC2 : Hid ((Try.prog.info? 39).map (·.size) = some (#[pv, .slice (some ⟨gy, 0, none⟩) R R, .slice (some ⟨gz, 0, none⟩) C C] : Array Value).size) := hid HIC.out
          clear hoc hr hlt
          go_wp2_with (first | refine wpList_load_w rfl 39 _ rfl _ rfl _ _ _ _ (HCT.out) Try.underlying39 rfl (HIC2.out) ?_ | refine wpList_store_row rfl 39 _ _ rfl _ rfl _ rfl _ _ HRS.out rfl HOC.out HIC2.out _ rfl ?_)
          refine bodyPost_ret (results_row_tmp rfl _ _ _ 39 _ _ _ rfl (setRow_at HRS.out _) Try.underlying39 rfl HIC2.out) rfl ⟨below_setRow' HBZ.out.below (by have := HCB.out; omega) _, .inr ⟨K1.out, tt, y, z, _, HANS.out, rfl, ?_⟩⟩
          rw [HRT.out, HCT0.out]
          exact HBZ.out.certAt HCB.out (by rw [List.length_take, HYZ.out.1]; omega) (by rw [List.length_take, HYZ.out.2.1]; omega)
  · have HV1 : Hid (chkV g = 170) := hid (by unfold chkV; rw [if_neg k1])
    have K1 : Hid (chk g = false) := hid (by simpa using k1)
    rw [HV1.out]
    clear k1
    have hone : ∀ v ∈ (#[Value.slice none 0 0, Value.slice none 0 0, Value.slice none 0 0] : Array Value).toList, v.oneCell' = true := by simp [Value.oneCell']
    have HONE := hid hone
    clear hone
    go_wp2_with (refine wpList_store_row rfl 39 _ _ rfl _ rfl _ rfl _ _ HC2.out rfl HONE.out HIC.out _ (setRow_self _ _ _ _ _ HC2.out) ?_)
    refine bodyPost_ret (results_row_tmp rfl _ _ _ 39 _ _ _ rfl HC2.out Try.underlying39 rfl HIC.out) rfl ⟨HB2.out, .inl ⟨K1.out, rfl⟩⟩
end Go.Proofs.Ytmddhjoomlhbcaa
