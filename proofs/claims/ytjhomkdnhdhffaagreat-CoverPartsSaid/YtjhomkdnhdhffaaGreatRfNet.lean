/- The walk of the reference's net. -/
import Derived.Test.YtjhomkdnhdhffaaGreatRfC
import Derived.Test.YtjhomkdnhdhffaaGreatRfK
namespace Go.Proofs.YtjhomkdnhdhffaaGreat
open Go.RowKit

/-- An edge among the first k. -/
def egTo (g : Gr) (k r c : Nat) : Bool := (g.es.take k).any fun x => x.r == (r : Int) && x.c == (c : Int)
theorem egTo_zero (g : Gr) (r c : Nat) : egTo g 0 r c = false := by simp [egTo]
theorem egTo_succ {g : Gr} {k : Nat} {x : Ed} (h : g.es[k]? = some x) (r c : Nat) : egTo g (k + 1) r c = (egTo g k r c || (x.r == (r : Int) && x.c == (c : Int))) := by
  obtain ⟨h1, h2⟩ := List.getElem?_eq_some_iff.1 h
  unfold egTo
  rw [List.take_succ_eq_append_getElem h1, h2, List.any_append]
  simp
theorem egTo_all {g : Gr} (h : chk g = true) (r c : Nat) : egTo g g.es.length r c = decide (c ∈ tlAt g r) := by
  have h1 := eg_iff h r c
  have h2 : egTo g g.es.length r c = true ↔ c ∈ tlAt g r := by
    show _ ↔ Eg (toOf g.es) r c
    rw [h1]
    unfold egTo
    rw [List.take_length, List.any_eq_true]
    simp
  by_cases e : c ∈ tlAt g r
  · rw [decide_eq_true e]; exact h2.2 e
  · rw [decide_eq_false e]
    cases e2 : egTo g g.es.length r c
    · rfl
    · exact absurd (h2.1 e2) e
def rowSl (C b : Nat) : Value := .slice (some ⟨b, 0, none⟩) C C
def rowE (E : Nat → Bool) (C : Nat) : Array Value := ((List.range C).map fun c => Value.bool (E c)).toArray
theorem rowE_get (E : Nat → Bool) {C c : Nat} (h : c < C) : (rowE E C)[c]? = some (.bool (E c)) := by simp [rowE, h]
theorem rowE_set (E : Nat → Bool) {C c : Nat} (F : Nat → Bool) (h1 : F c = true) (h2 : ∀ d, d ≠ c → F d = E d) : (rowE E C).setIfInBounds c (.bool true) = rowE F C := by
  apply Array.ext_getElem?
  intro i
  rw [Array.getElem?_setIfInBounds]
  by_cases hi : i < C
  · rw [rowE_get _ hi, rowE_get _ hi]
    by_cases e : c = i
    · subst e; rw [if_pos rfl, if_pos (by simp [rowE, hi]), h1]
    · rw [if_neg e, h2 i (fun h => e h.symm)]
  · rw [Array.getElem?_eq_none (by simp [rowE]; omega), Array.getElem?_eq_none (by simp [rowE]; omega)]
    split
    · rw [if_neg (by simp [rowE]; omega)]
    · rfl
theorem rowE_false (C : Nat) : (boolL (List.replicate C false)).toArray = rowE (fun _ => false) C := by
  unfold boolL rowE
  congr 1
  apply List.ext_getElem
  · simp
  · intro i h1 h2; simp
/-- The reference's net as it is made. -/
structure NB (w wr : World) (g : Gr) (a : Option Addr) (cap gb pn C : Nat) (v : Value) (bs : List Nat) (E : Nat → Nat → Bool) : Prop where
  gblk : wr.heap[gb]? = some (.cells #[.int .i64 g.rows, .int .i64 g.cols, .slice a g.es.length cap] 24 (0, 0))
  net : wr.heap[pn]? = some (.cells #[v, .slice none 0 0] 89 (0, 0))
  own : wr.ownsRow (pn + 1) 85 1 v bs.length (bs.map (rowSl C))
  rows : ∀ r b : Nat, bs[r]? = some b → pn < b ∧ wr.heap[b]? = some (.cells (rowE (E r) C) 4 (0, 0))
  nd : ∀ r q b : Nat, bs[r]? = some b → bs[q]? = some b → r = q
  below : Below w.heap.size w wr
  at_ : gb = w.heap.size ∧ pn = w.heap.size + 1
section
variable {w wr w' : World} {g : Gr} {a : Option Addr} {cap gb pn C : Nat} {v : Value} {bs : List Nat} {E : Nat → Nat → Bool}
theorem NB.kept (h : NB w wr g a cap gb pn C v bs E) (k : Below wr.heap.size wr w') : NB w w' g a cap gb pn C v bs E :=
  ⟨below_keep k h.gblk, below_keep k h.net, ownsRow_other h.own fun b hb => k.block b (ownsRow_lt h.own hb), fun r b hb => ⟨(h.rows r b hb).1, below_keep k (h.rows r b hb).2⟩, h.nd, h.below.trans (k.mono h.below.size), h.at_⟩
theorem NB.rowsC (h : NB w wr g a cap gb pn C v bs E) {R : Nat} (hR : g.rows = R) : wr.cell? ⟨gb, 0, none⟩ = some (.int .i64 (R : Int)) := row_cell h.gblk 0 _ (by rw [hR]; rfl)
theorem NB.colsC (h : NB w wr g a cap gb pn C v bs E) {R : Nat} (hR : g.cols = R) : wr.cell? ⟨gb, 1, none⟩ = some (.int .i64 (R : Int)) := row_cell h.gblk 1 _ (by rw [hR]; rfl)
/-- A row more. wa: where the append begins; nb: the new row's block. -/
theorem NB.push (h : NB w wr g a cap gb pn C v bs (fun _ _ => false)) {wa w4 : World} {nb gu ucap : Nat} (k : Below wr.heap.size wr wa) (hnb : wr.heap.size ≤ nb) (hn : wa.heap[nb]? = some (.cells (rowE (fun _ => false) C) 4 (0, 0)))
    (ho : w4.ownsRow (pn + 1) 85 1 (.slice (some ⟨gu, 0, none⟩) (bs.length + 1) ucap) (bs.length + 1) (bs.map (rowSl C) ++ [rowSl C nb])) (hg : wa.grownBy w4 v.ownBlock) :
    w4.heap[pn]? = some (.cells #[v, .slice none 0 0] 89 (0, 0)) ∧ NB w (w4.setCell ⟨pn, 0, none⟩ (.slice (some ⟨gu, 0, none⟩) (bs.length + 1) ucap)) g a cap gb pn C (.slice (some ⟨gu, 0, none⟩) (bs.length + 1) ucap) (bs ++ [nb]) (fun _ _ => false) := by
  have ha := h.kept k
  have hat := h.at_
  have hpn := heap_lt ha.net
  have far : ∀ b o, wa.heap[b]? = some o → v.ownBlock ≠ some b → b ≠ pn → (w4.setCell ⟨pn, 0, none⟩ (.slice (some ⟨gu, 0, none⟩) (bs.length + 1) ucap)).heap[b]? = some o := fun b o hb hv hp => by
    rw [heap_setCell_ne hp, hg.block b (heap_lt hb) (fun e => hv e.symm)]; exact hb
  have hvb : ∀ b, v.ownBlock = some b → pn + 1 ≤ b := fun b hb => ownsRow_block ha.own b hb
  have h1 : w4.heap[pn]? = some (.cells #[v, .slice none 0 0] 89 (0, 0)) := by
    rw [hg.block pn hpn fun e => by have := hvb pn e.symm; omega]; exact ha.net
  have hsz : wr.heap.size ≤ wa.heap.size := k.size
  have hpw : pn < wr.heap.size := heap_lt h.net
  refine ⟨h1, far gb _ ha.gblk (fun e => by have := hvb gb e; omega) (by omega), by rw [row_setCell h1]; rfl, ?_, fun r b hb => ?_, fun r q b h2 h3 => ?_, (ha.below.grown hg ha.below.size fun b hb => by have := hvb b hb; omega).setCell (by show w.heap.size ≤ pn; omega) _, hat⟩
  · rw [List.length_append, List.map_append]
    exact ownsRow_other ho fun b hb => heap_setCell_ne fun e => by have := ownsRow_block ho b hb; omega
  · by_cases e : r < bs.length
    · rw [List.getElem?_append_left e] at hb
      obtain ⟨h2, h3⟩ := ha.rows r b hb
      exact ⟨h2, far b _ h3 (fun e2 => row_apart h3 ha.own (by decide) e2.symm) (by omega)⟩
    · rw [List.getElem?_append_right (by omega)] at hb
      obtain ⟨h2, h3⟩ := List.getElem?_eq_some_iff.1 hb
      simp at h2 h3
      subst h3
      exact ⟨by omega, far nb _ hn (fun e2 => row_apart hn ha.own (by decide) e2.symm) (by omega)⟩
  · have key : ∀ (r q b : Nat), r < bs.length → (bs ++ [nb])[r]? = some b → (bs ++ [nb])[q]? = some b → r = q := fun r q b hr h2 h3 => by
      rw [List.getElem?_append_left hr] at h2
      by_cases e : q < bs.length
      · rw [List.getElem?_append_left e] at h3; exact h.nd r q b h2 h3
      · rw [List.getElem?_append_right (by omega)] at h3
        obtain ⟨h4, h5⟩ := List.getElem?_eq_some_iff.1 h3
        simp at h4 h5
        have := heap_lt (h.rows r b h2).2
        omega
    by_cases e : r < bs.length
    · exact key r q b e h2 h3
    · by_cases e2 : q < bs.length
      · exact (key q r b e2 h3 h2).symm
      · have h4 := (List.getElem?_eq_some_iff.1 h2).1
        have h5 := (List.getElem?_eq_some_iff.1 h3).1
        simp at h4 h5; omega
/-- An edge more. -/
theorem NB.mark (h : NB w wr g a cap gb pn C v bs E) {r c b : Nat} (hb : bs[r]? = some b) {F : Nat → Nat → Bool} (h1 : F r c = true) (h2 : ∀ q d, q ≠ r ∨ d ≠ c → F q d = E q d) : NB w (wr.setCell ⟨b, c, none⟩ (.bool true)) g a cap gb pn C v bs F := by
  obtain ⟨h3, h4⟩ := h.rows r b hb
  have hat := h.at_
  refine ⟨(heap_setCell_ne (by omega)).trans h.gblk, (heap_setCell_ne (by omega)).trans h.net, ownsRow_other h.own fun k hk => heap_setCell_ne fun e => by subst e; exact row_apart h4 h.own (by decide) hk.symm, fun q b2 hq => ?_, h.nd, h.below.setCell (by show w.heap.size ≤ b; omega) _, hat⟩
  obtain ⟨h5, h6⟩ := h.rows q b2 hq
  by_cases e : q = r
  · subst e
    have : b2 = b := by rw [hb] at hq; exact (Option.some.inj hq).symm
    subst this
    refine ⟨h5, ?_⟩
    rw [row_setCell h4, rowE_set _ _ h1 fun d hd => h2 q d (.inr hd)]
  · refine ⟨h5, ?_⟩
    rw [heap_setCell_ne fun e2 => by subst e2; exact e (h.nd q r b2 hq hb)]
    have : E q = F q := funext fun d => (h2 q d (.inl e)).symm
    rw [← this]; exact h6
end
theorem info_boolsT : (Tryz.prog.info? 85).map (fun i => (i.zero, i.size, i.bytes)) = some (some (.slice none 0 0), 1, 24) := by kernel_rfl

def NetPost (w : World) (g : Gr) (R C : Nat) (e : Ending) (w' : World) : Prop :=
  ∃ pn hv v, e = .returned (.pointer (some ⟨pn, 0, none⟩)) ∧ w.heap.size ≤ pn ∧ w'.heap[pn]? = some (.cells #[hv, v] 89 (0, 0)) ∧ HasR w' (fun k => k < w'.heap.size ∧ k ≠ pn) g R C hv ∧ Below w.heap.size w w'
set_option maxRecDepth 100000 in
set_option maxHeartbeats 4000000 in
theorem rnet_any (g : Gr) (hc : chk g = true) (R C : Nat) (hR : g.rows = R) (hC : g.cols = C) (a : Option Addr) (cap : Nat) (hes : g.es.length ≤ 1048576) (w : World) (hr : RowsAt 3 edV w a g.es) :
    Calls Tryz.prog 104 #[grV g a cap] w (NetPost w g R C) := by
  have HR := hid hr
  have HCK := hid hc
  have HES := hid hes
  have HRC := hid (And.intro hR hC)
  have HC64 : Hid (C ≤ 64 ∧ R ≤ 64) := hid (by have := chk_size hc; omega)
  have hr63 : (R : Int) ≤ 64 := by have := HC64.out; omega
  have hc63 : (C : Int) ≤ 64 := by have := HC64.out; omega
  clear hr hc hR hC hes
  unfold grV
  go_enter Tryz.func104, Tryz.ntmps104
  go_upto_region 2 with fail
  have HS0 : Hid (NB w ((w.alloc (.cells #[.int .i64 g.rows, .int .i64 g.cols, .slice a g.es.length cap] 24)).alloc (.cells #[.slice none 0 0, .slice none 0 0] 89)) g a cap w.heap.size (w.heap.size + 1) C (.slice none 0 0) [] (fun _ _ => false)) := hid
    ⟨alloc_keep (heap_alloc_new _ _) _, heap_2 _ _ _, ownsRow_nil _ _ _ _, fun r b h => by simp at h, fun r q b h => by simp at h, ((Below.refl _ _).alloc (Nat.le_refl _) _).alloc (by simp) _, rfl, rfl⟩
  generalize (w.alloc (.cells #[.int .i64 g.rows, .int .i64 g.cols, .slice a g.es.length cap] 24)).alloc (.cells #[.slice none 0 0, .slice none 0 0] 89) = w1 at *
  obtain ⟨pn, hpn⟩ : ∃ pn, pn = w.heap.size + 1 := ⟨_, rfl⟩
  obtain ⟨gb, hgb⟩ : ∃ gb, gb = w.heap.size := ⟨_, rfl⟩
  rw [← hpn, ← hgb] at HS0
  rw [← hgb] at hpn ⊢
  rw [← hpn]
  clear hpn hgb
  go_wp2
  go_loopw [4] (fun i wr => ∃ (r : Nat) (v : Value) (bs : List Nat), r ≤ R ∧ i = .int .i64 r ∧ bs.length = r ∧ Hid (NB w wr g a cap gb pn C v bs (fun _ _ => false))) (fun i _ => R - (intOf i).toNat)
  case atStart => exact ⟨0, _, [], by omega, rfl, rfl, HS0⟩
  case round =>
    clear HS0
    obtain ⟨r, v, bs, hrR, rfl, hbs, HS⟩ := hrel
    have HBS := hid hbs
    clear hbs
    have hrl : (r : Int) ≤ 64 := by omega
    have g0 := HS.out.rowsC HRC.out.1
    by_cases hlt : r < R
    · have hri : (r : Int) < (R : Int) := by omega
      -- L1
      go_upto_region 5 with fail
      obtain ⟨wz, hwz⟩ : ∃ wz, wz = wr := ⟨_, rfl⟩
      subst hwz
      have HSq := hid (HS.out.kept (Below.refl _ _).drew)
      have HSm := hid (HSq.out.kept ((Below.refl _ _).alloc (Nat.le_refl _) (.cells (boolL (List.replicate C false)).toArray 4)))
      have HSn := hid (HSm.out.kept ((Below.refl _ _).alloc (Nat.le_refl _) (.cells #[rowSl C wz.heap.size] 85)))
      have HSZ : Hid (pn + 1 ≤ ((wz.drew.alloc (.cells (boolL (List.replicate C false)).toArray 4)).alloc (.cells #[rowSl C wz.heap.size] 85)).heap.size) := hid (by have := heap_lt HSn.out.net; omega)
      have HKB : Hid (Below wz.heap.size wz ((wz.drew.alloc (.cells (boolL (List.replicate C false)).toArray 4)).alloc (.cells #[rowSl C wz.heap.size] 85))) := hid ((((Below.refl _ _).drew).alloc (Nat.le_refl _) _).alloc (by simp) _)
      have HNB : Hid (((wz.drew.alloc (.cells (boolL (List.replicate C false)).toArray 4)).alloc (.cells #[rowSl C wz.heap.size] 85)).heap[wz.heap.size]? = some (.cells (rowE (fun _ => false) C) 4 (0, 0))) := hid (by rw [← rowE_false]; exact alloc_keep (heap_alloc_new wz.drew _) _)
      have HNEW : Hid (((wz.drew.alloc (.cells (boolL (List.replicate C false)).toArray 4)).alloc (.cells #[rowSl C wz.heap.size] 85)).heap[wz.heap.size + 1]? = some (.cells #[rowSl C wz.heap.size] 85 (0, 0))) := hid (heap_2 wz.drew _ _)
      have HFIN := hid (fun gu ucap w4 ho hg => HS.out.push (gu := gu) (ucap := ucap) (w4 := w4) HKB.out (Nat.le_refl _) HNB.out ho hg)
      have HLL : Hid (bs.length ≤ 64) := hid (by rw [HBS.out]; have := HC64.out; omega)
      have g1 := HS.out.colsC HRC.out.2
      have n0 := row_cell HS.out.net 0 _ rfl
      have lgb := heap_lt HS.out.gblk
      have lpn := heap_lt HS.out.net
      have hm : ∀ w1 : World, (Instr.makeSlice 85 (.int .i64 (C : Int)) (.int .i64 (C : Int))).run Tryz.prog w1 = .ok (.slice (some ⟨w1.heap.size, 0, none⟩) C C) (w1.alloc (.cells (boolL (List.replicate C false)).toArray 4)) := fun w1 => make_bools w1 C HC64.out.1
      obtain ⟨i1, hi1, hz10, hz11, hz12⟩ := info_parts info_boolsT
      go_region_law ((refine step_append_lies _ (by rfl) _ _ 87 (by rfl) (pn + 1) 85 i1 (.slice none 0 0) 1 24 Tryz.underlying87 hi1 hz10 hz11 hz12 (by rfl) (by decide) v bs.length (bs.map (rowSl C)) (by rfl) HSn.out.own ⟨wz.heap.size + 1, 0, none⟩ 1 1 [rowSl C wz.heap.size] (by rfl) (by rfl) (World.news_of_block HNEW.out) (by simp [Value.oneCell', rowSl]) (by omega) (by have := HLL.out; unfold maxLen; omega) (by have := HLL.out; omega) HSZ.out (wz.heap.size + 2) (by simp) ?_; intro gu ucap w5 hown' hgrow hat hgult; have hfin := HFIN.out gu ucap w5 hown' hgrow; have c5 := row_cell hfin.1 0 v rfl; have f5 := free_row hfin.1 0; have HG5 := hid hfin.2; clear hown' hgrow hat hfin))
      all_goals go_wp2
      all_goals go_roundw
      all_goals first
        | exact ⟨r + 1, _, _, by omega, by go_num, by rw [List.length_append, HBS.out]; rfl, hid HG5.out⟩
        | (simp [intOf]; omega)
      -- /L1
    · obtain rfl : r = R := by omega
      have hri : ¬ ((r : Int) < (r : Int)) := by omega
      have HS0 : Hid (NB w wr g a cap gb pn C v bs (egTo g 0)) := hid (by
        have : egTo g 0 = fun _ _ => false := by funext r c; exact egTo_zero g r c
        rw [this]; exact HS.out)
      clear HS hlt hrR
      go_wp2
      go_loopw [5] (fun i wr => ∃ (k : Nat), k ≤ g.es.length ∧ i = .int .i64 k ∧ Hid (NB w wr g a cap gb pn C v bs (egTo g k))) (fun i _ => g.es.length - (intOf i).toNat)
      case atStart => exact ⟨0, by omega, rfl, HS0⟩
      case round =>
        clear HS0
        obtain ⟨k, hk, rfl, HS⟩ := hrel
        have hkl : (k : Int) ≤ 1048576 := by have := HES.out; omega
        have g2 := row_cell HS.out.gblk 2 _ rfl
        by_cases hlk : k < g.es.length
        · have hki : (k : Int) < (g.es.length : Int) := by omega
          obtain ⟨x, hx⟩ : ∃ x, g.es[k]? = some x := ⟨g.es[k], by simp [hlk]⟩
          obtain ⟨gg, o, rfl, _, hcc⟩ := (HR.out.kept HS.out.below).get hx
          rw [Nat.mul_comm] at hcc
          obtain ⟨xr, xc, e1, e2, e3, e4, e5, e6⟩ := edge_ok HCK.out (List.mem_of_getElem? hx)
          have e3' : xr < r := by have := HRC.out.1; omega
          have e4' : xc < C := by have := HRC.out.2; omega
          have x0 : wr.cell? ⟨gg, o + k * 3, none⟩ = some (.int .i64 (xr : Int)) := by rw [← e1]; exact hcc 0 _ rfl
          have x1 : wr.cell? ⟨gg, o + k * 3 + 1, none⟩ = some (.int .i64 (xc : Int)) := by rw [← e2]; exact hcc 1 _ rfl
          obtain ⟨b, hb⟩ : ∃ b, bs[xr]? = some b := ⟨bs[xr]'(by rw [HBS.out]; exact e3'), by simp [HBS.out, e3']⟩
          have HMK := hid (HS.out.mark hb (c := xc) (F := egTo g (k + 1)) (by rw [egTo_succ hx]; simp [e1, e2]) (fun q d hqd => by
            rw [egTo_succ hx, e1, e2]
            rcases hqd with h | h
            · have : ((xr : Int) == (q : Int)) = false := by simp; omega
              rw [this]; simp
            · have : ((xc : Int) == (d : Int)) = false := by simp; omega
              rw [this]; simp))
          obtain ⟨gv, vc, hv⟩ := ownsRow_form' HS.out.own (by rw [HBS.out]; omega)
          subst hv
          have n0 := row_cell HS.out.net 0 _ rfl
          have v0 : wr.cell? ⟨gv, xr, none⟩ = some (.slice (some ⟨b, 0, none⟩) C C) := (HS.out.own.cellAt xr (by rw [HBS.out]; omega)).trans (by rw [List.getElem?_map, hb]; rfl)
          have hbr := (HS.out.rows xr b hb).2
          have b0 := row_cell hbr xc _ (rowE_get _ e4')
          have b1 := free_row hbr xc
          have hxi : (xr : Int) < (bs.length : Int) := by rw [HBS.out]; omega
          have hxc : (xc : Int) < (C : Int) := by omega
          have hxl : (xr : Int) ≤ 64 := by omega
          clear hx hcc hb hbr e1 e2 e3 e4
          -- L2
          go_upto_region 9 with fail
          go_region
          all_goals go_wp2
          go_roundw
          case rel => exact ⟨k + 1, by omega, by go_num, hid (HMK.out.kept ((Below.refl _ _).drew))⟩
          case measure => simp [intOf]; omega
          -- /L2
        · obtain rfl : k = g.es.length := by omega
          have hki : ¬ ((g.es.length : Int) < (g.es.length : Int)) := by omega
          -- L3
          go_wp2
          go_ret
          obtain ⟨av, vc, hv⟩ := ownsRow_shape HS.out.own
          refine ⟨pn, v, _, rfl, by have := HS.out.at_; omega, HS.out.net, ⟨av, vc, by rw [hv, HBS.out], fun q hq => ?_⟩, HS.out.below⟩
          obtain ⟨b, hb⟩ : ∃ b, bs[q]? = some b := ⟨bs[q]'(by rw [HBS.out]; exact hq), by simp [HBS.out, hq]⟩
          obtain ⟨gv, vc', hv'⟩ := ownsRow_form' HS.out.own (by rw [HBS.out]; omega)
          have hown := HS.out.own
          rw [hv'] at hown
          rw [hv] at hv'
          have hbr := HS.out.rows q b hb
          have hg1 := ownsRow_block hown gv rfl
          have hg2 := ownsRow_lt hown (g := gv) rfl
          refine ⟨gv, 0, b, C, by cases hv'; rfl, ⟨hg2, by omega⟩, ⟨heap_lt hbr.2, by omega⟩, ?_, fun c hc => ?_⟩
          · rw [Nat.zero_add, hown.cellAt q (by rw [HBS.out]; omega), List.getElem?_map, hb]; rfl
          · rw [← egTo_all HCK.out]; exact row_cell hbr.2 c _ (rowE_get _ hc)
          -- /L3
end Go.Proofs.YtjhomkdnhdhffaaGreat
