/- The walk of the closure visit in cover.Cover, by induction on how many rows were not come to. -/
import Derived.Test.YtjhomkdnhdhffaaGreatPlaceW
import Derived.Test.YtjhomkdnhdhffaaGreatVisPl
namespace Go.Proofs.YtjhomkdnhdhffaaGreat
open Go.RowKit

structure VHas (w : World) (p mr nb mc tb : Nat) (tos : List Value) (tl : List (List Nat)) (gone : List Bool) (row col : List Int) (s : Vis) : Prop where
  net : NetHas w p tos tl gone row col
  rows : MarksAt w mr s.1
  cols : MarksAt w mc s.2
  nbox : w.heap[nb]? = some (.cells #[.pointer (some ⟨p, 0, none⟩)] 90 (0, 0))
  tbox : w.heap[tb]? = some (.cells #[.func (.func 107) #[] #[.pointer (some ⟨mr, 0, none⟩), .pointer (some ⟨nb, 0, none⟩), .pointer (some ⟨mc, 0, none⟩), .pointer (some ⟨tb, 0, none⟩)]] 95 (0, 0))
  two : mr ≠ mc
section
variable {w w' : World} {p mr nb mc tb : Nat} {tos : List Value} {tl : List (List Nat)} {gone : List Bool} {row col : List Int} {s : Vis}
theorem VHas.only (h : VHas w p mr nb mc tb tos tl gone row col s) (ho : Only w w' mr mc) {s' : Vis} (h1 : MarksAt w' mr s'.1) (h2 : MarksAt w' mc s'.2) : VHas w' p mr nb mc tb tos tl gone row col s' :=
  ⟨⟨ho.keep h.net.net (block_ne h.net.net h.rows (by decide)) (block_ne h.net.net h.cols (by decide)), h.net.tos.only ho h.rows h.cols (by decide) (by decide)⟩, h1, h2,
    ho.keep h.nbox (block_ne h.nbox h.rows (by decide)) (block_ne h.nbox h.cols (by decide)), ho.keep h.tbox (block_ne h.tbox h.rows (by decide)) (block_ne h.tbox h.cols (by decide)), h.two⟩
theorem VHas.markRow (h : VHas w p mr nb mc tb tos tl gone row col s) (r : Nat) : VHas (w.setCell ⟨mr, r, none⟩ (.bool true)) p mr nb mc tb tos tl gone row col (s.1.set r true, s.2) :=
  h.only ((Only.refl w mr mc).setCell (.inl rfl) _ _) (h.rows.set _ _) (h.cols.other (Ne.symm h.two) _ _)
theorem VHas.markCol (h : VHas w p mr nb mc tb tos tl gone row col s) (c : Nat) : VHas (w.setCell ⟨mc, c, none⟩ (.bool true)) p mr nb mc tb tos tl gone row col (s.1, s.2.set c true) :=
  h.only ((Only.refl w mr mc).setCell (.inr rfl) _ _) (h.rows.other h.two _ _) (h.cols.set _ _)
end
def VisPost (w : World) (p mr nb mc tb : Nat) (tos : List Value) (tl : List (List Nat)) (gone : List Bool) (row col : List Int) (s : Vis) (e : Ending) (w' : World) : Prop :=
  e = .returned (.tuple #[]) ∧ VHas w' p mr nb mc tb tos tl gone row col s ∧ Only w w' mr mc

set_option maxRecDepth 100000 in
set_option maxHeartbeats 4000000 in
theorem vis_any (p mr nb mc tb : Nat) (tos : List Value) (tl : List (List Nat)) (gone : List Bool) (hok : NetOk tl gone) (row col : List Int) (hp : PairOk row col) : ∀ (k : Nat) (s : Vis) (r : Nat) (w : World), r < 64 → VisOk s → unmet s.1 < k + 1 → getB s.1 r = false → VHas w p mr nb mc tb tos tl gone row col s →
    Calls Tryz.prog 107 #[.int .i64 r, .pointer (some ⟨mr, 0, none⟩), .pointer (some ⟨nb, 0, none⟩), .pointer (some ⟨mc, 0, none⟩), .pointer (some ⟨tb, 0, none⟩)] w (VisPost w p mr nb mc tb tos tl gone row col (visF tl col k s r))
  | 0, s, r, w, hr, hso, hu, hm, _ => by
    have := unmet_set s.1 r hm (by rw [hso.rows]; exact hr)
    omega
  | k + 1, s, r, w, hr, hso, hu, hm, hh => by
    have ih := hid (vis_any p mr nb mc tb tos tl gone hok row col hp k)
    have HK := hid (visF_keeps hok hp k)
    obtain ⟨l, hl⟩ : ∃ l, tl[r]? = some l := ⟨tl[r]'(by rw [hok.len]; exact hr), by simp [hok.len, hr]⟩
    have HL0 : Hid (visF tl col (k + 1) s r = visL (visF tl col k) col l (s.1.set r true, s.2)) := hid (by rw [visF, hl]; rfl)
    have HLC := hid (hok.cols r l hl)
    have HOK := hid hok
    have HP := hid hp
    have HSO := hid hso
    have HU : Hid (unmet (s.1.set r true) < k + 1) := hid (by have := unmet_set s.1 r hm (by rw [hso.rows]; exact hr); omega)
    have HH := hid hh
    obtain ⟨a, cap, hta, hcols⟩ := hh.net.tos.each r l hl
    have HCO := hid hcols
    have HM1 := hid (hh.markRow r)
    have HO1 := hid ((Only.refl w mr mc).setCell (.inl rfl) r (.bool true))
    have HS1 : Hid (VisOk (s.1.set r true, s.2)) := hid ⟨by simp [hso.rows], hso.cols⟩
    have cr := hh.rows.cell (k := r) (by rw [hso.rows]; exact hr)
    have fr := free_row hh.rows r
    have hri : (r : Int) < 64 := by omega
    have hl64 : l.length ≤ 64 := HLC.out.2
    have HTA := hid hta
    clear hok hp hl hso hu hm hh hta hcols
    go_enter Tryz.func107, Tryz.ntmps107
    go_upto_region 1 with fail
    generalize w.setCell ⟨mr, r, none⟩ (.bool true) = wa at *
    clear cr fr
    have cn := row_cell HM1.out.nbox 0 _ rfl
    have ct := HM1.out.net.net.cellTo HM1.out.net.tos.len hr HTA.out
    go_wp2
    clear ct cn
    go_loopw [7, 8, 18] (fun _ _ i wr => ∃ (j : Nat) (s1 : Vis), j ≤ l.length ∧ i = .int .i64 j ∧ VHas wr p mr nb mc tb tos tl gone row col s1 ∧ Hid (Only w wr mr mc) ∧ Hid (VisOk s1) ∧ Hid (unmet s1.1 < k + 1) ∧ Hid (visF tl col (k + 1) s r = visL (visF tl col k) col (l.drop j) s1)) (fun _ _ i _ => l.length - (intOf i).toNat)
    case atStart => exact ⟨0, _, by omega, rfl, HM1.out, HO1, HS1, HU, hid (by rw [HL0.out]; rfl)⟩
    case round =>
      have HH0 := HH
      clear HM1 HO1 HS1 HU HH
      obtain ⟨j, s1, hj, rfl, hh, HON, HSO1, HU, HT⟩ := hrel
      have HH := hid hh
      clear hh
      have cn := row_cell HH.out.nbox 0 _ rfl
      have ct := row_cell HH.out.tbox 0 _ rfl
      by_cases hlt : j < l.length
      · obtain ⟨c, hc⟩ : ∃ c, l[j]? = some c := ⟨l[j], by simp [hlt]⟩
        have hc64 : c < 64 := HLC.out.1 c (List.mem_of_getElem? hc)
        have hci : (c : Int) < 64 := by omega
        have HD : Hid (l.drop j = c :: l.drop (j + 1)) := hid (by obtain ⟨h1, h2⟩ := List.getElem?_eq_some_iff.1 hc; rw [List.drop_eq_getElem_cons h1, h2])
        obtain ⟨g, cs, fr, rfl, hrow0, hcell⟩ := HCO.out.resolve_left (by intro e; rw [e] at hc; cases hc)
        have hrow := HON.out.keep hrow0 (block_ne hrow0 HH0.out.rows (by decide)) (block_ne hrow0 HH0.out.cols (by decide))
        have cc : wr.cell? ⟨g, j, none⟩ = some (.int .i64 c) := row_cell hrow j _ (hcell j c hc)
        have cm := HH.out.cols.cell (k := c) (by rw [HSO1.out.cols]; exact hc64)
        have fm := free_row HH.out.cols c
        clear hc hrow0 hrow hcell
        cases hm : getB s1.2 c with
        | true =>
          rw [hm] at cm
          have HN : Hid (visF tl col (k + 1) s r = visL (visF tl col k) col (l.drop (j + 1)) s1) := hid (by rw [HT.out, HD.out, visL.eq_2, if_pos hm])
          clear hm
          go_wp2
          go_roundw
          case rel => exact ⟨j + 1, s1, by omega, by go_num, HH.out, HON, HSO1, HU, HN⟩
          case measure => simp [intOf]; omega
        | false =>
          rw [hm] at cm
          have HMF := hid hm
          clear hm
          go_upto_region 6 with fail
          have HQ := hid (HH.out.markCol c)
          have HQO := hid (HON.out.trans ((Only.refl wr mr mc).setCell (.inr rfl) c (.bool true)))
          have HQS : Hid (VisOk (s1.1, s1.2.set c true)) := hid ⟨HSO1.out.rows, by simp [HSO1.out.cols]⟩
          generalize wr.setCell ⟨mc, c, none⟩ (.bool true) = wq at *
          clear cm fm cc cn ct
          have cn2 := row_cell HQ.out.nbox 0 _ rfl
          have ct2 := row_cell HQ.out.tbox 0 _ rfl
          have cl2 := HQ.out.net.net.cellCol HQ.out.net.tos.len HP.out.rowL (k := c) (by rw [HP.out.colL]; exact hc64)
          rcases HP.out.colAt hc64 with hq | ⟨q, hq, hq64⟩
          · rw [hq] at cl2
            have HN : Hid (visF tl col (k + 1) s r = visL (visF tl col k) col (l.drop (j + 1)) (s1.1, s1.2.set c true)) := hid (by rw [HT.out, HD.out, visL.eq_2, if_neg (by rw [HMF.out]; simp), if_pos (by rw [hq]; omega)])
            clear hq
            go_wp2
            go_roundw
            case rel => exact ⟨j + 1, _, by omega, by go_num, HQ.out, HQO, HQS, HU, HN⟩
            case measure => simp [intOf]; omega
          · rw [hq] at cl2
            have hqn : ¬ ((q : Int) < 0) := by omega
            have hqi : (q : Int) < 64 := by omega
            have hq0 : (0 : Int) ≤ (q : Int) := by omega
            have cv := HQ.out.rows.cell (k := q) (by rw [HQS.out.rows]; exact hq64)
            have HT2 : Hid (visF tl col (k + 1) s r = if getB s1.1 q = true then visL (visF tl col k) col (l.drop (j + 1)) (s1.1, s1.2.set c true) else visL (visF tl col k) col (l.drop (j + 1)) (visF tl col k (s1.1, s1.2.set c true) q)) := hid (by rw [HT.out, HD.out, visL.eq_2, if_neg (by rw [HMF.out]; simp), if_neg (by rw [hq]; omega), hq, Int.toNat_natCast])
            clear hq
            cases hv : getB s1.1 q with
            | true =>
              rw [show getB (s1.1, s1.2.set c true).1 q = true from hv] at cv
              have HN : Hid (visF tl col (k + 1) s r = visL (visF tl col k) col (l.drop (j + 1)) (s1.1, s1.2.set c true)) := hid (by rw [HT2.out, if_pos hv])
              clear hv HT2
              go_wp2
              go_roundw
              case rel => exact ⟨j + 1, _, by omega, by go_num, HQ.out, HQO, HQS, HU, HN⟩
              case measure => simp [intOf]; omega
            | false =>
              rw [show getB (s1.1, s1.2.set c true).1 q = false from hv] at cv
              have HN : Hid (visF tl col (k + 1) s r = visL (visF tl col k) col (l.drop (j + 1)) (visF tl col k (s1.1, s1.2.set c true) q)) := hid (by rw [HT2.out, if_neg (by rw [hv]; simp)])
              have C := hid (ih.out (s1.1, s1.2.set c true) q wq hq64 HQS.out HU.out hv HQ.out)
              have hks := HK.out (s1.1, s1.2.set c true) q hq64 HQS.out
              have HS2 := hid hks.1
              have HU2 : Hid (unmet (visF tl col k (s1.1, s1.2.set c true) q).1 < k + 1) := hid (Nat.lt_of_le_of_lt hks.2 HU.out)
              clear hv HT2 hks
              generalize visF tl col k (s1.1, s1.2.set c true) q = s2 at *
              go_wp2_with (go_at_call 107; refine C.out.mono ?_; rintro e w5 ⟨rfl, hh5, ho5⟩; have HX5 := hid hh5; have HXO5 := hid (HQO.out.trans ho5); clear hh5 ho5)
              go_roundw
              case rel => exact ⟨j + 1, s2, by omega, by go_num, HX5.out, HXO5, HS2, HU2, HN⟩
              case measure => simp [intOf]; omega
      · obtain rfl : j = l.length := by omega
        have HN : Hid (visF tl col (k + 1) s r = s1) := hid (by rw [HT.out, List.drop_length]; rfl)
        go_wp2
        go_end0
        exact ⟨rfl, by rw [HN.out]; exact HH.out, HON.out⟩
end Go.Proofs.YtjhomkdnhdhffaaGreat
