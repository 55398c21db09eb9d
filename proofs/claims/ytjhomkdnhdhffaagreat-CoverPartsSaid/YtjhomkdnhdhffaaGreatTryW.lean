/- The walk of the search in depth: the closure in (*net).place, by induction on how many columns are not marked. -/
import Derived.Test.YtjhomkdnhdhffaaGreatNetMem
import Derived.Deep.QuietTactic
import Derived.BigQuiet
import Derived.BigRegion
import Derived.StillTailTactics
import Derived.Deep.Light
namespace Go.Proofs.YtjhomkdnhdhffaaGreat
open Go.RowKit

/-- All that a search needs in memory: the net, its columns by row, the marks, the two variables that the closure holds. -/
structure Has (w : World) (p m nb tb : Nat) (tos : List Value) (tl : List (List Nat)) (gone : List Bool) (s : St) : Prop where
  net : NetAt w p tos s.row s.col gone
  tos : ToAt w tos tl
  marks : MarksAt w m s.met
  nbox : w.heap[nb]? = some (.cells #[.pointer (some ⟨p, 0, none⟩)] 90 (0, 0))
  tbox : w.heap[tb]? = some (.cells #[.func (.func 164) #[] #[.pointer (some ⟨nb, 0, none⟩), .pointer (some ⟨m, 0, none⟩), .pointer (some ⟨tb, 0, none⟩)]] 272 (0, 0))

theorem block_ne {w : World} {a b : Nat} {ca cb : Array Value} {Ta Tb : TypeId} {fa fb : Nat × Nat} (ha : w.heap[a]? = some (.cells ca Ta fa)) (hb : w.heap[b]? = some (.cells cb Tb fb)) (h : Ta ≠ Tb) : a ≠ b := by
  intro e
  rw [e, hb] at ha
  injection ha with ha
  injection ha with h1 h2
  exact h h2.symm
section
variable {w w' : World} {p m nb tb : Nat} {tos : List Value} {tl : List (List Nat)} {gone : List Bool} {s : St}
theorem Has.pm (h : Has w p m nb tb tos tl gone s) : p ≠ m := block_ne h.net h.marks (by decide)
theorem Has.np (h : Has w p m nb tb tos tl gone s) : nb ≠ p ∧ nb ≠ m ∧ tb ≠ p ∧ tb ≠ m :=
  ⟨block_ne h.nbox h.net (by decide), block_ne h.nbox h.marks (by decide), block_ne h.tbox h.net (by decide), block_ne h.tbox h.marks (by decide)⟩
theorem Has.only (h : Has w p m nb tb tos tl gone s) (ho : Only w w' p m) {s' : St} (h1 : NetAt w' p tos s'.row s'.col gone) (h2 : MarksAt w' m s'.met) : Has w' p m nb tb tos tl gone s' :=
  ⟨h1, h.tos.only ho h.net h.marks (by decide) (by decide), h2, ho.keep h.nbox h.np.1 h.np.2.1, ho.keep h.tbox h.np.2.2.1 h.np.2.2.2⟩
theorem Has.mark (h : Has w p m nb tb tos tl gone s) (c : Nat) : Has (w.setCell ⟨m, c, none⟩ (.bool true)) p m nb tb tos tl gone (s.mark c) :=
  h.only ((Only.refl w p m).setCell (.inr rfl) _ _) (h.net.other h.pm _ _) (h.marks.set _ _)
theorem Has.pair1 (h : Has w p m nb tb tos tl gone s) (ho : StOk s) {r c : Nat} (hr : r < 64) (hc : c < 64) : Has ((w.setCell ⟨p, 64 + r, none⟩ (.int .i64 c)).setCell ⟨p, 128 + c, none⟩ (.int .i64 r)) p m nb tb tos tl gone (s.pair r c) :=
  h.only (((Only.refl w p m).setCell (.inl rfl) _ _).setCell (.inl rfl) _ _) ((h.net.setRow h.tos.len ho.row hr _).setCol h.tos.len (by simp [ho.row]) ho.col hc _) ((h.marks.other (Ne.symm h.pm) _ _).other (Ne.symm h.pm) _ _)
theorem Has.pair2 (h : Has w p m nb tb tos tl gone s) (ho : StOk s) {r c : Nat} (hr : r < 64) (hc : c < 64) : Has ((w.setCell ⟨p, 128 + c, none⟩ (.int .i64 r)).setCell ⟨p, 64 + r, none⟩ (.int .i64 c)) p m nb tb tos tl gone (s.pair r c) :=
  h.only (((Only.refl w p m).setCell (.inl rfl) _ _).setCell (.inl rfl) _ _) ((h.net.setCol h.tos.len ho.row ho.col hc _).setRow h.tos.len ho.row hr _) ((h.marks.other (Ne.symm h.pm) _ _).other (Ne.symm h.pm) _ _)
theorem Has.drew (h : Has w p m nb tb tos tl gone s) : Has w.drew p m nb tb tos tl gone s := h.only (Only.refl w p m).drew h.net h.marks
theorem Has.drewN (h : Has w p m nb tb tos tl gone s) (n : Nat) : Has (w.drewN n) p m nb tb tos tl gone s := h.only ((Only.refl w p m).drewN n) h.net h.marks
end

/-- What a search answers and leaves. -/
def TryPost (w : World) (p m nb tb : Nat) (tos : List Value) (tl : List (List Nat)) (gone : List Bool) (r : Bool × St) (e : Ending) (w' : World) : Prop :=
  e = .returned (.bool r.1) ∧ Has w' p m nb tb tos tl gone r.2 ∧ Only w w' p m

set_option maxRecDepth 100000 in
set_option maxHeartbeats 4000000 in
theorem try_any (p m nb tb : Nat) (tos : List Value) (tl : List (List Nat)) (gone : List Bool) (hok : NetOk tl gone) : ∀ (k : Nat) (s : St) (r : Nat) (w : World), r < 64 → StOk s → unmet s.met < k → Has w p m nb tb tos tl gone s →
    Calls Tryz.prog 164 #[.int .i64 r, .pointer (some ⟨nb, 0, none⟩), .pointer (some ⟨m, 0, none⟩), .pointer (some ⟨tb, 0, none⟩)] w (TryPost w p m nb tb tos tl gone (tryF tl gone k s r))
  | 0, _, _, _, _, _, h, _ => by omega
  | k + 1, s, r, w, hr, hso, hu, hh => by
    have ih := hid (try_any p m nb tb tos tl gone hok k)
    have HK := hid (tryF_keeps hok k)
    obtain ⟨l, hl⟩ : ∃ l, tl[r]? = some l := ⟨tl[r]'(by rw [hok.len]; exact hr), by simp [hok.len, hr]⟩
    have HL0 : Hid (tryF tl gone (k + 1) s r = tryL (tryF tl gone k) gone r l s) := hid (by rw [tryF, hl]; rfl)
    have HLC := hid (hok.cols r l hl)
    have HOK := hid hok
    have HSO := hid hso
    have HU := hid hu
    have HH := hid hh
    obtain ⟨a, cap, hta, hcols⟩ := hh.tos.each r l hl
    have HCO := hid hcols
    have cn := row_cell hh.nbox 0 _ rfl
    have ct := hh.net.cellTo hh.tos.len hr hta
    have hri : (r : Int) < 64 := by omega
    have hl64 : l.length ≤ 64 := HLC.out.2
    clear hok hl hso hu hh hta hcols
    go_enter Tryz.func164, Tryz.ntmps164
    go_wp2
    go_loopw [7, 15] (fun _ i wr => ∃ (j : Nat) (s1 : St), j ≤ l.length ∧ i = .int .i64 j ∧ Has wr p m nb tb tos tl gone s1 ∧ Hid (Only w wr p m) ∧ Hid (StOk s1) ∧ Hid (unmet s1.met ≤ unmet s.met) ∧ Hid (tryF tl gone (k + 1) s r = tryL (tryF tl gone k) gone r (l.drop j) s1)) (fun _ i _ => l.length - (intOf i).toNat)
    case atStart => exact ⟨0, s, by omega, rfl, HH.out, hid (Only.refl _ _ _), HSO, hid (Nat.le_refl _), hid (by rw [HL0.out]; rfl)⟩
    case round =>
      have HH0 := HH
      clear HH HSO cn ct
      obtain ⟨j, s1, hj, rfl, hh, HON, HSO, HU1, HT⟩ := hrel
      have HH := hid hh
      clear hh
      have cn := row_cell HH.out.nbox 0 _ rfl
      by_cases hlt : j < l.length
      · obtain ⟨c, hc⟩ : ∃ c, l[j]? = some c := ⟨l[j], by simp [hlt]⟩
        have hc64 : c < 64 := HLC.out.1 c (List.mem_of_getElem? hc)
        have hci : (c : Int) < 64 := by omega
        have HD : Hid (l.drop j = c :: l.drop (j + 1)) := hid (by obtain ⟨h1, h2⟩ := List.getElem?_eq_some_iff.1 hc; rw [List.drop_eq_getElem_cons h1, h2])
        obtain ⟨g, cs, fr, rfl, hrow0, hcell⟩ := HCO.out.resolve_left (by intro e; rw [e] at hc; cases hc)
        have hrow := HON.out.keep hrow0 (block_ne hrow0 HH0.out.net (by decide)) (block_ne hrow0 HH0.out.marks (by decide))
        have cc : wr.cell? ⟨g, j, none⟩ = some (.int .i64 c) := row_cell hrow j _ (hcell j c hc)
        have cm := HH.out.marks.cell (k := c) (by rw [HSO.out.met]; exact hc64)
        have fm := free_row HH.out.marks c
        have cg := HH.out.net.cellGone HH.out.tos.len HSO.out.row HSO.out.col (k := c) (by rw [HOK.out.gone]; exact hc64)
        have cl := HH.out.net.cellCol HH.out.tos.len HSO.out.row (k := c) (by rw [HSO.out.col]; exact hc64)
        clear hc hrow0 hrow hcell
        cases hm : getB s1.met c with
        | true =>
          rw [hm] at cm
          have HN : Hid (tryF tl gone (k + 1) s r = tryL (tryF tl gone k) gone r (l.drop (j + 1)) s1) := hid (by rw [HT.out, HD.out, tryL.eq_2, if_pos (by rw [hm]; rfl)])
          clear hm
          go_wp2
          go_roundw
          case rel => exact ⟨j + 1, s1, by omega, by go_num, HH.out, HON, HSO, HU1, HN⟩
          case measure => simp [intOf]; omega
        | false =>
          rw [hm] at cm
          cases hg : getB gone c with
          | true =>
            rw [hg] at cg
            have HN : Hid (tryF tl gone (k + 1) s r = tryL (tryF tl gone k) gone r (l.drop (j + 1)) s1) := hid (by rw [HT.out, HD.out, tryL.eq_2]; rw [if_pos (by rw [hm, hg]; rfl)])
            clear hm hg
            go_wp2
            go_roundw
            case rel => exact ⟨j + 1, s1, by omega, by go_num, HH.out, HON, HSO, HU1, HN⟩
            case measure => simp [intOf]; omega
          | false =>
            rw [hg] at cg
            have HMG : Hid (getB s1.met c = false ∧ getB gone c = false) := hid ⟨hm, hg⟩
            clear hm hg
            by_cases hneg : getI s1.col c < 0
            · have HN : Hid (tryF tl gone (k + 1) s r = (true, (s1.mark c).pair r c)) := hid (by rw [HT.out, HD.out, tryL.eq_2, if_neg (by rw [HMG.out.1, HMG.out.2]; simp), if_pos hneg])
              go_wp2
              have HQ := hid (HH.out.mark c)
              have HQS := hid (HSO.out.mark c)
              have HQO := hid (HON.out.trans ((Only.refl wr p m).setCell (.inr rfl) c (.bool true)))
              have HQU : Hid (unmet (s1.mark c).met + 1 = unmet s1.met) := hid (mark_unmet HSO.out hc64 HMG.out.1)
              have cn2 := row_cell HQ.out.nbox 0 _ rfl
              have cl2 : (wr.setCell ⟨m, c, none⟩ (.bool true)).cell? ⟨p, 128 + c, none⟩ = some (.int .i64 (getI s1.col c)) := HQ.out.net.cellCol HQ.out.tos.len HQS.out.row (k := c) (by rw [HQS.out.col]; exact hc64)
              have cr2 := HQ.out.net.cellRow HQ.out.tos.len (k := r) (by rw [HQS.out.row]; exact hr)
              have fc2 := free_row HQ.out.net (128 + c)
              have fr2 := free_row HQ.out.net (64 + r)
              generalize wr.setCell ⟨m, c, none⟩ (.bool true) = wq at *
              clear cm fm cg cl cn cc
              go_quiet (fail)
              go_wp2
              have HX := hid (HQ.out.drewN nq)
              have HXO := hid (HQO.out.drewN nq)
              clear cn2 cl2 cr2 fc2 fr2 HQ HQO
              generalize wq.drewN nq = wx at *
              have cn3 := row_cell HX.out.nbox 0 _ rfl
              have cl3 := HX.out.net.cellCol HX.out.tos.len HQS.out.row (k := c) (by rw [HQS.out.col]; exact hc64)
              have cr3 := HX.out.net.cellRow HX.out.tos.len (k := r) (by rw [HQS.out.row]; exact hr)
              have fc3 := free_row HX.out.net (128 + c)
              have fr3 := free_row HX.out.net (64 + r)
              have n1 : 64 + r ≠ 128 + c := by omega
              have n2 : 128 + c ≠ 64 + r := by omega
              have n3 := HX.out.np.1
              have n4 : p ≠ nb := Ne.symm n3
              go_region
              all_goals go_wp2
              go_ret
              exact ⟨by rw [HN.out]; rfl, by rw [HN.out]; exact (HX.out.pair1 HQS.out hr hc64).drew, ((HXO.out.setCell (.inl rfl) _ _).setCell (.inl rfl) _ _).drew⟩
            · obtain ⟨q, hq, hq64⟩ := HSO.out.colAt hc64 hneg
              rw [hq] at cl
              have hqi : ¬ ((q : Int) < 0) := by omega
              have HQV := hid hq
              have HNG : Hid (0 ≤ getI s1.col c) := hid (Int.not_lt.1 hneg)
              clear hq hneg
              go_wp2
              have HQ := hid (HH.out.mark c)
              have HQS := hid (HSO.out.mark c)
              have HQO := hid (HON.out.trans ((Only.refl wr p m).setCell (.inr rfl) c (.bool true)))
              have HQU : Hid (unmet (s1.mark c).met + 1 = unmet s1.met) := hid (mark_unmet HSO.out hc64 HMG.out.1)
              generalize wr.setCell ⟨m, c, none⟩ (.bool true) = wq0 at *
              clear cm fm cg cl cn cc
              obtain ⟨wq, hwq⟩ : ∃ wq, wq = wq0.drew := ⟨_, rfl⟩
              have HQD := hid hwq
              have HX := hid (hwq ▸ HQ.out.drew)
              have HXO := hid (hwq ▸ HQO.out.drew)
              clear hwq HQ HQO
              have cn2 := row_cell HX.out.nbox 0 _ rfl
              have ct2 := row_cell HX.out.tbox 0 _ rfl
              have cl2 : wq.cell? ⟨p, 128 + c, none⟩ = some (.int .i64 q) := by
                rw [HX.out.net.cellCol HX.out.tos.len HQS.out.row (k := c) (by rw [HQS.out.col]; exact hc64)]; show some (Value.int .i64 (getI s1.col c)) = _; rw [HQV.out]
              refine wp_region_tail 15 (by kernel_rfl) (by kernel_rfl) wq HQD.out ?_
              simp only [List.take_succ_cons, List.take_zero, List.drop_succ_cons, List.drop_zero]
              iterate 15 still_step
              refine wpStill_nil ?_
              have hqd : decide ((q : Int) < 0) = false := by simp
              obtain ⟨b, s2, hbs⟩ : ∃ b s2, tryF tl gone k (s1.mark c) q = (b, s2) := ⟨_, _, rfl⟩
              have C := hid (ih.out (s1.mark c) q wq hq64 HQS.out (by have h1 := HQU.out; have h2 := HU.out; have h3 := HU1.out; omega) HX.out)
              rw [hbs] at C
              have hks := HK.out (s1.mark c) q hq64 HQS.out
              rw [hbs] at hks
              have HS2 : Hid (StOk s2) := hid hks.1
              have HU2 : Hid (unmet s2.met ≤ unmet s.met) := hid (by have h1 := hks.2; have h2 := HQU.out; have h3 := HU1.out; simp only at h1; omega)
              have HT2 : Hid (tryF tl gone (k + 1) s r = if b = true then (true, s2.pair r c) else tryL (tryF tl gone k) gone r (l.drop (j + 1)) s2) := hid (by
                rw [HT.out, HD.out, tryL.eq_2, if_neg (by rw [HMG.out.1, HMG.out.2]; simp), if_neg (Int.not_lt.2 HNG.out), HQV.out, Int.toNat_natCast, hbs])
              clear hbs hks
              cases b with
              | true =>
                have HN : Hid (tryF tl gone (k + 1) s r = (true, s2.pair r c)) := hid (by rw [HT2.out, if_pos rfl])
                clear HT2
                go_wp2_with (go_at_call 164; refine C.out.mono ?_; rintro e w5 ⟨rfl, hh5, ho5⟩; have HX5 := hid hh5; have HXO5 := hid (HXO.out.trans ho5); clear hh5 ho5; have cn3 := row_cell HX5.out.nbox 0 _ rfl)
                have cl3 := HX5.out.net.cellCol HX5.out.tos.len HS2.out.row (k := c) (by rw [HS2.out.col]; exact hc64)
                have cr3 := HX5.out.net.cellRow HX5.out.tos.len (k := r) (by rw [HS2.out.row]; exact hr)
                have fc3 := free_row HX5.out.net (128 + c)
                have fr3 := free_row HX5.out.net (64 + r)
                have n1 : 64 + r ≠ 128 + c := by omega
                have n2 : 128 + c ≠ 64 + r := by omega
                have n3 := HX5.out.np.1
                have n4 : p ≠ nb := Ne.symm n3
                clear ct2 cl2 cn2
                go_region
                all_goals go_wp2
                go_ret
                exact ⟨by rw [HN.out]; rfl, by rw [HN.out]; exact (HX5.out.pair1 HS2.out hr hc64).drew, ((HXO5.out.setCell (.inl rfl) _ _).setCell (.inl rfl) _ _).drew⟩
              | false =>
                have HN : Hid (tryF tl gone (k + 1) s r = tryL (tryF tl gone k) gone r (l.drop (j + 1)) s2) := hid (by rw [HT2.out, if_neg (by simp)])
                clear HT2
                go_wp2_with (go_at_call 164; refine C.out.mono ?_; rintro e w5 ⟨rfl, hh5, ho5⟩; have HX5 := hid hh5; have HXO5 := hid (HXO.out.trans ho5); clear hh5 ho5)
                go_roundw
                case rel => exact ⟨j + 1, s2, by omega, by go_num, HX5.out, HXO5, HS2, HU2, HN⟩
                case measure => simp [intOf]; omega
      · obtain rfl : j = l.length := by omega
        have HN : Hid (tryF tl gone (k + 1) s r = (false, s1)) := hid (by rw [HT.out, List.drop_length]; rfl)
        go_wp2
        go_ret
        exact ⟨by rw [HN.out]; rfl, by rw [HN.out]; exact HH.out, HON.out⟩
end Go.Proofs.YtjhomkdnhdhffaaGreat
