/- The walk of (*net).take. -/
import Derived.Test.YtjhomkdnhdhffaaGreatPlaceW
namespace Go.Proofs.YtjhomkdnhdhffaaGreat
open Go.RowKit

/-- The net as it is now, since w0. -/
structure NetS (w0 w : World) (p : Nat) (tos : List Value) (tl : List (List Nat)) (gone : List Bool) (row col : List Int) : Prop where
  has : NetHas w p tos tl gone row col
  grown : w0.grownBy w (some p)
  ok : PairOk row col
  lenG : gone.length = 64
section
variable {w0 w w' : World} {p : Nat} {tos : List Value} {tl : List (List Nat)} {gone : List Bool} {row col : List Int}
theorem grownBy_set {w0 w : World} {p : Nat} (h : w0.grownBy w (some p)) (k : Nat) (u : Value) : w0.grownBy (w.setCell ⟨p, k, none⟩ u) (some p) :=
  ⟨h.os, h.tape, h.output, by rw [setCell_size]; exact h.size, fun i hi hp => by rw [heap_setCell_ne (fun e => hp (by rw [e]))]; exact h.block i hi hp⟩
theorem grownBy_tr {a b c : World} {r : Option Nat} (h : a.grownBy b r) (k : b.grownBy c r) : a.grownBy c r :=
  ⟨k.os.trans h.os, k.tape.trans h.tape, k.output.trans h.output, Nat.le_trans h.size k.size, fun i hi hp => (k.block i (Nat.lt_of_lt_of_le hi h.size) hp).trans (h.block i hi hp)⟩
theorem grownBy_drewN {a b : World} {r : Option Nat} (h : a.grownBy b r) (n : Nat) : a.grownBy (b.drewN n) r := grownBy_tr h ⟨rfl, rfl, rfl, Nat.le_refl _, fun _ _ _ => rfl⟩
theorem grownBy_drew {a b : World} {r : Option Nat} (h : a.grownBy b r) : a.grownBy b.drew r := grownBy_tr h ⟨rfl, rfl, rfl, Nat.le_refl _, fun _ _ _ => rfl⟩
theorem ToAt.setNet (h : NetHas w p tos tl gone row col) (k : Nat) (u : Value) : ToAt (w.setCell ⟨p, k, none⟩ u) tos tl := h.tos.kept h.net (by decide) fun _ _ hk => heap_setCell_ne hk
theorem NetS.setRow (h : NetS w0 w p tos tl gone row col) {k : Nat} (hk : k < 64) {n : Nat} (hn : n < 64) : NetS w0 (w.setCell ⟨p, 64 + k, none⟩ (.int .i64 n)) p tos tl gone (row.set k n) col :=
  ⟨⟨h.has.net.setRow h.has.tos.len h.ok.rowL hk _, ToAt.setNet h.has _ _⟩, grownBy_set h.grown _ _, h.ok.setRow k hn, h.lenG⟩
theorem NetS.outRow (h : NetS w0 w p tos tl gone row col) {k : Nat} (hk : k < 64) : NetS w0 (w.setCell ⟨p, 64 + k, none⟩ (.int .i64 (-1))) p tos tl gone (row.set k (-1)) col :=
  ⟨⟨h.has.net.setRow h.has.tos.len h.ok.rowL hk _, ToAt.setNet h.has _ _⟩, grownBy_set h.grown _ _, h.ok.outRow k, h.lenG⟩
theorem NetS.setCol (h : NetS w0 w p tos tl gone row col) {k : Nat} (hk : k < 64) {n : Nat} (hn : n < 64) : NetS w0 (w.setCell ⟨p, 128 + k, none⟩ (.int .i64 n)) p tos tl gone row (col.set k n) :=
  ⟨⟨h.has.net.setCol h.has.tos.len h.ok.rowL h.ok.colL hk _, ToAt.setNet h.has _ _⟩, grownBy_set h.grown _ _, h.ok.setCol k hn, h.lenG⟩
theorem NetS.outCol (h : NetS w0 w p tos tl gone row col) {k : Nat} (hk : k < 64) : NetS w0 (w.setCell ⟨p, 128 + k, none⟩ (.int .i64 (-1))) p tos tl gone row (col.set k (-1)) :=
  ⟨⟨h.has.net.setCol h.has.tos.len h.ok.rowL h.ok.colL hk _, ToAt.setNet h.has _ _⟩, grownBy_set h.grown _ _, h.ok.outCol k, h.lenG⟩
theorem NetS.setGone (h : NetS w0 w p tos tl gone row col) (k : Nat) (b : Bool) : NetS w0 (w.setCell ⟨p, 256 + k, none⟩ (.bool b)) p tos tl (gone.set k b) row col :=
  ⟨⟨h.has.net.setGone h.has.tos.len h.ok.rowL h.ok.colL k b, ToAt.setNet h.has _ _⟩, grownBy_set h.grown _ _, h.ok, by simp [h.lenG]⟩
theorem NetS.drewN (h : NetS w0 w p tos tl gone row col) (n : Nat) : NetS w0 (w.drewN n) p tos tl gone row col := ⟨⟨h.has.net, ⟨h.has.tos.len, h.has.tos.each⟩⟩, grownBy_drewN h.grown n, h.ok, h.lenG⟩
theorem NetS.drew (h : NetS w0 w p tos tl gone row col) : NetS w0 w.drew p tos tl gone row col := ⟨⟨h.has.net, ⟨h.has.tos.len, h.has.tos.each⟩⟩, grownBy_drew h.grown, h.ok, h.lenG⟩
theorem NetS.cellRow (h : NetS w0 w p tos tl gone row col) {k : Nat} (hk : k < 64) {n : Int} (hn : getI row k = n) : w.cell? ⟨p, 64 + k, none⟩ = some (.int .i64 n) := by
  subst hn; exact h.has.net.cellRow h.has.tos.len (by rw [h.ok.rowL]; exact hk)
theorem NetS.cellCol (h : NetS w0 w p tos tl gone row col) {k : Nat} (hk : k < 64) {n : Int} (hn : getI col k = n) : w.cell? ⟨p, 128 + k, none⟩ = some (.int .i64 n) := by
  subst hn; exact h.has.net.cellCol h.has.tos.len h.ok.rowL (by rw [h.ok.colL]; exact hk)
theorem NetS.cellGone (h : NetS w0 w p tos tl gone row col) {k : Nat} (hk : k < 64) {b : Bool} (hb : getB gone k = b) : w.cell? ⟨p, 256 + k, none⟩ = some (.bool b) := by
  subst hb; exact h.has.net.cellGone h.has.tos.len h.ok.rowL h.ok.colL (by rw [h.lenG]; exact hk)
theorem NetS.free (h : NetS w0 w p tos tl gone row col) (k : Nat) : w.frozen? ⟨p, k, none⟩ = false := free_row h.has.net k
end

def TakePost (w0 : World) (p : Nat) (tos : List Value) (tl : List (List Nat)) (gone : List Bool) (r : Bool × List Int × List Int) (e : Ending) (w' : World) : Prop :=
  e = .returned (.bool r.1) ∧ NetS w0 w' p tos tl gone r.2.1 r.2.2

set_option maxRecDepth 100000 in
set_option maxHeartbeats 8000000 in
theorem take_any (p : Nat) (tos : List Value) (tl : List (List Nat)) (gone : List Bool) (hok : NetOk tl gone) (row col : List Int) (r c : Nat) (hr : r < 64) (hc : c < 64) (w0 w : World) (hh : NetS w0 w p tos tl gone row col) (hg : getB gone c = false) :
    Calls Tryz.prog 109 #[.pointer (some ⟨p, 0, none⟩), .int .i64 r, .int .i64 c] w (TakePost w0 p tos tl gone (takeF tl gone row col r c)) := by
  have HH := hid hh
  have HOK := hid hok
  have HG := hid hg
  have hri : (r : Int) < 64 := by omega
  have hci : (c : Int) < 64 := by omega
  have n1 : 64 + r ≠ 128 + c := by omega
  have n2 : 128 + c ≠ 64 + r := by omega
  clear hh hok hg
  rcases HH.out.ok.colAt hc with hoc | ⟨q, hoc, hq64⟩
  · rcases HH.out.ok.rowAt hr with hor | ⟨o, hor, ho64⟩
    · have HT : Hid (takeF tl gone row col r c = (true, row.set r c, col.set c r)) := hid (by unfold takeF forced freed; rw [hoc, hor]; rfl)
      have c1 := HH.out.cellRow hr hor
      have c2 := HH.out.cellCol hc hoc
      have HOR := hid hor
      have HOC := hid hoc
      clear hoc hor
      go_enter Tryz.func109, Tryz.ntmps109
      go_wp2
      go_quiet (fail)
      go_upto_region 2 with fail
      clear c1 c2
      refine at_world (fun w1 => NetS w0 w1 p tos tl gone row col) _ rfl (HH.out.drewN _) ?_
      intro w1 h1
      have H1 := hid h1
      clear h1
      go_upto_region 4 with fail
      have c3 := H1.out.cellRow (k := r) hr rfl
      have c4 := H1.out.cellCol (k := c) hc rfl
      have f3 := H1.out.free (64 + r)
      have f4 := H1.out.free (128 + c)
      have m1 : 64 + r ≠ 128 + c := by omega
      have m2 : 128 + c ≠ 64 + r := by omega
      go_region
      go_upto_region 5 with fail
      clear c3 c4 f3 f4 m1 m2
      refine at_world (fun w1 => NetS w0 w1 p tos tl gone (row.set r (c : Int)) (col.set c (r : Int))) _ rfl (((H1.out.drew.setRow hr hc).setCol hc hr)) ?_
      intro w2 h2
      have H2 := hid h2
      clear h2
      go_wp2
      go_ret
      exact ⟨by rw [HT.out]; rfl, by rw [HT.out]; exact H2.out⟩
    · have HT : Hid (takeF tl gone row col r c = (true, row.set r c, (col.set o (-1)).set c r)) := hid (by unfold takeF forced freed; rw [hoc, hor, if_pos (by omega), if_neg (by omega), Int.toNat_natCast])
      have c1 := HH.out.cellRow hr hor
      have c2 := HH.out.cellCol hc hoc
      have HOR := hid hor
      have HOC := hid hoc
      clear hoc hor
      go_enter Tryz.func109, Tryz.ntmps109
      go_wp2
      go_quiet (fail)
      go_upto_region 2 with fail
      clear c1 c2
      refine at_world (fun w1 => NetS w0 w1 p tos tl gone row col) _ rfl (HH.out.drewN _) ?_
      intro w1 h1
      have H1 := hid h1
      clear h1
      have c3 := H1.out.cellCol (k := o) ho64 rfl
      have f3 := H1.out.free (128 + o)
      have ho0 : ¬ ((o : Int) < 0) := by omega
      have hoi : (o : Int) < 64 := by omega
      go_upto_region 4 with fail
      clear c3 f3
      refine at_world (fun w1 => NetS w0 w1 p tos tl gone row (col.set o (-1))) _ rfl (H1.out.outCol ho64) ?_
      intro w2 h2
      have H2 := hid h2
      clear h2
      have c3 := H2.out.cellRow (k := r) hr rfl
      have c4 := H2.out.cellCol (k := c) hc rfl
      have f3 := H2.out.free (64 + r)
      have f4 := H2.out.free (128 + c)
      have m1 : 64 + r ≠ 128 + c := by omega
      have m2 : 128 + c ≠ 64 + r := by omega
      go_region
      go_upto_region 5 with fail
      clear c3 c4 f3 f4 m1 m2
      refine at_world (fun w1 => NetS w0 w1 p tos tl gone (row.set r (c : Int)) ((col.set o (-1)).set c (r : Int))) _ rfl (((H2.out.drew.setRow hr hc).setCol hc hr)) ?_
      intro w3 h3
      have H3 := hid h3
      clear h3
      go_wp2
      go_ret
      exact ⟨by rw [HT.out]; rfl, by rw [HT.out]; exact H3.out⟩
  · rcases HH.out.ok.rowAt hr with hor | ⟨o, hor, ho64⟩
    · have HT : Hid (takeF tl gone row col r c = (true, (row.set r c).set q (-1), col.set c r)) := hid (by unfold takeF forced freed; rw [hoc, hor, if_neg (by omega), if_pos (by omega), Int.toNat_natCast]; rfl)
      have c1 := HH.out.cellRow hr hor
      have c2 := HH.out.cellCol hc hoc
      have HOR := hid hor
      have HOC := hid hoc
      clear hoc hor
      have hq0 : ¬ ((q : Int) < 0) := by omega
      have hq1 : (0 : Int) ≤ (q : Int) := by omega
      have hqi : (q : Int) < 64 := by omega
      go_enter Tryz.func109, Tryz.ntmps109
      go_wp2
      go_quiet (fail)
      go_upto_region 2 with fail
      clear c1 c2
      refine at_world (fun w1 => NetS w0 w1 p tos tl gone row col) _ rfl (HH.out.drewN _) ?_
      intro w1 h1
      have H1 := hid h1
      clear h1
      go_upto_region 4 with fail
      have c3 := H1.out.cellRow (k := r) hr rfl
      have c4 := H1.out.cellCol (k := c) hc rfl
      have f3 := H1.out.free (64 + r)
      have f4 := H1.out.free (128 + c)
      have m1 : 64 + r ≠ 128 + c := by omega
      have m2 : 128 + c ≠ 64 + r := by omega
      go_region
      go_upto_region 5 with fail
      clear c3 c4 f3 f4 m1 m2
      refine at_world (fun w1 => NetS w0 w1 p tos tl gone (row.set r (c : Int)) (col.set c (r : Int))) _ rfl (((H1.out.drew.setRow hr hc).setCol hc hr)) ?_
      intro w2 h2
      have H2 := hid h2
      clear h2
      have c3 := H2.out.cellRow (k := q) hq64 rfl
      have f3 := H2.out.free (64 + q)
      go_wp2
      go_ret
      exact ⟨by rw [HT.out]; rfl, by rw [HT.out]; exact H2.out.outRow hq64⟩
    · have hq0 : ¬ ((q : Int) < 0) := by omega
      have hqi : (q : Int) < 64 := by omega
      obtain ⟨t, ht⟩ : ∃ t, t = takeT tl (gone.set c true) ((row.set r c).set q (-1)) ((col.set o (-1)).set c r) r c q := ⟨_, rfl⟩
      have HT : Hid (takeF tl gone row col r c = if t.1 = true then t else (false, (t.2.1.set r o).set q c, (t.2.2.set o r).set c q)) := hid (by rw [ht]; have e : (if (o : Int) < 0 then col else col.set o (-1)) = col.set o (-1) := if_neg (by omega); unfold takeF forced freed; rw [hoc, hor, if_neg (by omega), if_neg (by omega), Int.toNat_natCast, Int.toNat_natCast]; simp only [e])
      have HTT := hid ht
      clear ht
      have c1 := HH.out.cellRow hr hor
      have c2 := HH.out.cellCol hc hoc
      have HOR := hid hor
      have HOC := hid hoc
      clear hoc hor
      go_enter Tryz.func109, Tryz.ntmps109
      go_wp2
      go_quiet (fail)
      go_upto_region 2 with fail
      clear c1 c2
      refine at_world (fun w1 => NetS w0 w1 p tos tl gone row col) _ rfl (HH.out.drewN _) ?_
      intro w1 h1
      have H1 := hid h1
      clear h1
      have c3 := H1.out.cellCol (k := o) ho64 rfl
      have f3 := H1.out.free (128 + o)
      have ho0 : ¬ ((o : Int) < 0) := by omega
      have hoi : (o : Int) < 64 := by omega
      go_upto_region 4 with fail
      clear c3 f3
      refine at_world (fun w1 => NetS w0 w1 p tos tl gone row (col.set o (-1))) _ rfl (H1.out.outCol ho64) ?_
      intro w2 h2
      have H2 := hid h2
      clear h2
      have c3 := H2.out.cellRow (k := r) hr rfl
      have c4 := H2.out.cellCol (k := c) hc rfl
      have f3 := H2.out.free (64 + r)
      have f4 := H2.out.free (128 + c)
      have m1 : 64 + r ≠ 128 + c := by omega
      have m2 : 128 + c ≠ 64 + r := by omega
      go_region
      go_upto_region 5 with fail
      clear c3 c4 f3 f4 m1 m2
      refine at_world (fun w1 => NetS w0 w1 p tos tl gone (row.set r (c : Int)) ((col.set o (-1)).set c (r : Int))) _ rfl (((H2.out.drew.setRow hr hc).setCol hc hr)) ?_
      intro w3 h3
      have H3 := hid h3
      clear h3
      have c5 := H3.out.cellRow (k := q) hq64 rfl
      have f5 := H3.out.free (64 + q)
      have hq1 : (0 : Int) ≤ (q : Int) := by omega
      have ho0 : ¬ ((o : Int) < 0) := by omega
      go_upto_region 10 with fail
      clear c5 f5
      refine at_world (fun w1 => NetS w0 w1 p tos tl gone ((row.set r (c : Int)).set q (-1)) ((col.set o (-1)).set c (r : Int))) _ rfl (H3.out.outRow hq64) ?_
      intro w4 h4
      have H4 := hid h4
      clear h4
      have c5 := H4.out.cellGone (k := c) hc rfl
      have f5 := H4.out.free (256 + c)
      go_upto_region 11 with fail
      clear c5 f5
      refine at_world (fun w1 => NetS w0 w1 p tos tl (gone.set c true) ((row.set r (c : Int)).set q (-1)) ((col.set o (-1)).set c (r : Int))) _ rfl (H4.out.setGone c true) ?_
      intro w5 h5
      have H5 := hid h5
      clear h5
      obtain ⟨gone1, hg1⟩ : ∃ gone1, gone1 = gone.set c true := ⟨_, rfl⟩
      rw [← hg1] at H5 HTT
      have HG1 := hid hg1
      have HOK1 : Hid (NetOk tl gone1) := hid (by rw [hg1]; exact HOK.out.setGone c true)
      clear hg1
      generalize (row.set r (c : Int)).set q (-1) = row3 at *
      generalize (col.set o (-1)).set c (r : Int) = col3 at *
      have CP := hid (fun row col (hp : PairOk row col) k (hk : k < 64) w hh => place_any p tos tl gone1 HOK1.out row col hp k hk (c : Int) (.inr ⟨c, rfl, hc⟩) w hh)
      obtain ⟨b, s1, hbs⟩ : ∃ b s1, placeF tl gone1 row3 col3 q c = (b, s1) := ⟨_, _, rfl⟩
      have C1 := hid (CP.out row3 col3 H5.out.ok q hq64 _ H5.out.has)
      have hk1 := placeF_ok HOK1.out H5.out.ok hq64 (c : Int)
      rw [hbs] at C1 hk1
      have HK1 := hid hk1
      have HTT2 : Hid (t = if b = true then (true, s1.row, s1.col) else tries tl gone1 c (63 - r) (r + 1) s1.row s1.col) := hid (by rw [HTT.out]; unfold takeT; rw [hbs])
      clear hbs hk1
      go_wp2_with (go_at_call 163; refine C1.out.mono ?_; rintro e w9 ⟨rfl, hh9, hg9⟩; have H9 : Hid (NetS w0 w9 p tos tl gone1 s1.row s1.col) := hid ⟨hh9, grownBy_tr H5.out.grown hg9, HK1.out, H5.out.lenG⟩; clear hh9 hg9)
      go_loopw [9, 10] (fun v i wr => ∃ (n k : Nat) (b : Bool) (row' col' : List Int), k + n = 64 ∧ i = .int .i64 k ∧ v = .bool b ∧ NetS w0 wr p tos tl gone1 row' col' ∧ Hid (t = if b = true then (true, row', col') else tries tl gone1 c n k row' col')) (fun _ i _ => 64 - (intOf i).toNat)
      case atStart => exact ⟨63 - r, r + 1, b, s1.row, s1.col, by omega, by go_num, rfl, H9.out, HTT2⟩
      case round =>
        clear H5 H9 C1 HK1 HTT HTT2
        obtain ⟨n, k, b, row', col', hkn, rfl, rfl, hns, HTB⟩ := hrel
        have HN := hid hns
        clear hns
        have HGG : Hid (gone1.set c false = gone) := hid (by
          rw [HG1.out, List.set_set]
          apply List.ext_getElem?
          intro i
          rw [List.getElem?_set]
          by_cases e : c = i
          · subst e
            have hl := HH.out.lenG
            have h0 := HG.out
            unfold getB at h0
            rw [if_pos rfl, if_pos (by omega), List.getElem?_eq_getElem (by omega)]
            rw [List.getElem?_eq_getElem (by omega)] at h0
            simp at h0
            rw [h0]
          · rw [if_neg e])
        have c6 := HN.out.cellGone (k := c) hc rfl
        have f6 := HN.out.free (256 + c)
        cases b with
        | true =>
          have HTE : Hid (t = (true, row', col')) := hid (by rw [HTB.out, if_pos rfl])
          have HN2 := hid (HN.out.setGone c false)
          rw [HGG.out] at HN2
          go_wp2
          go_ret
          exact ⟨by rw [HT.out, HTE.out]; rfl, by rw [HT.out, HTE.out]; exact HN2.out⟩
        | false =>
          by_cases hk : k < 64
          · obtain ⟨n, rfl⟩ : ∃ n', n = n' + 1 := ⟨n - 1, by omega⟩
            have hki : (k : Int) < 64 := by omega
            have c7 := HN.out.cellRow (k := k) hk rfl
            by_cases hneg : getI row' k < 0
            · obtain ⟨b2, s2, hbs⟩ : ∃ b2 s2, placeF tl gone1 row' col' k c = (b2, s2) := ⟨_, _, rfl⟩
              have C1 := hid (CP.out row' col' HN.out.ok k hk wr HN.out.has)
              have hk1 := placeF_ok HOK1.out HN.out.ok hk (c : Int)
              rw [hbs] at C1 hk1
              have HK1 := hid hk1
              have HT3 : Hid (t = if b2 = true then (true, s2.row, s2.col) else tries tl gone1 c n (k + 1) s2.row s2.col) := hid (by rw [HTB.out, if_neg (by simp), tries, if_pos hneg, hbs])
              clear hbs hk1
              go_wp2_with (go_at_call 163; refine C1.out.mono ?_; rintro e w9 ⟨rfl, hh9, hg9⟩; have H9 : Hid (NetS w0 w9 p tos tl gone1 s2.row s2.col) := hid ⟨hh9, grownBy_tr HN.out.grown hg9, HK1.out, HN.out.lenG⟩; clear hh9 hg9)
              go_roundw
              case rel => exact ⟨n, k + 1, b2, s2.row, s2.col, by omega, by go_num, rfl, H9.out, HT3⟩
              case measure => simp [intOf]; omega
            · have HT3 : Hid (t = if false = true then (true, row', col') else tries tl gone1 c n (k + 1) row' col') := hid (by rw [HTB.out, if_neg (by simp), tries, if_neg hneg, if_neg (by simp)])
              go_wp2
              go_roundw
              case rel => exact ⟨n, k + 1, false, row', col', by omega, by go_num, rfl, HN.out, HT3⟩
              case measure => simp [intOf]; omega
          · obtain rfl : k = 64 := by omega
            obtain rfl : n = 0 := by omega
            have HTE : Hid (t = (false, row', col')) := hid (by rw [HTB.out, if_neg (by simp)]; rfl)
            have HN2 := hid (HN.out.setGone c false)
            rw [HGG.out] at HN2
            have HT2 : Hid (takeF tl gone row col r c = (false, (row'.set r o).set q c, (col'.set o r).set c q)) := hid (by rw [HT.out, HTE.out, if_neg (by simp)])
            have hoi : (o : Int) < 64 := by omega
            go_upto_region 17 with fail
            generalize wr.setCell ⟨p, 256 + c, none⟩ (.bool false) = wa at *
            clear c6 f6
            go_upto_region 18 with fail
            have c3 := HN2.out.cellRow (k := r) hr rfl
            have c4 := HN2.out.cellCol (k := o) ho64 rfl
            have f3 := HN2.out.free (64 + r)
            have f4 := HN2.out.free (128 + o)
            have m1 : 64 + r ≠ 128 + o := by omega
            have m2 : 128 + o ≠ 64 + r := by omega
            go_region
            go_upto_region 19 with fail
            clear c3 c4 f3 f4 m1 m2
            refine at_world (fun w1 => NetS w0 w1 p tos tl gone (row'.set r (o : Int)) (col'.set o (r : Int))) _ rfl (((HN2.out.drew.setRow hr ho64).setCol ho64 hr)) ?_
            intro w6 h6
            have H6 := hid h6
            clear h6
            have c3 := H6.out.cellRow (k := q) hq64 rfl
            have c4 := H6.out.cellCol (k := c) hc rfl
            have f3 := H6.out.free (64 + q)
            have f4 := H6.out.free (128 + c)
            have m1 : 64 + q ≠ 128 + c := by omega
            have m2 : 128 + c ≠ 64 + q := by omega
            go_region
            go_upto_region 20 with fail
            clear c3 c4 f3 f4 m1 m2
            refine at_world (fun w1 => NetS w0 w1 p tos tl gone ((row'.set r (o : Int)).set q (c : Int)) ((col'.set o (r : Int)).set c (q : Int))) _ rfl (((H6.out.drew.setRow hq64 hc).setCol hc hq64)) ?_
            intro w7 h7
            have H7 := hid h7
            clear h7
            go_wp2
            go_ret
            exact ⟨by rw [HT2.out]; rfl, by rw [HT2.out]; exact H7.out⟩
end Go.Proofs.YtjhomkdnhdhffaaGreat
