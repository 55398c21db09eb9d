/- The walk of (*net).place. -/
import Derived.Test.YtjhomkdnhdhffaaGreatTryW
import Derived.Deep.Cut
namespace Go.Proofs.YtjhomkdnhdhffaaGreat
open Go.RowKit

/-- The net in memory. -/
structure NetHas (w : World) (p : Nat) (tos : List Value) (tl : List (List Nat)) (gone : List Bool) (row col : List Int) : Prop where
  net : NetAt w p tos row col gone
  tos : ToAt w tos tl
theorem ToAt.kept {w w' : World} {tos : List Value} {tl : List (List Nat)} (h : ToAt w tos tl) {p : Nat} {cp : Array Value} {T1 : TypeId} {f1 : Nat × Nat} (hp : w.heap[p]? = some (.cells cp T1 f1)) (n1 : T1 ≠ 3) (hk : ∀ k, k < w.heap.size → k ≠ p → w'.heap[k]? = w.heap[k]?) : ToAt w' tos tl := by
  refine ⟨h.len, fun r l hl => ?_⟩
  obtain ⟨a, cap, h1, h2⟩ := h.each r l hl
  refine ⟨a, cap, h1, ?_⟩
  rcases h2 with h2 | ⟨g, cs, fr, h2, h3, h4⟩
  · exact .inl h2
  · exact .inr ⟨g, cs, fr, h2, by rw [hk g (heap_lt h3) (block_ne h3 hp (Ne.symm n1))]; exact h3, h4⟩
def PlacePost (w : World) (p : Nat) (tos : List Value) (tl : List (List Nat)) (gone : List Bool) (r : Bool × St) (e : Ending) (w' : World) : Prop :=
  e = .returned (.bool r.1) ∧ NetHas w' p tos tl gone r.2.row r.2.col ∧ w.grownBy w' (some p)
theorem marks_zero : boolV noMarks = (List.replicate 64 (Value.bool false)) := by kernel_rfl

/-- The world under a name of its own, with what is known of it. -/
theorem at_world {P : Program} {c : Code} {Q : Exit → Act → World → Prop} {a : Act} {w : World} (F : World → Prop) (w0 : World) (hw : w0 = w) (hF : F w0) (h : ∀ w1, F w1 → c.wp P Q a w1) : c.wp P Q a w := h w (hw ▸ hF)
/-- Ahead of the search: the marks, the variable that holds the net. -/
structure Pre (w w1 : World) (p nb m : Nat) (tos : List Value) (tl : List (List Nat)) (gone : List Bool) (row col : List Int) (met : List Bool) : Prop where
  net : NetHas w1 p tos tl gone row col
  marks : MarksAt w1 m met
  nbox : w1.heap[nb]? = some (.cells #[.pointer (some ⟨p, 0, none⟩)] 90 (0, 0))
  old : Below w.heap.size w w1
  nb : w.heap.size ≤ nb
  m : w.heap.size ≤ m
theorem NetHas.kept {w w' : World} {p : Nat} {tos : List Value} {tl : List (List Nat)} {gone : List Bool} {row col : List Int} (h : NetHas w p tos tl gone row col) (hb : Below w.heap.size w w') : NetHas w' p tos tl gone row col :=
  ⟨below_keep hb h.net, h.tos.kept h.net (by decide) fun k hk _ => hb.block k hk⟩
theorem Pre.start {w : World} {p : Nat} {tos : List Value} {tl : List (List Nat)} {gone : List Bool} {row col : List Int} (h : NetHas w p tos tl gone row col) :
    Pre w ((w.alloc (.cells #[.pointer (some ⟨p, 0, none⟩)] 90)).alloc (.cells (boolV noMarks).toArray 94)) p w.heap.size (w.heap.size + 1) tos tl gone row col noMarks :=
  ⟨h.kept (((Below.refl _ _).alloc (Nat.le_refl _) _).alloc (by simp) _), heap_2 _ _ _, alloc_keep (heap_alloc_new _ _) _, ((Below.refl _ _).alloc (Nat.le_refl _) _).alloc (by simp) _, Nat.le_refl _, by omega⟩
theorem Pre.pm {w w1 : World} {p nb m : Nat} {tos : List Value} {tl : List (List Nat)} {gone : List Bool} {row col : List Int} {met : List Bool} (h : Pre w w1 p nb m tos tl gone row col met) : p ≠ m ∧ nb ≠ m :=
  ⟨block_ne h.net.net h.marks (by decide), block_ne h.nbox h.marks (by decide)⟩
theorem Pre.mark {w w1 : World} {p nb m : Nat} {tos : List Value} {tl : List (List Nat)} {gone : List Bool} {row col : List Int} {met : List Bool} (h : Pre w w1 p nb m tos tl gone row col met) (b : Nat) :
    Pre w (w1.setCell ⟨m, b, none⟩ (.bool true)) p nb m tos tl gone row col (met.set b true) :=
  ⟨⟨h.net.net.other h.pm.1 _ _, h.net.tos.kept h.marks (by decide) fun k _ hk => heap_setCell_ne hk⟩, h.marks.set _ _, by rw [heap_setCell_ne h.pm.2]; exact h.nbox, h.old.setCell h.m _, h.nb, h.m⟩
theorem Pre.has {w w1 : World} {p nb m : Nat} {tos : List Value} {tl : List (List Nat)} {gone : List Bool} {row col : List Int} {met : List Bool} (h : Pre w w1 p nb m tos tl gone row col met) (o : Value)
    (ho : o = .func (.func 164) #[] #[.pointer (some ⟨nb, 0, none⟩), .pointer (some ⟨m, 0, none⟩), .pointer (some ⟨w1.heap.size, 0, none⟩)]) :
    Has (w1.alloc (.cells #[o] 272)) p m nb w1.heap.size tos tl gone ⟨met, row, col⟩ := by
  subst ho
  have hb : Below w1.heap.size w1 (w1.alloc (.cells #[.func (.func 164) #[] #[.pointer (some ⟨nb, 0, none⟩), .pointer (some ⟨m, 0, none⟩), .pointer (some ⟨w1.heap.size, 0, none⟩)]] 272)) := (Below.refl _ _).alloc (Nat.le_refl _) _
  exact ⟨(h.net.kept hb).net, (h.net.kept hb).tos, alloc_keep h.marks _, alloc_keep h.nbox _, heap_alloc_new _ _⟩
theorem Pre.post {w w1 w2 : World} {p nb m : Nat} {tos : List Value} {tl : List (List Nat)} {gone : List Bool} {row col : List Int} {met : List Bool} (h : Pre w w1 p nb m tos tl gone row col met) (o : Obj) (ho : Only (w1.alloc o) w2 p m) : w.grownBy w2 (some p) := by
  have h1 : Below w.heap.size w (w1.alloc o) := h.old.alloc h.old.size o
  refine ⟨ho.os.trans h1.os, ho.tape.trans h1.tape, ho.output.trans h1.output, Nat.le_trans h1.size ho.size, fun k hk hkp => ?_⟩
  rw [ho.block k (Nat.lt_of_lt_of_le hk h1.size) (fun e => hkp (by rw [e])) (by have := h.m; omega), h1.block k hk]

set_option maxRecDepth 100000 in
set_option maxHeartbeats 4000000 in
theorem place_any (p : Nat) (tos : List Value) (tl : List (List Nat)) (gone : List Bool) (hok : NetOk tl gone) (row col : List Int) (hp : PairOk row col) (r : Nat) (hr : r < 64) (but : Int) (hb : but = -1 ∨ ∃ b : Nat, but = b ∧ b < 64) (w : World) (hh : NetHas w p tos tl gone row col) :
    Calls Tryz.prog 163 #[.pointer (some ⟨p, 0, none⟩), .int .i64 r, .int .i64 but] w (PlacePost w p tos tl gone (placeF tl gone row col r but)) := by
  have C := hid (fun m nb tb w h => try_any p m nb tb tos tl gone hok 65 ⟨met0 but, row, col⟩ r w hr (hp.st but) (by have := unmet_le (met0 but); rw [met0_len] at this; simp only; omega) h)
  have HPRE := hid (Pre.start hh)
  clear hp hok hh
  have hst := fun (W : World) (a : Addr) f b c => run_store Tryz.prog W a (Value.func f b c) .plain rfl
  rcases hb with rfl | ⟨b, rfl, hb64⟩
  · go_enter Tryz.func163, Tryz.ntmps163
    go_upto_region 2 with fail
    refine at_world (fun w1 => Pre w w1 p w.heap.size (w.heap.size + 1) tos tl gone row col noMarks) _ ?_ HPRE.out ?_
    · rfl
    intro w1 hpre
    have HP := hid hpre
    clear hpre
    have e0 : noMarks = met0 (-1) := rfl
    have HHAS := hid (HP.out.has _ rfl)
    rw [e0] at HHAS
    go_wp2_with (go_at_call 164; refine (C.out _ _ _ _ HHAS.out).mono ?_; rintro e w5 ⟨rfl, hh5, ho5⟩; have HX5 := hid hh5; have HXO5 := hid ho5; clear hh5 ho5)
    go_ret
    exact ⟨rfl, ⟨HX5.out.net, HX5.out.tos⟩, HP.out.post _ HXO5.out⟩
  · go_enter Tryz.func163, Tryz.ntmps163
    go_upto_region 2 with fail
    refine at_world (fun w1 => Pre w w1 p w.heap.size (w.heap.size + 1) tos tl gone row col noMarks) _ ?_ HPRE.out ?_
    · rfl
    intro w1 hpre
    have e0 : noMarks.set b true = met0 (b : Int) := by unfold met0; rw [if_pos (by omega), Int.toNat_natCast]
    have HP := hid (hpre.mark b)
    have hbi : (b : Int) < 64 := by omega
    have hb0 : (0 : Int) ≤ (b : Int) := by omega
    have cb := hpre.marks.cell (k := b) (by simpa [noMarks] using hb64)
    have fb := free_row hpre.marks b
    clear hpre
    rw [e0] at HP
    clear e0
    have HHAS := hid (HP.out.has _ rfl)
    go_upto_region 4 with fail
    generalize w1.setCell ⟨w.heap.size + 1, b, none⟩ (.bool true) = w2 at *
    clear cb fb
    go_wp2_with (go_at_call 164; refine (C.out _ _ _ _ HHAS.out).mono ?_; rintro e w5 ⟨rfl, hh5, ho5⟩; have HX5 := hid hh5; have HXO5 := hid ho5; clear hh5 ho5)
    go_ret
    exact ⟨rfl, ⟨HX5.out.net, HX5.out.tos⟩, HP.out.post _ HXO5.out⟩
end Go.Proofs.YtjhomkdnhdhffaaGreat
