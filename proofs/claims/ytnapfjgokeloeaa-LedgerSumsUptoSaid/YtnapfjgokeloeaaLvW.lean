/- The laws' examples, walked. -/
import Derived.Test.YtnapfjgokeloeaaLvPl
import Derived.Test.YtnapfjgokeloeaaSlBn
namespace Go.Proofs.Ytnapfjgokeloeaa
open Go.RowKit

/-- A ledger, and a list beside it. -/
def LvS (w0 w : World) (p : Nat) (T : List (Id8 × Ac)) (E : List En) (A : Option Addr) (l : List En) : Prop := Led w0 w p T E ∧ RowsAt 17 enE w A l ∧ NotOwn w p A
theorem LvS.kept {w0 w w' : World} {p : Nat} {T : List (Id8 × Ac)} {E : List En} {A : Option Addr} {l : List En} (h : LvS w0 w p T E A l) (hb : Below w.heap.size w w') : LvS w0 w' p T E A l :=
  ⟨h.1.kept hb, h.2.1.kept hb, h.2.2.kept h.1 hb⟩
section
variable {w0 w : World} {p : Nat}
theorem lv_pay1 (h : Led w0 w p [] []) : Calls Try.prog 21 #[.pointer (some ⟨p, 0, none⟩), .agg (bys i1.1), .agg (bys i2.1), .int .i64 50] w fun e w' => e = .returned (.int .i64 230) ∧ Led w0 w' p [] [] :=
  (led_pay h i1 i2 50 (by omega) OkT.nil (by simp)).mono fun e w' ⟨h1, h2, h3⟩ => by rw [lv_1.1] at h1; rw [lv_1.2.1, lv_1.2.2] at h2; exact ⟨h1, h2⟩
theorem lv_cred (h : Led w0 w p [] []) : Calls Try.prog 24 #[.pointer (some ⟨p, 0, none⟩), .agg (bys i1.1), .int .i64 100] w fun e w' => e = .returned (.int .i64 0) ∧ Led w0 w' p tA [] :=
  (led_credit h i1 100 (by omega) OkT.nil).mono fun e w' ⟨h1, h2, h3⟩ => by rw [lv_2.1] at h1; rw [lv_2.2] at h2; exact ⟨h1, h2⟩
theorem lv_pay2 (h : Led w0 w p tA []) : Calls Try.prog 21 #[.pointer (some ⟨p, 0, none⟩), .agg (bys i1.1), .agg (bys i2.1), .int .i64 50] w fun e w' => e = .returned (.int .i64 0) ∧ Led w0 w' p tB eB :=
  (led_pay h i1 i2 50 (by omega) ok_C.1 (by simp)).mono fun e w' ⟨h1, h2, h3⟩ => by rw [lv_3.1] at h1; rw [lv_3.2.1, lv_3.2.2] at h2; exact ⟨h1, h2⟩
theorem lv_pay3 (h : Led w0 w p tB eB) : Calls Try.prog 21 #[.pointer (some ⟨p, 0, none⟩), .agg (bys i2.1), .agg (bys i3.1), .int .i64 20] w fun e w' => e = .returned (.int .i64 0) ∧ Led w0 w' p tC eC :=
  (led_pay h i2 i3 20 (by omega) ok_C.2.1 (by simp [eB])).mono fun e w' ⟨h1, h2, h3⟩ => by rw [lv_4.1] at h1; rw [lv_4.2.1, lv_4.2.2] at h2; exact ⟨h1, h2⟩
theorem lv_settle (h : Led w0 w p tC eC) : Calls Try.prog 17 #[.pointer (some ⟨p, 0, none⟩)] w fun e w' => ∃ A c, e = .returned (.slice A 2 c) ∧ LvS w0 w' p tC eC A lS :=
  (led_settle h ok_C.2.2 (by simp [tC])).mono fun e w' ⟨A, c, h1, h2, h3, h4⟩ => by rw [lv_5] at h1 h2; exact ⟨A, c, h1, h.kept h4, h2, notOwn_new h h3 h4⟩
theorem lv_all {A : Option Addr} {g : Nat} (h : LvS w0 w p tC eC A lS) (hr : FlAt w g 35 enE lAl) (hn : NotOwn w p (some ⟨g, 0, none⟩)) :
    Calls Try.prog 18 #[.pointer (some ⟨p, 0, none⟩), .slice (some ⟨g, 0, none⟩) 3 3] w fun e w' => e = .returned (.tuple #[.int .i64 1, .int .i64 230]) ∧ Led w0 w' p tC eC ∧ RowsAt 17 enE w' A lS :=
  (led_all h.1 lAl (by decide) (some ⟨g, 0, none⟩) 3 (FlAt.rows enE_size hr ⟨[], by simp⟩) hn ok_C.2.2 (by simp [eC, lAl])).mono fun e w' ⟨h1, h2, h3⟩ => by
      rw [lv_6.1] at h1; rw [lv_6.2.1, lv_6.2.2] at h2; exact ⟨h1, h2, h.2.1.own h3 h.2.2⟩
theorem lv_bal1 (h : Led w0 w p tC eC) : Calls Try.prog 13 #[.pointer (some ⟨p, 0, none⟩), .agg (bys i1.1)] w fun e w' => e = .returned (.int .i64 (-50)) ∧ Below w.heap.size w w' :=
  (led_balance h i1).mono fun e w' ⟨h1, h2⟩ => by rw [lv_7.1] at h1; exact ⟨h1, h2⟩
theorem lv_bal2 (h : Led w0 w p tC eC) : Calls Try.prog 13 #[.pointer (some ⟨p, 0, none⟩), .agg (bys i2.1)] w fun e w' => e = .returned (.int .i64 30) ∧ Below w.heap.size w w' :=
  (led_balance h i2).mono fun e w' ⟨h1, h2⟩ => by rw [lv_7.2.1] at h1; exact ⟨h1, h2⟩
theorem lv_ents (h : Led w0 w p tC eC) : Calls Try.prog 12 #[.pointer (some ⟨p, 0, none⟩)] w fun e w' => ∃ A c, e = .returned (.slice A 2 c) ∧ Below w.heap.size w w' :=
  (led_entries h (by simp [eC])).mono fun e w' ⟨A, c, h1, h2, h3, h4⟩ => ⟨A, c, h1, h4⟩
theorem lv_same {A : Option Addr} {c g : Nat} (ha : RowsAt 17 enE w A lS) (hb : FlAt w g 35 enE lS) :
    Calls Try.prog 22 #[.slice A 2 c, .slice (some ⟨g, 0, none⟩) 2 2] w fun e w' => e = .returned (.bool true) ∧ Below w.heap.size w w' :=
  (sameEntries_any lS lS A (some ⟨g, 0, none⟩) c 2 (by simp [lS]) (by simp [lS]) w ha (FlAt.rows enE_size hb ⟨[], by simp⟩)).mono fun e w' ⟨h1, h2⟩ => ⟨by simpa using h1, h2⟩
theorem lv_id1 (w : World) : Calls Try.prog 26 #[.int .u8 1] w fun e w' => e = .returned (.agg (bys i1.1)) ∧ Below w.heap.size w w' := id_any i1 1 rfl w
theorem lv_id2 (w : World) : Calls Try.prog 26 #[.int .u8 2] w fun e w' => e = .returned (.agg (bys i2.1)) ∧ Below w.heap.size w w' := id_any i2 2 rfl w
theorem lv_id3 (w : World) : Calls Try.prog 26 #[.int .u8 3] w fun e w' => e = .returned (.agg (bys i3.1)) ∧ Below w.heap.size w w' := id_any i3 3 rfl w
theorem lv_e1 (w : World) : Calls Try.prog 28 #[.int .u8 3, .int .u8 2, .int .i64 5] w fun e w' => e = .returned (.agg (enE ⟨i3, i2, 5⟩)) ∧ Below w.heap.size w w' := entry_any i3 i2 3 2 5 rfl rfl w
theorem lv_e2 (w : World) : Calls Try.prog 28 #[.int .u8 3, .int .u8 4, .int .i64 16] w fun e w' => e = .returned (.agg (enE ⟨i3, i4, 16⟩)) ∧ Below w.heap.size w w' := entry_any i3 i4 3 4 16 rfl rfl w
theorem lv_e3 (w : World) : Calls Try.prog 28 #[.int .u8 4, .int .u8 2, .int .i64 1] w fun e w' => e = .returned (.agg (enE ⟨i4, i2, 1⟩)) ∧ Below w.heap.size w w' := entry_any i4 i2 4 2 1 rfl rfl w
theorem lv_e4 (w : World) : Calls Try.prog 28 #[.int .u8 2, .int .u8 1, .int .i64 30] w fun e w' => e = .returned (.agg (enE ⟨i2, i1, 30⟩)) ∧ Below w.heap.size w w' := entry_any i2 i1 2 1 30 rfl rfl w
theorem lv_e5 (w : World) : Calls Try.prog 28 #[.int .u8 3, .int .u8 1, .int .i64 20] w fun e w' => e = .returned (.agg (enE ⟨i3, i1, 20⟩)) ∧ Below w.heap.size w w' := entry_any i3 i1 3 1 20 rfl rfl w
end
set_option maxRecDepth 100000 in
set_option maxHeartbeats 4000000 in
theorem lives_any (w : World) : Calls Try.prog 10 #[] w fun e w' => e = .returned (.bool true) ∧ Below w.heap.size w w' := by
  obtain ⟨x1, hx1⟩ : ∃ x, x = (⟨i3, i2, 5⟩ : En) := ⟨_, rfl⟩
  obtain ⟨x2, hx2⟩ : ∃ x, x = (⟨i3, i4, 16⟩ : En) := ⟨_, rfl⟩
  obtain ⟨x3, hx3⟩ : ∃ x, x = (⟨i4, i2, 1⟩ : En) := ⟨_, rfl⟩
  obtain ⟨x4, hx4⟩ : ∃ x, x = (⟨i2, i1, 30⟩ : En) := ⟨_, rfl⟩
  obtain ⟨x5, hx5⟩ : ∃ x, x = (⟨i3, i1, 20⟩ : En) := ⟨_, rfl⟩
  have KE1 := hid (fun (w : World) => (show Calls Try.prog 28 #[.int .u8 3, .int .u8 2, .int .i64 5] w fun e w' => e = .returned (.agg (enE x1)) ∧ Below w.heap.size w w' by rw [hx1]; exact lv_e1 w))
  have KE2 := hid (fun (w : World) => (show Calls Try.prog 28 #[.int .u8 3, .int .u8 4, .int .i64 16] w fun e w' => e = .returned (.agg (enE x2)) ∧ Below w.heap.size w w' by rw [hx2]; exact lv_e2 w))
  have KE3 := hid (fun (w : World) => (show Calls Try.prog 28 #[.int .u8 4, .int .u8 2, .int .i64 1] w fun e w' => e = .returned (.agg (enE x3)) ∧ Below w.heap.size w w' by rw [hx3]; exact lv_e3 w))
  have KE4 := hid (fun (w : World) => (show Calls Try.prog 28 #[.int .u8 2, .int .u8 1, .int .i64 30] w fun e w' => e = .returned (.agg (enE x4)) ∧ Below w.heap.size w w' by rw [hx4]; exact lv_e4 w))
  have KE5 := hid (fun (w : World) => (show Calls Try.prog 28 #[.int .u8 3, .int .u8 1, .int .i64 20] w fun e w' => e = .returned (.agg (enE x5)) ∧ Below w.heap.size w w' by rw [hx5]; exact lv_e5 w))
  have hAl : lAl = [x1, x2, x3] := by rw [hx1, hx2, hx3]; rfl
  have hSl : lS = [x4, x5] := by rw [hx4, hx5]; rfl
  clear hx1 hx2 hx3 hx4 hx5
  have HAl := hid hAl
  have HSl := hid hSl
  clear hAl hSl
  go_enter Try.func10, Try.ntmps10
  go_wp2_with (first
    | (with_reducible refine stopB ?_)
    | (go_at_call 23; (with_reducible refine (led_new w).mono ?_); rintro e w2 ⟨rfl, h2⟩; generalize w.heap.size + 1 = p at *; have HS := hid h2; clear h2)
    | (go_at_call 26; (first | (with_reducible refine (lv_id1 _).mono ?_) | (with_reducible refine (lv_id2 _).mono ?_) | (with_reducible refine (lv_id3 _).mono ?_)); rintro e w2 ⟨rfl, h2⟩; replace HS := hid (HS.out.kept h2); (try replace HX := hid (HX.out.kept h2)); clear h2)
    | (go_at_call 28; (first | (with_reducible refine (KE1.out _).mono ?_) | (with_reducible refine (KE2.out _).mono ?_) | (with_reducible refine (KE3.out _).mono ?_) | (with_reducible refine (KE4.out _).mono ?_) | (with_reducible refine (KE5.out _).mono ?_)); rintro e w2 ⟨rfl, h2⟩; replace HS := hid (HS.out.kept h2); (try replace HF2 := HF2); (try replace HX := hid (HX.out.kept h2)); clear h2)
    | (go_at_call 21; (first | (with_reducible refine (lv_pay1 HS.out).mono ?_) | (with_reducible refine (lv_pay2 HS.out).mono ?_) | (with_reducible refine (lv_pay3 HS.out).mono ?_)); rintro e w2 ⟨rfl, h2⟩; replace HS := hid h2; clear h2)
    | (go_at_call 24; (with_reducible refine (lv_cred HS.out).mono ?_); rintro e w2 ⟨rfl, h2⟩; replace HS := hid h2; clear h2)
    | (go_at_call 17; (with_reducible refine (lv_settle HS.out).mono ?_); rintro e w2 ⟨A, c, rfl, h2⟩; replace HS := hid h2; clear h2))
  refine hid ?_
  refine wpList_buildFl (f := enE) (s := 17) (e := 35) (z := enZ) (by' := 24) [x1, x2, x3] rfl rfl (by simp only [List.map_toArray, List.map_cons, List.map_nil]; rfl) enE_size (by omega) (by simp) (by simp) Try.underlying25 enE_tableZ ?_
  intro w2 g hg hf hb
  have HN := hid (notOwn_new (A := some ⟨g, 0, none⟩) HS.out.1 (by rintro _ _ ⟨⟩; exact hg) hb)
  replace HS := hid (HS.out.kept hb)
  have HF := hid (show FlAt w2 g 35 enE lAl by rw [HAl.out]; exact hf)
  clear hg hf hb
  go_wp2_with (first
    | (with_reducible refine stopB ?_)
    | (go_at_call 26; (first | (with_reducible refine (lv_id1 _).mono ?_) | (with_reducible refine (lv_id2 _).mono ?_) | (with_reducible refine (lv_id3 _).mono ?_)); rintro e w2 ⟨rfl, h2⟩; replace HS := hid (HS.out.kept h2); (try replace HX := hid (HX.out.kept h2)); clear h2)
    | (go_at_call 28; (first | (with_reducible refine (KE1.out _).mono ?_) | (with_reducible refine (KE2.out _).mono ?_) | (with_reducible refine (KE3.out _).mono ?_) | (with_reducible refine (KE4.out _).mono ?_) | (with_reducible refine (KE5.out _).mono ?_)); rintro e w2 ⟨rfl, h2⟩; replace HS := hid (HS.out.kept h2); (try replace HF2 := HF2); (try replace HX := hid (HX.out.kept h2)); clear h2)
    | (go_at_call 18; (with_reducible refine (lv_all HS.out HF.out HN.out).mono ?_); rintro e w2 ⟨rfl, h2, h3⟩; replace HS := hid h2; have HX := hid h3; clear h2 h3)
    | (go_at_call 13; (first | (with_reducible refine (lv_bal1 HS.out).mono ?_) | (with_reducible refine (lv_bal2 HS.out).mono ?_)); rintro e w2 ⟨rfl, h2⟩; replace HS := hid (HS.out.kept h2); replace HX := hid (HX.out.kept h2); clear h2)
    | (go_at_call 12; (with_reducible refine (lv_ents HS.out).mono ?_); rintro e w2 ⟨A2, c2, rfl, h2⟩; replace HS := hid (HS.out.kept h2); replace HX := hid (HX.out.kept h2); clear h2))
  refine hid ?_
  refine wpList_buildFl (f := enE) (s := 17) (e := 35) (z := enZ) (by' := 24) [x4, x5] rfl rfl (by simp only [List.map_toArray, List.map_cons, List.map_nil]; rfl) enE_size (by omega) (by simp) (by simp) Try.underlying25 enE_tableZ ?_
  intro w3 g2 hg hf hb
  replace HS := hid (HS.out.kept hb)
  replace HX := hid (HX.out.kept hb)
  have HF2 := hid (show FlAt w3 g2 35 enE lS by rw [HSl.out]; exact hf)
  clear hg hf hb
  go_wp2_with (first
    | (go_at_call 22; (with_reducible refine (lv_same HX.out HF2.out).mono ?_); rintro e w2 ⟨rfl, h2⟩; replace HS := hid (HS.out.kept h2); clear h2))
  go_ret
  exact ⟨rfl, HS.out.below⟩
end Go.Proofs.Ytnapfjgokeloeaa
