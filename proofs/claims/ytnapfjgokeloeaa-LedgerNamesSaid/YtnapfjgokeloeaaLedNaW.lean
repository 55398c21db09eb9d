/- The closed statement, walked. -/
import Derived.Test.YtnapfjgokeloeaaLvW
namespace Go.Proofs.Ytnapfjgokeloeaa
open Go.RowKit

def tN1 : List (Id8 × Ac) := [(i1, ⟨0, 4611686018427387903⟩)]
def tN2 : List (Id8 × Ac) := [(i2, ⟨4611686018427387903, 0⟩), (i1, ⟨-4611686018427387903, 4611686018427387903⟩)]
def tN3 : List (Id8 × Ac) := [(i3, ⟨0, 5⟩), (i2, ⟨4611686018427387903, 0⟩), (i1, ⟨-4611686018427387903, 4611686018427387903⟩)]
def eN : List En := [⟨i1, i2, 4611686018427387903⟩]
theorem nm_1 : credE [] i1 4611686018427387903 = 0 ∧ credT [] i1 4611686018427387903 = tN1 := by decide
theorem ok_tN1 : OkT tN1 := by rw [← nm_1.2]; exact credT_ok OkT.nil _ _
theorem nmc_1 {w0 w : World} {p : Nat} (h : Led w0 w p [] []) : Calls Try.prog 24 #[.pointer (some ⟨p, 0, none⟩), .agg (bys i1.1), .int .i64 4611686018427387903] w fun e w' => e = .returned (.int .i64 0) ∧ Led w0 w' p tN1 [] :=
  (led_credit h i1 4611686018427387903 (by omega) OkT.nil).mono fun e w' ⟨h1, h2, h3⟩ => by rw [nm_1.1] at h1; rw [nm_1.2] at h2; exact ⟨h1, h2⟩
theorem nm_2 : credE tN1 i1 4611686018427387904 = 1 ∧ credT tN1 i1 4611686018427387904 = tN1 := by decide
theorem nmc_2 {w0 w : World} {p : Nat} (h : Led w0 w p tN1 []) : Calls Try.prog 24 #[.pointer (some ⟨p, 0, none⟩), .agg (bys i1.1), .int .i64 4611686018427387904] w fun e w' => e = .returned (.int .i64 1) ∧ Led w0 w' p tN1 [] :=
  (led_credit h i1 4611686018427387904 (by omega) ok_tN1).mono fun e w' ⟨h1, h2, h3⟩ => by rw [nm_2.1] at h1; rw [nm_2.2] at h2; exact ⟨h1, h2⟩
theorem nm_3 : payE tN1 i1 i2 4611686018427387903 = 0 ∧ payT tN1 i1 i2 4611686018427387903 = tN2 ∧ payN tN1 [] i1 i2 4611686018427387903 = eN := by decide
theorem ok_tN2 : OkT tN2 := by rw [← nm_3.2.1]; exact payT_ok ok_tN1 _ _ _
theorem nmc_3 {w0 w : World} {p : Nat} (h : Led w0 w p tN1 []) : Calls Try.prog 21 #[.pointer (some ⟨p, 0, none⟩), .agg (bys i1.1), .agg (bys i2.1), .int .i64 4611686018427387903] w fun e w' => e = .returned (.int .i64 0) ∧ Led w0 w' p tN2 eN :=
  (led_pay h i1 i2 4611686018427387903 (by omega) ok_tN1 (by first | simp | simp [eN])).mono fun e w' ⟨h1, h2, h3⟩ => by rw [nm_3.1] at h1; rw [nm_3.2.1, nm_3.2.2] at h2; exact ⟨h1, h2⟩
theorem nm_4 : payE tN2 i1 i2 1 = 230 ∧ payT tN2 i1 i2 1 = tN2 ∧ payN tN2 eN i1 i2 1 = eN := by decide
theorem nmc_4 {w0 w : World} {p : Nat} (h : Led w0 w p tN2 eN) : Calls Try.prog 21 #[.pointer (some ⟨p, 0, none⟩), .agg (bys i1.1), .agg (bys i2.1), .int .i64 1] w fun e w' => e = .returned (.int .i64 230) ∧ Led w0 w' p tN2 eN :=
  (led_pay h i1 i2 1 (by omega) ok_tN2 (by first | simp | simp [eN])).mono fun e w' ⟨h1, h2, h3⟩ => by rw [nm_4.1] at h1; rw [nm_4.2.1, nm_4.2.2] at h2; exact ⟨h1, h2⟩
theorem nm_5 : credE tN2 i3 5 = 0 ∧ credT tN2 i3 5 = tN3 := by decide
theorem ok_tN3 : OkT tN3 := by rw [← nm_5.2]; exact credT_ok ok_tN2 _ _
theorem nmc_5 {w0 w : World} {p : Nat} (h : Led w0 w p tN2 eN) : Calls Try.prog 24 #[.pointer (some ⟨p, 0, none⟩), .agg (bys i3.1), .int .i64 5] w fun e w' => e = .returned (.int .i64 0) ∧ Led w0 w' p tN3 eN :=
  (led_credit h i3 5 (by omega) ok_tN2).mono fun e w' ⟨h1, h2, h3⟩ => by rw [nm_5.1] at h1; rw [nm_5.2] at h2; exact ⟨h1, h2⟩
theorem nm_6 : payE tN3 i3 i2 1 = 3 ∧ payT tN3 i3 i2 1 = tN3 ∧ payN tN3 eN i3 i2 1 = eN := by decide
theorem nmc_6 {w0 w : World} {p : Nat} (h : Led w0 w p tN3 eN) : Calls Try.prog 21 #[.pointer (some ⟨p, 0, none⟩), .agg (bys i3.1), .agg (bys i2.1), .int .i64 1] w fun e w' => e = .returned (.int .i64 3) ∧ Led w0 w' p tN3 eN :=
  (led_pay h i3 i2 1 (by omega) ok_tN3 (by first | simp | simp [eN])).mono fun e w' ⟨h1, h2, h3⟩ => by rw [nm_6.1] at h1; rw [nm_6.2.1, nm_6.2.2] at h2; exact ⟨h1, h2⟩
theorem nm_7 : credE tN3 i1 4611686018427387902 = 230 ∧ credT tN3 i1 4611686018427387902 = tN3 := by decide
theorem nmc_7 {w0 w : World} {p : Nat} (h : Led w0 w p tN3 eN) : Calls Try.prog 24 #[.pointer (some ⟨p, 0, none⟩), .agg (bys i1.1), .int .i64 4611686018427387902] w fun e w' => e = .returned (.int .i64 230) ∧ Led w0 w' p tN3 eN :=
  (led_credit h i1 4611686018427387902 (by omega) ok_tN3).mono fun e w' ⟨h1, h2, h3⟩ => by rw [nm_7.1] at h1; rw [nm_7.2] at h2; exact ⟨h1, h2⟩
theorem nm_8 : payE tN3 i2 i2 1 = 1 ∧ payT tN3 i2 i2 1 = tN3 ∧ payN tN3 eN i2 i2 1 = eN := by decide
theorem nmc_8 {w0 w : World} {p : Nat} (h : Led w0 w p tN3 eN) : Calls Try.prog 21 #[.pointer (some ⟨p, 0, none⟩), .agg (bys i2.1), .agg (bys i2.1), .int .i64 1] w fun e w' => e = .returned (.int .i64 1) ∧ Led w0 w' p tN3 eN :=
  (led_pay h i2 i2 1 (by omega) ok_tN3 (by first | simp | simp [eN])).mono fun e w' ⟨h1, h2, h3⟩ => by rw [nm_8.1] at h1; rw [nm_8.2.1, nm_8.2.2] at h2; exact ⟨h1, h2⟩
theorem nm_9 : payE tN3 i2 i1 (-9223372036854775808) = 1 ∧ payT tN3 i2 i1 (-9223372036854775808) = tN3 ∧ payN tN3 eN i2 i1 (-9223372036854775808) = eN := by decide
theorem nmc_9 {w0 w : World} {p : Nat} (h : Led w0 w p tN3 eN) : Calls Try.prog 21 #[.pointer (some ⟨p, 0, none⟩), .agg (bys i2.1), .agg (bys i1.1), .int .i64 (-9223372036854775808)] w fun e w' => e = .returned (.int .i64 1) ∧ Led w0 w' p tN3 eN :=
  (led_pay h i2 i1 (-9223372036854775808) (by omega) ok_tN3 (by first | simp | simp [eN])).mono fun e w' ⟨h1, h2, h3⟩ => by rw [nm_9.1] at h1; rw [nm_9.2.1, nm_9.2.2] at h2; exact ⟨h1, h2⟩
theorem nm_bal : (acOf tN3 i1).bal = -4611686018427387903 := by decide
theorem nmc_bal {w0 w : World} {p : Nat} (h : Led w0 w p tN3 eN) : Calls Try.prog 13 #[.pointer (some ⟨p, 0, none⟩), .agg (bys i1.1)] w fun e w' => e = .returned (.int .i64 (-4611686018427387903)) ∧ Below w.heap.size w w' :=
  (led_balance h i1).mono fun e w' ⟨h1, h2⟩ => by rw [nm_bal] at h1; exact ⟨h1, h2⟩
theorem nmc_acc {w0 w : World} {p : Nat} (h : Led w0 w p tN3 eN) : Calls Try.prog 11 #[.pointer (some ⟨p, 0, none⟩)] w fun e w' => ∃ A c, e = .returned (.slice A 3 c) ∧ Below w.heap.size w w' :=
  (led_accounts h (by simp [tN3])).mono fun e w' ⟨A, c, h1, _, h2⟩ => ⟨A, c, by rw [h1, sortI_len]; rfl, h2⟩
theorem nmc_all (w : World) : Calls Try.prog 18 #[.pointer none, .slice none 0 0] w fun e w' => e = .returned (.tuple #[.int .i64 0, .int .i64 2]) ∧ w' = w := all_none none [] 0 w
theorem nmc_nil (w : World) : Calls Try.prog 13 #[.pointer none, .agg (bys i1.1)] w fun e w' => e = .returned (.int .i64 0) ∧ Below w.heap.size w w' := balance_nil i1 w
set_option maxRecDepth 100000 in
set_option maxHeartbeats 4000000 in
theorem ledgerNames_any (w : World) : Calls Try.prog 7 #[] w fun e w' => e = .returned (.bool true) ∧ Below w.heap.size w w' := by
  go_enter Try.func7, Try.ntmps7
  go_wp2_with (first
    | (go_at_call 23; (with_reducible refine (led_new w).mono ?_); rintro e w2 ⟨rfl, h2⟩; generalize w.heap.size + 1 = p at *; have HS := hid h2; clear h2)
    | (go_at_call 10; (with_reducible refine (lives_any _).mono ?_); rintro e w2 ⟨rfl, h2⟩; replace HS := hid (HS.out.kept h2); clear h2)
    | (go_at_call 26; (first | (with_reducible refine (lv_id1 _).mono ?_) | (with_reducible refine (lv_id2 _).mono ?_) | (with_reducible refine (lv_id3 _).mono ?_)); rintro e w2 ⟨rfl, h2⟩; replace HS := hid (HS.out.kept h2); clear h2)
    | (go_at_call 21; (first | (with_reducible refine (nmc_3 HS.out).mono ?_) | (with_reducible refine (nmc_4 HS.out).mono ?_) | (with_reducible refine (nmc_6 HS.out).mono ?_) | (with_reducible refine (nmc_8 HS.out).mono ?_) | (with_reducible refine (nmc_9 HS.out).mono ?_)); rintro e w2 ⟨rfl, h2⟩; replace HS := hid h2; clear h2)
    | (go_at_call 24; (first | (with_reducible refine (nmc_1 HS.out).mono ?_) | (with_reducible refine (nmc_2 HS.out).mono ?_) | (with_reducible refine (nmc_5 HS.out).mono ?_) | (with_reducible refine (nmc_7 HS.out).mono ?_)); rintro e w2 ⟨rfl, h2⟩; replace HS := hid h2; clear h2)
    | (go_at_call 18; (with_reducible refine (nmc_all _).mono ?_); rintro e w3 ⟨rfl, rfl⟩)
    | (go_at_call 13; (first | (with_reducible refine (nmc_bal HS.out).mono ?_) | (with_reducible refine (nmc_nil _).mono ?_)); rintro e w2 ⟨rfl, h2⟩; replace HS := hid (HS.out.kept h2); clear h2)
    | (go_at_call 11; (with_reducible refine (nmc_acc HS.out).mono ?_); rintro e w2 ⟨A2, c2, rfl, h2⟩; replace HS := hid (HS.out.kept h2); clear h2))
  go_ret
  exact ⟨rfl, HS.out.below⟩
end Go.Proofs.Ytnapfjgokeloeaa
