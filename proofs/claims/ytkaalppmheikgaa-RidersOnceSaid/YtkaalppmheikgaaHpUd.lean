/- The heap: up, down. -/
import Derived.Test.YtkaalppmheikgaaHpSw
namespace Go.Proofs.Ytkaalppmheikgaa
open Go.RowKit

theorem itLt_trans {a b c : It} (h1 : itLt a b = true) (h2 : itLt b c = true) : itLt a c = true := by rw [itLt_iff] at *; omega
theorem itLt_irrefl (a : It) : itLt a a = false := by rw [itLt_not]; omega
section
variable {w : World} {h b : Nat} {T : List (Id8 × Int)} {v : Value} {l : List It} {came : Int}
theorem ahead_int (H : HpAt w h b T v l came) {i j : Nat} {x y : It} (hi : l[i]? = some x) (hj : l[j]? = some y) {ii jj : Int} (ei : ii = i) (ej : jj = j) :
    Calls Try.prog 66 #[.pointer (some ⟨h, 0, none⟩), .int .i64 ii, .int .i64 jj] w fun e w' => e = .returned (.bool (itLt x y)) ∧ Below w.heap.size w w' := by
  subst ei ej; exact ahead_any H hi hj
theorem swap_int (H : HpAt w h b T v l came) {i j : Nat} {x y : It} (hi : l[i]? = some x) (hj : l[j]? = some y) {ii jj : Int} (ei : ii = i) (ej : jj = j) :
    Calls Try.prog 51 #[.pointer (some ⟨h, 0, none⟩), .int .i64 ii, .int .i64 jj] w fun e w' => e = .returned (.tuple #[]) ∧ HpAt w' h b (putM (putM T y.key i) x.key j) v (swp l i j) came ∧ Kp (HOwn h b v) w w' := by
  subst ei ej; exact swap_any H hi hj
end
/-- Some heap with the same items. -/
structure HpL (w0 w : World) (h b : Nat) (v : Value) (came : Int) (l l' : List It) : Prop where
  ex : ∃ T, HpAt w h b T v l' came
  perm : l'.Perm l
  kp : Kp (HOwn h b v) w0 w
section
variable {w0 w w' : World} {h b : Nat} {v : Value} {came : Int} {l l' : List It}
theorem HpL.kept (H : HpL w0 w h b v came l l') (hb : Below w.heap.size w w') : HpL w0 w' h b v came l l' := by
  obtain ⟨⟨T, h1⟩, h2, h3⟩ := H
  exact ⟨⟨T, h1.kept hb⟩, h2, h3.below hb⟩
theorem HpL.ahead (H : HpL w0 w h b v came l l') {i j : Nat} {x y : It} (hi : l'[i]? = some x) (hj : l'[j]? = some y) {ii jj : Int} (ei : ii = i) (ej : jj = j) :
    Calls Try.prog 66 #[.pointer (some ⟨h, 0, none⟩), .int .i64 ii, .int .i64 jj] w fun e w' => e = .returned (.bool (itLt x y)) ∧ HpL w0 w' h b v came l l' := by
  obtain ⟨T, h1⟩ := H.ex
  exact (ahead_int h1 hi hj ei ej).mono fun e w' ⟨h2, h3⟩ => ⟨h2, H.kept h3⟩
theorem HpL.swap (H : HpL w0 w h b v came l l') {i j : Nat} {x y : It} (hi : l'[i]? = some x) (hj : l'[j]? = some y) {ii jj : Int} (ei : ii = i) (ej : jj = j) :
    Calls Try.prog 51 #[.pointer (some ⟨h, 0, none⟩), .int .i64 ii, .int .i64 jj] w fun e w' => e = .returned (.tuple #[]) ∧ HpL w0 w' h b v came l (swp l' i j) := by
  obtain ⟨⟨T, h1⟩, h2, h3⟩ := H
  refine (swap_int h1 hi hj ei ej).mono ?_
  rintro e w' ⟨q1, q2, q3⟩
  exact ⟨q1, ⟨_, q2⟩, (swp_perm (List.getElem?_eq_some_iff.1 hi).1 (List.getElem?_eq_some_iff.1 hj).1).trans h2, h3.trans q3 fun _ _ h => h⟩
theorem HpL.cell1 (H : HpL w0 w h b v came l l') : w.cell? ⟨h, 1, none⟩ = some v := by obtain ⟨T, h1⟩ := H.ex; exact h1.cell1
theorem HpL.len (H : HpL w0 w h b v came l l') : l'.length = l.length := H.perm.length_eq
end
/-- What up answers. -/
def UpAns (w : World) (h b : Nat) (v : Value) (came : Int) (l : List It) (e : Ending) (w' : World) : Prop :=
  ∃ (l' : List It) (j : Nat), e = .returned (.int .i64 j) ∧ HpL w w' h b v came l l' ∧ j < l'.length ∧ HoleOk l' j ∧ okAt l' j
set_option maxRecDepth 100000 in
set_option maxHeartbeats 4000000 in
theorem up_any {w : World} {h b : Nat} {T : List (Id8 × Int)} {v : Value} {l : List It} {came : Int} (H : HpAt w h b T v l came) {i : Nat} (hi : i < l.length) (hh : HoleOk l i) (hlen : l.length ≤ 4611686018427387904) :
    Calls Try.prog 53 #[.pointer (some ⟨h, 0, none⟩), .int .i64 i] w (UpAns w h b v came l) := by
  have HS0 : Hid (HpL w w h b v came l l) := hid ⟨⟨T, H⟩, List.Perm.refl _, Kp.refl _ _⟩
  have HH0 := hid hh
  clear H hh
  go_enter Try.func53, Try.ntmps53
  go_wp2_with fail
  go_loopw [1] (fun iv wr => ∃ (k : Nat) (l' : List It), iv = .int .i64 k ∧ k < l'.length ∧ l'.length ≤ 4611686018427387904 ∧ Hid (HpL w wr h b v came l l') ∧ Hid (HoleOk l' k)) (fun iv _ => (intOf iv).toNat)
  case atStart => exact ⟨i, l, rfl, hi, hlen, HS0, HH0⟩
  case round =>
    clear HS0 HH0
    obtain ⟨k, l', rfl, hk, hl', HS, HH⟩ := hrel
    by_cases hk0 : k = 0
    · subst hk0
      go_wp2
      go_ret
      refine ⟨l', 0, rfl, HS.out, hk, HH.out, fun _ _ h => by omega⟩
    · obtain ⟨m, rfl⟩ : ∃ m, k = m + 1 := ⟨k - 1, by omega⟩
      obtain ⟨p, hp⟩ : ∃ p, p = m / 2 := ⟨_, rfl⟩
      have hpk : p = (m + 1 - 1) / 2 := by rw [hp]; rfl
      have hpl : p < l'.length := by omega
      obtain ⟨x, hx⟩ : ∃ x, l'[m + 1]? = some x := ⟨l'[m + 1], by simp [hk]⟩
      obtain ⟨y, hy⟩ : ∃ y, l'[p]? = some y := ⟨l'[p], by simp [hpl]⟩
      have hq : ((m : Int) / 2) = (p : Int) := by omega
      have HX := hid hx
      have HY := hid hy
      have HPK := hid hpk
      have K1 := hid (fun (ii jj : Int) (ei : ii = ((m + 1 : Nat) : Int)) (ej : jj = (p : Int)) => HS.out.ahead hx hy ei ej)
      obtain ⟨r, hr⟩ : ∃ r, r = itLt x y := ⟨_, rfl⟩
      rw [← hr] at K1
      have HRR := hid hr
      clear hx hy hr hk0 hp hpk
      cases r with
      | true =>
        go_wp2_with (first | (go_at_call 66; (with_reducible refine (K1.out _ _ ?_ ?_).mono ?_); omega; omega; rintro e w3 ⟨rfl, h2⟩; have HS3 := hid h2; clear h2)
                           | (go_at_call 51; (with_reducible refine (HS3.out.swap (i := m + 1) (j := p) HX.out HY.out ?_ ?_).mono ?_); omega; omega; rintro e w4 ⟨rfl, h2⟩; have HS4 := hid h2; clear h2))
        have HN := hid (show HoleOk (swp l' (m + 1) p) p by
          have h1 := hole_up HH.out (by omega) HX.out (by rw [← HPK.out]; exact HY.out) HRR.out.symm
          rw [← HPK.out] at h1; exact h1)
        refine ⟨⟨p, swp l' (m + 1) p, rfl, by rw [swp_len]; omega, by rw [swp_len]; omega, HS4, HN⟩, by simp [intOf]; omega⟩
      | false =>
        go_wp2_with (go_at_call 66; (with_reducible refine (K1.out _ _ ?_ ?_).mono ?_); omega; omega; rintro e w3 ⟨rfl, h2⟩; have HS3 := hid h2; clear h2)
        go_ret
        refine ⟨l', m + 1, ?_, HS3.out, hk, HH.out, fun a c _ ha hc => ?_⟩
        · first | rfl | simp
        · rw [HX.out] at ha; rw [← HPK.out, HY.out] at hc; cases ha; cases hc; exact HRR.out.symm
/-- The first of an item and its children that stand ahead of k. -/
structure Best (l : List It) (i k f : Nat) : Prop where
  lt : f < l.length
  one : f = i ∨ ((f = 2 * i + 1 ∨ f = 2 * i + 2) ∧ f < k ∧ ∀ a b, l[f]? = some a → l[i]? = some b → itLt a b = true)
  all : ∀ s x a, (s = 2 * i + 1 ∨ s = 2 * i + 2) → s < k → l[s]? = some x → l[f]? = some a → itLt x a = false
theorem Best.start {l : List It} {i : Nat} (hi : i < l.length) : Best l i (2 * i + 1) i := ⟨hi, .inl rfl, fun s x a hs hk => by omega⟩
theorem Best.step {l : List It} {i k f : Nat} (h : Best l i k f) (hk : k = 2 * i + 1 ∨ k = 2 * i + 2) {x a : It} (hx : l[k]? = some x) (ha : l[f]? = some a) :
    (itLt x a = true → Best l i (k + 1) k) ∧ (itLt x a = false → Best l i (k + 1) f) := by
  have hkl := (List.getElem?_eq_some_iff.1 hx).1
  refine ⟨fun hl => ⟨hkl, .inr ⟨hk, by omega, fun a' b' h1 h2 => ?_⟩, fun s y a' hs hs2 hy ha' => ?_⟩, fun hl => ⟨h.lt, h.one.imp id (fun ⟨p, q, r⟩ => ⟨p, by omega, r⟩), fun s y a' hs hs2 hy ha' => ?_⟩⟩
  · rw [hx] at h1; cases h1
    rcases h.one with e | ⟨_, _, r⟩
    · rw [← e, ha] at h2; cases h2; exact hl
    · exact itLt_trans hl (r a b' ha h2)
  · rw [hx] at ha'; cases ha'
    by_cases e : s = k
    · subst e; rw [hx] at hy; cases hy; exact itLt_irrefl _
    · have h1 := h.all s y a hs (by omega) hy ha
      cases h2 : itLt y x
      · rfl
      · rw [itLt_trans h2 hl] at h1; cases h1
  · rw [ha] at ha'; cases ha'
    by_cases e : s = k
    · subst e; rw [hx] at hy; cases hy; exact hl
    · exact h.all s y a hs (by omega) hy ha
/-- What down leaves. -/
def DnAns (w : World) (h b : Nat) (v : Value) (came : Int) (l : List It) (e : Ending) (w' : World) : Prop :=
  ∃ l' : List It, e = .returned (.tuple #[]) ∧ HpL w w' h b v came l l' ∧ HeapOk l'
set_option maxRecDepth 100000 in
set_option maxHeartbeats 8000000 in
theorem down_any {w : World} {h b : Nat} {v : Value} {l0 l : List It} {came : Int} (H : HpL w w h b v came l0 l) {i : Nat} (hi : i < l.length) (hh : HoleOk l i) (hok : okAt l i) (hlen : l.length ≤ 1073741824) :
    Calls Try.prog 52 #[.pointer (some ⟨h, 0, none⟩), .int .i64 i] w (DnAns w h b v came l0) := by
  have HS0 := hid H
  have HH0 := hid hh
  have HO0 := hid hok
  obtain ⟨T0, hT0⟩ := H.ex
  obtain ⟨va, vc, hv⟩ := hT0.row.shape
  have HV : Hid (v = .slice va l.length vc) := hid hv
  clear H hh hok hT0 hv
  go_enter Try.func52, Try.ntmps52
  go_wp2_with fail
  go_loopw [1] (fun iv wr => ∃ (k : Nat) (l' : List It), iv = .int .i64 k ∧ k < l'.length ∧ l'.length ≤ 1073741824 ∧ Hid (l'.length = l.length) ∧ Hid (HpL w wr h b v came l0 l') ∧ Hid (HoleOk l' k) ∧ Hid (okAt l' k)) (fun iv _ => l.length - (intOf iv).toNat)
  case atStart => exact ⟨i, l, rfl, hi, hlen, hid rfl, HS0, HH0, HO0⟩
  case round =>
    clear HS0 HH0 HO0
    obtain ⟨i1, l', rfl, hk, hl', HL, HS, HH, HO⟩ := hrel
    go_wp2_with fail
    go_loopw [4, 5] (fun fv kv wr => ∃ (f k : Nat), fv = .int .i64 f ∧ kv = .int .i64 k ∧ 2 * i1 + 1 ≤ k ∧ k ≤ 2 * i1 + 3 ∧ Hid (HpL w wr h b v came l0 l') ∧ Hid (Best l' i1 k f)) (fun _ kv _ => 2 * i1 + 3 - (intOf kv).toNat)
    case atStart => exact ⟨i1, 2 * i1 + 1, rfl, by first | rfl | go_num, by omega, by omega, HS, hid (Best.start hk)⟩
    case round =>
      clear HS
      obtain ⟨f, k, rfl, rfl, hk1, hk2, HS, HB⟩ := hrel
      have hc1 := HS.out.cell1
      rw [HV.out] at hc1
      have HLL := HL.out
      by_cases hA : k ≤ 2 * i1 + 2 ∧ k < l.length
      · obtain ⟨hA1, hA2⟩ := hA
        obtain ⟨x, hx⟩ : ∃ x, l'[k]? = some x := ⟨l'[k], by simp [show k < l'.length by omega]⟩
        obtain ⟨a, ha⟩ : ∃ a, l'[f]? = some a := ⟨_, List.getElem?_eq_getElem HB.out.lt⟩
        have hst := HB.out.step (by omega) hx ha
        have K1 := hid (fun (ii jj : Int) (ei : ii = (k : Int)) (ej : jj = (f : Int)) => HS.out.ahead hx ha ei ej)
        obtain ⟨r, hr⟩ : ∃ r, r = itLt x a := ⟨_, rfl⟩
        rw [← hr] at K1 hst
        have h1 : (k : Int) ≤ 2 * (i1 : Int) + 2 := by omega
        have h2 : (k : Int) < (l.length : Int) := by omega
        have hfl := HB.out.lt
        clear hx ha hr HLL
        cases r with
        | true =>
          have HB2 := hid (hst.1 rfl)
          clear hst
          go_wp2_with (go_at_call 66; (with_reducible refine (K1.out _ _ ?_ ?_).mono ?_); omega; omega; rintro e w3 ⟨rfl, h2⟩; have HS3 := hid h2; clear h2)
          refine ⟨⟨k, k + 1, rfl, by first | rfl | go_num, by omega, by omega, HS3, HB2⟩, by simp [intOf]; omega⟩
        | false =>
          have HB2 := hid (hst.2 rfl)
          clear hst
          go_wp2_with (go_at_call 66; (with_reducible refine (K1.out _ _ ?_ ?_).mono ?_); omega; omega; rintro e w3 ⟨rfl, h2⟩; have HS3 := hid h2; clear h2)
          refine ⟨⟨f, k + 1, rfl, by first | rfl | go_num, by omega, by omega, HS3, HB2⟩, by simp [intOf]; omega⟩
      · obtain ⟨a, ha⟩ : ∃ a, l'[i1]? = some a := ⟨l'[i1], by simp [hk]⟩
        obtain ⟨x, hx⟩ : ∃ x, l'[f]? = some x := ⟨_, List.getElem?_eq_getElem HB.out.lt⟩
        have hfl := HB.out.lt
        have hall : ∀ s y, (s = 2 * i1 + 1 ∨ s = 2 * i1 + 2) → l'[s]? = some y → itLt y x = false := fun s y hs hy => by
          have := (List.getElem?_eq_some_iff.1 hy).1
          exact HB.out.all s y x hs (by omega) hy hx
        have HALL := hid hall
        have HA := hid ha
        have HX := hid hx
        clear hall
        by_cases hf : f = i1
        · subst hf
          have HE := hid (show HeapOk l' from hole_end HH.out HO.out hx HALL.out)
          clear ha hx
          by_cases hB : k ≤ 2 * f + 2
          · have h1 : (k : Int) ≤ 2 * (f : Int) + 2 := by omega
            have h2 : ¬ ((k : Int) < (l.length : Int)) := by omega
            clear hA HLL
            go_wp2
            refine bodyPost_ret (v := .tuple #[]) (by simp [results, Try.results52]) rfl ?_
            exact ⟨l', rfl, HS.out, HE.out⟩
          · have h1 : ¬ ((k : Int) ≤ 2 * (f : Int) + 2) := by omega
            clear hA HLL
            go_wp2
            refine bodyPost_ret (v := .tuple #[]) (by simp [results, Try.results52]) rfl ?_
            exact ⟨l', rfl, HS.out, HE.out⟩
        · have hone := HB.out.one
          have HD := hid (show HoleOk (swp l' i1 f) f ∧ okAt (swp l' i1 f) f by
            rcases hone with e | ⟨h1, _, h3⟩
            · exact absurd e hf
            · exact hole_down HH.out HO.out h1 ha hx (h3 x a hx ha) HALL.out)
          have hgt : i1 < f := by
            rcases hone with e | ⟨h1, _, h3⟩
            · exact absurd e hf
            · omega
          have hne : ((f : Int) == (i1 : Int)) = false := by simp; omega
          clear ha hx hone hf
          by_cases hB : k ≤ 2 * i1 + 2
          · have h1 : (k : Int) ≤ 2 * (i1 : Int) + 2 := by omega
            have h2 : ¬ ((k : Int) < (l.length : Int)) := by omega
            clear hA HLL
            go_wp2_with (go_at_call 51; (with_reducible refine (HS.out.swap (i := i1) (j := f) HA.out HX.out ?_ ?_).mono ?_); omega; omega; rintro e w4 ⟨rfl, h2⟩; have HS4 := hid h2; clear h2)
            refine ⟨⟨f, swp l' i1 f, rfl, by rw [swp_len]; exact hfl, by rw [swp_len]; exact hl', hid (by rw [swp_len]; exact HL.out), HS4, hid HD.out.1, hid HD.out.2⟩, by simp [intOf]; have := HL.out; omega⟩
          · have h1 : ¬ ((k : Int) ≤ 2 * (i1 : Int) + 2) := by omega
            clear hA HLL
            go_wp2_with (go_at_call 51; (with_reducible refine (HS.out.swap (i := i1) (j := f) HA.out HX.out ?_ ?_).mono ?_); omega; omega; rintro e w4 ⟨rfl, h2⟩; have HS4 := hid h2; clear h2)
            refine ⟨⟨f, swp l' i1 f, rfl, by rw [swp_len]; exact hfl, by rw [swp_len]; exact hl', hid (by rw [swp_len]; exact HL.out), HS4, hid HD.out.1, hid HD.out.2⟩, by simp [intOf]; have := HL.out; omega⟩
end Go.Proofs.Ytkaalppmheikgaa
