/- The walks of the laws' small functions. -/
import Derived.Test.YtmddhjoomlhbcaaAsWo
import Derived.Test.YtmddhjoomlhbcaaTwinW
namespace Go.Proofs.Ytmddhjoomlhbcaa
open Go.RowKit

theorem num_cell {w : World} {A : Option Addr} {l : List Int} (h : RowsAt 1 numV w A l) {i : Nat} {x : Int} (hx : l[i]? = some x) : ∃ g o, A = some ⟨g, o, none⟩ ∧ w.cell? ⟨g, o + i, none⟩ = some (.int .i64 x) := by
  obtain ⟨g, o, h1, _, h2⟩ := h.get hx
  have h3 := h2 0 (.int .i64 x) rfl
  rw [Nat.one_mul, Nat.add_zero] at h3
  exact ⟨g, o, h1, h3⟩
theorem pr_cell {w : World} {A : Option Addr} {l : List (Int × Int)} (h : RowsAt 2 prV w A l) {i : Nat} {x : Int × Int} (hx : l[i]? = some x) : ∃ g o, A = some ⟨g, o, none⟩ ∧ w.cell? ⟨g, o + i * 2, none⟩ = some (.int .i64 x.1) ∧ w.cell? ⟨g, o + i * 2 + 1, none⟩ = some (.int .i64 x.2) := by
  obtain ⟨g, o, h1, _, h2⟩ := h.get hx
  have h3 := h2 0 (.int .i64 x.1) rfl
  have h4 := h2 1 (.int .i64 x.2) rfl
  rw [Nat.mul_comm, Nat.add_zero] at h3
  rw [Nat.mul_comm] at h4
  exact ⟨g, o, h1, h3, h4⟩
theorem rows_dn {α : Type} {s : Nat} {f : α → Array Value} {w : World} {A : Option Addr} {l : List α} (h : RowsAt s f w A l) (m : Nat) : RowsAt s f (w.drewN m) A l := h.kept (below_dn w m)

set_option maxRecDepth 100000 in
theorem sameInts_any (a b : List Int) (A B : Option Addr) (ca cb : Nat) (la : a.length ≤ 4611686018427387904) (_ : b.length ≤ 4611686018427387904) (w : World) (ha : RowsAt 1 numV w A a) (hb : RowsAt 1 numV w B b) :
    Calls Try.prog 39 #[.slice A a.length ca, .slice B b.length cb] w fun e w' => e = .returned (.bool (decide (a = b))) ∧ ∃ m, w' = w.drewN m := by
  have HA := hid ha
  have HB := hid hb
  clear ha hb
  go_enter Try.func39, Try.ntmps39
  by_cases hl : a.length = b.length
  · have g1 : ((a.length : Int) != (b.length : Int)) = false := by simp [hl]
    have g2 : (a.length != b.length) = false := by simp [hl]
    have HL := hid hl
    clear hl
    go_wp2
    clear g1 g2
    go_loopw [5] (fun i wr => ∃ k : Nat, k ≤ a.length ∧ i = .int .i64 k ∧ Hid (a.take k = b.take k) ∧ Hid (∃ m, wr = w.drewN m)) (fun i _ => a.length - (intOf i).toNat)
    case atStart => exact ⟨0, by omega, rfl, hid rfl, hid ⟨0, rfl⟩⟩
    case round =>
      obtain ⟨k, hk, rfl, HE, HM⟩ := hrel
      obtain ⟨m, rfl⟩ := HM.out
      by_cases hlt : k < a.length
      · have hki : (k : Int) < (a.length : Int) := by omega
        obtain ⟨x, hx⟩ : ∃ x, a[k]? = some x := ⟨a[k], by simp [hlt]⟩
        have hkb : k < b.length := by rw [← HL.out]; exact hlt
        have hkbi : (k : Int) < (b.length : Int) := by omega
        obtain ⟨y, hy⟩ : ∃ y, b[k]? = some y := ⟨b[k], by simp [hkb]⟩
        obtain ⟨ga, oa, rfl, cx⟩ := num_cell HA.out hx
        obtain ⟨gb, ob, rfl, cy⟩ := num_cell HB.out hy
        have HX := hid hx
        have HY := hid hy
        clear hx hy
        by_cases he : x = y
        · have g3 : (x != y) = false := by simp [he]
          have HE2 : Hid (a.take (k + 1) = b.take (k + 1)) := hid (by
            obtain ⟨h1, h2⟩ := List.getElem?_eq_some_iff.1 HX.out
            obtain ⟨h3, h4⟩ := List.getElem?_eq_some_iff.1 HY.out
            rw [List.take_succ_eq_append_getElem h1, List.take_succ_eq_append_getElem h3, HE.out, h2, h4, he])
          clear he
          go_wp2
          go_quiet (fail)
          go_wp2
          go_roundw
          case rel => exact ⟨k + 1, by omega, by go_num, HE2, hid ⟨_, by first | rfl | exact World.drewN_drewN _ _ _⟩⟩
          case measure => simp [intOf]; omega
        · have g3 : (x != y) = true := by simp [he]
          have HN : Hid (decide (a = b) = false) := hid (by
            refine decide_eq_false fun e => he ?_
            have h1 := HX.out
            have h2 := HY.out
            rw [e] at h1
            rw [h1] at h2
            exact Option.some.inj h2)
          clear he
          go_wp2
          go_quiet (fail)
          go_wp2
          go_ret
          exact ⟨by rw [HN.out]; rfl, _, by first | rfl | exact World.drewN_drewN _ _ _⟩
      · obtain rfl : k = a.length := by omega
        have hki : ¬ ((a.length : Int) < (a.length : Int)) := by omega
        have HN : Hid (decide (a = b) = true) := hid (by
          have h1 := HE.out
          rw [List.take_length, HL.out, List.take_length] at h1
          exact decide_eq_true h1)
        clear hk hlt
        go_wp2
        go_ret
        exact ⟨by rw [HN.out]; rfl, m, rfl⟩
  · have g1 : ((a.length : Int) != (b.length : Int)) = true := by simp; omega
    have g2 : (a.length != b.length) = true := by simp [hl]
    have HN : Hid (decide (a = b) = false) := hid (decide_eq_false fun e => hl (by rw [e]))
    clear hl
    go_wp2
    go_ret
    exact ⟨by rw [HN.out]; rfl, 0, rfl⟩
section
variable {P : Program} {w : World} {d : Nat} {xs ys : Array Value} {f : Field} {fs : List Field} {a b : Value} {r s : Bool}
theorem fields_last (hn : (f.name == "_") = false) (ha : (part f.type xs f.offset).run P w = .ok a w) (hb : (part f.type ys f.offset).run P w = .ok b w) (he : (Op.equalIn d f.type a b).run P w = .ok r w) : (Op.eqFields d xs ys [f]).run P w = .ok r w := by
  have hn' : f.name ≠ "_" := by simpa using hn
  simp only [Op.eqFields, if_pos hn', Sem.run_bind, ha, hb, he, Result.andThen_ok]
  cases r <;> simp
theorem fields_cons (hn : (f.name == "_") = false) (ha : (part f.type xs f.offset).run P w = .ok a w) (hb : (part f.type ys f.offset).run P w = .ok b w) (he : (Op.equalIn d f.type a b).run P w = .ok r w) (hr : (Op.eqFields d xs ys fs).run P w = .ok s w) : (Op.eqFields d xs ys (f :: fs)).run P w = .ok (r && s) w := by
  have hn' : f.name ≠ "_" := by simpa using hn
  rw [Op.eqFields]
  simp only [if_pos hn', Sem.run_bind, ha, hb, he, Result.andThen_ok]
  cases r
  · simp
  · simpa using hr
theorem struct_eq {t : TypeId} {fs : Array Field} (hu : P.underlying t = some (.struct fs)) (hp : P.stoodInHeld t = false) (h : (Op.eqFields d xs ys fs.toList).run P w = .ok r w) : (Op.equalIn (d + 1) t (.agg xs) (.agg ys)).run P w = .ok r w := by
  have hf : P.fieldsOf t = fs := by simp [Program.fieldsOf, hu]
  rw [run_equalIn_struct (P := P) w d t xs ys (by rw [hf]; exact hu) hp, hf]
  exact h
end
theorem eqPair (d : Nat) (w : World) (x0 y0 x1 y1 : Int) :
    (Op.equalIn (d + 2) 45 (.agg #[.int .i64 x0, .int .i64 x1]) (.agg #[.int .i64 y0, .int .i64 y1])).run Try.prog w = .ok (x0 == y0 && (x1 == y1)) w := by
  refine struct_eq Try.underlying45 (by kernel_rfl) ?_
  refine fields_cons (by rfl) (by go_simp; rfl) (by go_simp; rfl) (by go_simp) ?_
  exact fields_last (by rfl) (by go_simp; rfl) (by go_simp; rfl) (by go_simp)
attribute [local go_sem high] eqPair
set_option maxRecDepth 100000 in
theorem samePairs_any (a b : List (Int × Int)) (A B : Option Addr) (ca cb : Nat) (la : a.length ≤ 4611686018427387904) (_ : b.length ≤ 4611686018427387904) (w : World) (ha : RowsAt 2 prV w A a) (hb : RowsAt 2 prV w B b) :
    Calls Try.prog 25 #[.slice A a.length ca, .slice B b.length cb] w fun e w' => e = .returned (.bool (decide (a = b))) ∧ ∃ m, w' = w.drewN m := by
  have hu45 := Try.underlying45
  have HA := hid ha
  have HB := hid hb
  clear ha hb
  go_enter Try.func25, Try.ntmps25
  by_cases hl : a.length = b.length
  · have g1 : ((a.length : Int) != (b.length : Int)) = false := by simp [hl]
    have g2 : (a.length != b.length) = false := by simp [hl]
    have HL := hid hl
    clear hl
    go_wp2
    clear g1 g2
    go_loopw [5] (fun i wr => ∃ k : Nat, k ≤ a.length ∧ i = .int .i64 k ∧ Hid (a.take k = b.take k) ∧ Hid (∃ m, wr = w.drewN m)) (fun i _ => a.length - (intOf i).toNat)
    case atStart => exact ⟨0, by omega, rfl, hid rfl, hid ⟨0, rfl⟩⟩
    case round =>
      obtain ⟨k, hk, rfl, HE, HM⟩ := hrel
      obtain ⟨m, rfl⟩ := HM.out
      by_cases hlt : k < a.length
      · have hki : (k : Int) < (a.length : Int) := by omega
        obtain ⟨⟨x, x'⟩, hx⟩ : ∃ x, a[k]? = some x := ⟨a[k], by simp [hlt]⟩
        have hkb : k < b.length := by rw [← HL.out]; exact hlt
        have hkbi : (k : Int) < (b.length : Int) := by omega
        obtain ⟨⟨y, y'⟩, hy⟩ : ∃ y, b[k]? = some y := ⟨b[k], by simp [hkb]⟩
        obtain ⟨ga, oa, rfl, cx, cx'⟩ := pr_cell HA.out hx
        obtain ⟨gb, ob, rfl, cy, cy'⟩ := pr_cell HB.out hy
        have HX := hid hx
        have HY := hid hy
        clear hx hy
        by_cases he : (x, x') = (y, y')
        · have g3 : (!(x == y) || !(x' == y')) = false := by simp at he; simp [he]
          have HE2 : Hid (a.take (k + 1) = b.take (k + 1)) := hid (by
            obtain ⟨h1, h2⟩ := List.getElem?_eq_some_iff.1 HX.out
            obtain ⟨h3, h4⟩ := List.getElem?_eq_some_iff.1 HY.out
            rw [List.take_succ_eq_append_getElem h1, List.take_succ_eq_append_getElem h3, HE.out, h2, h4, he])
          clear he
          go_wp2
          go_quiet (fail)
          go_wp2
          go_roundw
          case rel => exact ⟨k + 1, by omega, by go_num, HE2, hid ⟨_, by first | rfl | exact World.drewN_drewN _ _ _⟩⟩
          case measure => simp [intOf]; omega
        · have g3 : (!(x == y) || !(x' == y')) = true := by simp at he; simp; omega
          have HN : Hid (decide (a = b) = false) := hid (by
            refine decide_eq_false fun e => he ?_
            have h1 := HX.out
            have h2 := HY.out
            rw [e] at h1
            rw [h1] at h2
            exact Option.some.inj h2)
          clear he
          go_wp2
          go_quiet (fail)
          go_wp2
          go_ret
          exact ⟨by rw [HN.out]; rfl, _, by first | rfl | exact World.drewN_drewN _ _ _⟩
      · obtain rfl : k = a.length := by omega
        have hki : ¬ ((a.length : Int) < (a.length : Int)) := by omega
        have HN : Hid (decide (a = b) = true) := hid (by
          have h1 := HE.out
          rw [List.take_length, HL.out, List.take_length] at h1
          exact decide_eq_true h1)
        clear hk hlt
        go_wp2
        go_ret
        exact ⟨by rw [HN.out]; rfl, m, rfl⟩
  · have g1 : ((a.length : Int) != (b.length : Int)) = true := by simp; omega
    have g2 : (a.length != b.length) = true := by simp [hl]
    have HN : Hid (decide (a = b) = false) := hid (decide_eq_false fun e => hl (by rw [e]))
    clear hl
    go_wp2
    go_ret
    exact ⟨by rw [HN.out]; rfl, 0, rfl⟩

set_option maxRecDepth 100000 in
/-- The sum of numbers none of which is great. -/
theorem total_any (l : List Int) (A : Option Addr) (c : Nat) (hl : l.length ≤ 64) (hb : ∀ x ∈ l, 0 ≤ x ∧ x ≤ 150000000000000) (w : World) (ha : RowsAt 1 numV w A l) :
    Calls Try.prog 23 #[.slice A l.length c] w fun e w' => e = .returned (.int .i64 l.sum) ∧ ∃ m, w' = w.drewN m := by
  have HA := hid ha
  have HB := hid hb
  clear ha hb
  go_enter Try.func23, Try.ntmps23
  go_wp2
  go_loopw [3, 4] (fun s i wr => ∃ (k : Nat) (n : Int), k ≤ l.length ∧ i = .int .i64 k ∧ s = .int .i64 n ∧ (0 ≤ n ∧ n ≤ 150000000000000 * (k : Int)) ∧ Hid ((l.take k).sum = n) ∧ Hid (∃ m, wr = w.drewN m)) (fun _ i _ => l.length - (intOf i).toNat)
  case atStart => exact ⟨0, 0, by omega, rfl, rfl, by omega, hid rfl, hid ⟨0, rfl⟩⟩
  case round =>
    obtain ⟨k, n, hk, rfl, rfl, hn, HS, HM⟩ := hrel
    obtain ⟨m, rfl⟩ := HM.out
    by_cases hlt : k < l.length
    · have hki : (k : Int) < (l.length : Int) := by omega
      obtain ⟨x, hx⟩ : ∃ x, l[k]? = some x := ⟨l[k], by simp [hlt]⟩
      obtain ⟨ga, oa, rfl, cx⟩ := num_cell HA.out hx
      have hxb := HB.out x (List.mem_of_getElem? hx)
      have HS2 : Hid ((l.take (k + 1)).sum = n + x) := hid (by
        obtain ⟨h1, h2⟩ := List.getElem?_eq_some_iff.1 hx
        rw [List.take_succ_eq_append_getElem h1, List.sum_append, HS.out, h2]; simp)
      clear hx
      have hk64 : (k : Int) ≤ 64 := by omega
      go_wp2
      go_roundw
      case rel => exact ⟨k + 1, n + x, by omega, by go_num, rfl, by omega, HS2, hid ⟨_, rfl⟩⟩
      case measure => simp [intOf]; omega
    · obtain rfl : k = l.length := by omega
      have hki : ¬ ((l.length : Int) < (l.length : Int)) := by omega
      have HN : Hid (l.sum = n) := hid (by have := HS.out; rwa [List.take_length] at this)
      clear hk hlt
      go_wp2
      go_ret
      exact ⟨by rw [HN.out]; rfl, m, rfl⟩

theorem info_cert : (Try.prog.info? 39).map (·.size) = some 3 := by kernel_rfl
set_option maxRecDepth 100000 in
theorem sameCert_any (w : World) (v1 v2 : Value) (ps1 ps2 : List (Int × Int)) (ys1 zs1 ys2 zs2 : List Int) (h1 : CertAt w v1 ps1 ys1 zs1) (h2 : CertAt w v2 ps2 ys2 zs2) (hl : ps1.length ≤ 64 ∧ ys1.length ≤ 64 ∧ zs1.length ≤ 64) (hl2 : ps2.length ≤ 64 ∧ ys2.length ≤ 64 ∧ zs2.length ≤ 64) :
    Calls Try.prog 26 #[v1, v2] w fun e w' => e = .returned (.bool (decide (ps1 = ps2) && (decide (ys1 = ys2) && decide (zs1 = zs2)))) ∧ Below w.heap.size w w' := by
  obtain ⟨Ap, cp, Ay, cy, Az, cz, rfl, _, _, _, r1, r2, r3⟩ := h1.at_
  obtain ⟨Bp, dp, By, dy, Bz, dz, rfl, _, _, _, q1, q2, q3⟩ := h2.at_
  have H1 := hid (And.intro r1 (And.intro r2 r3))
  have H2 := hid (And.intro q1 (And.intro q2 q3))
  have HB := hid (show Below w.heap.size w ((w.alloc (.cells #[.slice Ap ps1.length cp, .slice Ay ys1.length cy, .slice Az zs1.length cz] 39)).alloc (.cells #[.slice Bp ps2.length dp, .slice By ys2.length dy, .slice Bz zs2.length dz] 39)) from ((Below.refl _ _).alloc (Nat.le_refl _) _).alloc (by simp) _)
  have HC1 := hid (alloc_keep (heap_alloc_new w (.cells #[.slice Ap ps1.length cp, .slice Ay ys1.length cy, .slice Az zs1.length cz] 39)) (.cells #[.slice Bp ps2.length dp, .slice By ys2.length dy, .slice Bz zs2.length dz] 39))
  have HC2 := hid (heap_2 w (.cells #[.slice Ap ps1.length cp, .slice Ay ys1.length cy, .slice Az zs1.length cz] 39) (.cells #[.slice Bp ps2.length dp, .slice By ys2.length dy, .slice Bz zs2.length dz] 39))
  clear r1 r2 r3 q1 q2 q3 h1 h2
  go_enter Try.func26, Try.ntmps26
  go_upto_region 1 with fail
  generalize (w.alloc (.cells #[.slice Ap ps1.length cp, .slice Ay ys1.length cy, .slice Az zs1.length cz] 39)).alloc (.cells #[.slice Bp ps2.length dp, .slice By ys2.length dy, .slice Bz zs2.length dz] 39) = w1 at *
  have C1 := hid (fun (w2 : World) (hb : Below w1.heap.size w1 w2) => samePairs_any ps1 ps2 Ap Bp cp dp (by omega) (by omega) w2 ((H1.out.1.kept HB.out).kept hb) ((H2.out.1.kept HB.out).kept hb))
  have C2 := hid (fun (w2 : World) (hb : Below w1.heap.size w1 w2) => sameInts_any ys1 ys2 Ay By cy dy (by omega) (by omega) w2 ((H1.out.2.1.kept HB.out).kept hb) ((H2.out.2.1.kept HB.out).kept hb))
  have C3 := hid (fun (w2 : World) (hb : Below w1.heap.size w1 w2) => sameInts_any zs1 zs2 Az Bz cz dz (by omega) (by omega) w2 ((H1.out.2.2.kept HB.out).kept hb) ((H2.out.2.2.kept HB.out).kept hb))
  have a0 := row_cell HC1.out 0 _ rfl
  have b0 := row_cell HC2.out 0 _ rfl
  obtain ⟨d1, hd1⟩ : ∃ d, d = decide (ps1 = ps2) := ⟨_, rfl⟩
  obtain ⟨d2, hd2⟩ : ∃ d, d = decide (ys1 = ys2) := ⟨_, rfl⟩
  obtain ⟨d3, hd3⟩ : ∃ d, d = decide (zs1 = zs2) := ⟨_, rfl⟩
  rw [← hd1] at C1
  rw [← hd2] at C2
  rw [← hd3] at C3
  have D1 := hid hd1
  have D2 := hid hd2
  have D3 := hid hd3
  clear hd1 hd2 hd3
  go_wp2_with fail
  refine (C1.out w1 (Below.refl _ _)).mono ?_
  rintro e w2 ⟨rfl, m, hm⟩
  have HB2 : Hid (Below w1.heap.size w1 w2) := hid (by rw [hm]; exact below_dn w1 m)
  clear hm a0 b0
  cases d1 with
  | false =>
    go_wp2
    go_ret
    exact ⟨by rw [← D1.out]; rfl, HB.out.trans (HB2.out.mono HB.out.size)⟩
  | true =>
    have a1 := row_cell (below_keep HB2.out HC1.out) 1 _ rfl
    have b1 := row_cell (below_keep HB2.out HC2.out) 1 _ rfl
    go_wp2_with fail
    refine (C2.out _ HB2.out).mono ?_
    rintro e w3 ⟨rfl, m2, hm⟩
    have HB3 : Hid (Below w1.heap.size w1 w3) := hid (HB2.out.trans (by rw [hm]; exact (below_dn w2 m2).mono HB2.out.size))
    clear hm a1 b1
    cases d2 with
    | false =>
      go_wp2
      go_ret
      exact ⟨by rw [← D1.out, ← D2.out]; rfl, HB.out.trans (HB3.out.mono HB.out.size)⟩
    | true =>
      have a2 := row_cell (below_keep HB3.out HC1.out) 2 _ rfl
      have b2 := row_cell (below_keep HB3.out HC2.out) 2 _ rfl
      go_wp2_with fail
      refine (C3.out _ HB3.out).mono ?_
      rintro e w4 ⟨rfl, m3, hm⟩
      have HB4 : Hid (Below w1.heap.size w1 w4) := hid (HB3.out.trans (by rw [hm]; exact (below_dn w3 m3).mono HB3.out.size))
      clear hm
      go_wp2
      go_ret
      exact ⟨by rw [← D1.out, ← D2.out, ← D3.out]; rfl, HB.out.trans (HB4.out.mono HB.out.size)⟩
end Go.Proofs.Ytmddhjoomlhbcaa
