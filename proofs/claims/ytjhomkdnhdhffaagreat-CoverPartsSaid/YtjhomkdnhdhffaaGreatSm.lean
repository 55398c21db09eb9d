/- The laws' small functions: SameInts, SamePairs, Beyond (as chapter 17's texts have them, over TwinW alone). -/
import Derived.Test.YtjhomkdnhdhffaaGreatLeft
import Derived.Test.YtjhomkdnhdhffaaGreatRfP
namespace Go.Proofs.YtjhomkdnhdhffaaGreat
open Go.RowKit

def numV (x : Int) : Array Value := #[.int .i64 x]
def prV (p : Int × Int) : Array Value := #[.int .i64 p.1, .int .i64 p.2]
def flatV {α : Type} (f : α → Array Value) (l : List α) : List Value := l.flatMap fun x => (f x).toList
theorem flatV_snoc {α : Type} (f : α → Array Value) (l : List α) (x : α) : flatV f (l ++ [x]) = flatV f l ++ (f x).toList := by simp [flatV]
theorem flatV_len {α : Type} {f : α → Array Value} {s : Nat} (hs : ∀ x, (f x).size = s) (l : List α) : (flatV f l).length = l.length * s := by
  induction l with
  | nil => simp [flatV]
  | cons a l ih =>
    show ((f a).toList ++ flatV f l).length = _
    rw [List.length_append, ih, Array.length_toList, hs, List.length_cons, Nat.add_mul]; omega
theorem flatV_get {α : Type} {f : α → Array Value} {s : Nat} (hs : ∀ x, (f x).size = s) : ∀ (l : List α) (i : Nat) (x : α), l[i]? = some x → ∀ (j : Nat) v, (f x)[j]? = some v → (flatV f l)[s * i + j]? = some v
  | [], _, _, h, _, _, _ => by cases h
  | a :: l, 0, x, h, j, v, hv => by
    obtain rfl : a = x := by simpa using h
    show ((f a).toList ++ flatV f l)[s * 0 + j]? = _
    have hj := (Array.getElem?_eq_some_iff.1 hv).1
    rw [List.getElem?_append_left (by rw [Array.length_toList]; omega), Nat.mul_zero, Nat.zero_add, Array.getElem?_toList]; exact hv
  | a :: l, i + 1, x, h, j, v, hv => by
    have ih := flatV_get hs l i x (by simpa using h) j v hv
    show ((f a).toList ++ flatV f l)[s * (i + 1) + j]? = _
    rw [List.getElem?_append_right (by rw [Array.length_toList, hs, Nat.mul_add]; omega), Array.length_toList, hs, show s * (i + 1) + j - s = s * i + j by rw [Nat.mul_add]; omega]
    exact ih
/-- A list of the call's own, read element by element. -/
theorem own_rows {α : Type} {f : α → Array Value} {s : Nat} (hs : ∀ x, (f x).size = s) {w : World} {base : Nat} {e : TypeId} {v : Value} {l : List α} (h : w.ownsRow base e s v l.length (flatV f l)) : ∃ A cap, v = .slice A l.length cap ∧ l.length ≤ cap ∧ RowsAt s f w A l := by
  obtain ⟨h1, ⟨h2, h3⟩ | ⟨g, c2, cur, h2, h3, h4, h5, h6, h7, h8⟩⟩ := h
  · exact ⟨none, 0, by rw [h2, h3], by omega, .inl (List.length_eq_zero_iff.1 h3)⟩
  · refine ⟨some ⟨g, 0, none⟩, c2, h2, h5, .inr ⟨g, 0, rfl, heap_lt h4, fun i x hx j u hj => ?_⟩⟩
    have hil : i < l.length := (List.getElem?_eq_some_iff.1 hx).1
    have hjs : j < s := by rw [← hs x]; exact (Array.getElem?_eq_some_iff.1 hj).1
    have hk : s * i + j < l.length * s := by
      have : s * i + s ≤ s * l.length := by
        have := Nat.mul_le_mul_left s (show i + 1 ≤ l.length by omega)
        rw [Nat.mul_add] at this; omega
      rw [Nat.mul_comm l.length s]; omega
    have h9 := flatV_get hs l i x hx j u hj
    rw [← h8, List.getElem?_take, if_pos hk] at h9
    refine row_cell h4 _ _ ?_
    rw [show 0 + s * i + j = s * i + j by omega, ← Array.getElem?_toList]; exact h9
theorem num_cell {w : World} {A : Option Addr} {l : List Int} (h : RowsAt 1 numV w A l) {i : Nat} {x : Int} (hx : l[i]? = some x) : ∃ g o, A = some ⟨g, o, none⟩ ∧ w.cell? ⟨g, o + i, none⟩ = some (.int .i64 x) := by
  obtain ⟨g, o, h1, _, h2⟩ := h.get hx
  have h3 := h2 0 (.int .i64 x) rfl
  rw [Nat.one_mul, Nat.add_zero] at h3
  exact ⟨g, o, h1, h3⟩
theorem pr_cell {w : World} {A : Option Addr} {l : List (Int × Int)} (h : RowsAt 2 prV w A l) {i : Nat} {x : Int × Int} (hx : l[i]? = some x) : ∃ g o, A = some ⟨g, o, none⟩ ∧ w.cell? ⟨g, o + i * 2, none⟩ = some (.int .i64 x.1) ∧ w.cell? ⟨g, o + i * 2 + 1, none⟩ = some (.int .i64 x.2) := by
  obtain ⟨g, o, h1, _, h2⟩ := h.get hx
  have h3 := h2 0 (.int .i64 x.1) rfl
  have h4 := h2 1 (.int .i64 x.2) rfl
  rw [Nat.mul_comm, Nat.add_zero] at h3
  rw [Nat.mul_comm] at h4
  exact ⟨g, o, h1, h3, h4⟩
theorem rows_dn {α : Type} {s : Nat} {f : α → Array Value} {w : World} {A : Option Addr} {l : List α} (h : RowsAt s f w A l) (m : Nat) : RowsAt s f (w.drewN m) A l := h.kept (kp_dn w m)

set_option maxRecDepth 100000 in
theorem sameInts_any (a b : List Int) (A B : Option Addr) (ca cb : Nat) (la : a.length ≤ 4611686018427387904) (_ : b.length ≤ 4611686018427387904) (w : World) (ha : RowsAt 1 numV w A a) (hb : RowsAt 1 numV w B b) :
    Calls Tryz.prog 17 #[.slice A a.length ca, .slice B b.length cb] w fun e w' => e = .returned (.bool (decide (a = b))) ∧ ∃ m, w' = w.drewN m := by
  have HA := hid ha
  have HB := hid hb
  clear ha hb
  go_enter Tryz.func17, Tryz.ntmps17
  by_cases hl : a.length = b.length
  · have g1 : ((a.length : Int) != (b.length : Int)) = false := by simp [hl]
    have g2 : (a.length != b.length) = false := by simp [hl]
    have HL := hid hl
    clear hl
    go_wp2
    clear g1 g2
    go_loopw [5] (fun i wr => ∃ k : Nat, k ≤ a.length ∧ i = .int .i64 k ∧ Hid (a.take k = b.take k) ∧ Hid (∃ m, wr = w.drewN m)) (fun i _ => a.length - (intOf i).toNat)
    case atStart => exact ⟨0, by omega, rfl, hid rfl, hid ⟨0, rfl⟩⟩
    case round =>
      obtain ⟨k, hk, rfl, HE, HM⟩ := hrel
      obtain ⟨m, rfl⟩ := HM.out
      by_cases hlt : k < a.length
      · have hki : (k : Int) < (a.length : Int) := by omega
        obtain ⟨x, hx⟩ : ∃ x, a[k]? = some x := ⟨a[k], by simp [hlt]⟩
        have hkb : k < b.length := by rw [← HL.out]; exact hlt
        have hkbi : (k : Int) < (b.length : Int) := by omega
        obtain ⟨y, hy⟩ : ∃ y, b[k]? = some y := ⟨b[k], by simp [hkb]⟩
        obtain ⟨ga, oa, rfl, cx⟩ := num_cell HA.out hx
        obtain ⟨gb, ob, rfl, cy⟩ := num_cell HB.out hy
        have HX := hid hx
        have HY := hid hy
        clear hx hy
        by_cases he : x = y
        · have g3 : (x != y) = false := by simp [he]
          have HE2 : Hid (a.take (k + 1) = b.take (k + 1)) := hid (by
            obtain ⟨h1, h2⟩ := List.getElem?_eq_some_iff.1 HX.out
            obtain ⟨h3, h4⟩ := List.getElem?_eq_some_iff.1 HY.out
            rw [List.take_succ_eq_append_getElem h1, List.take_succ_eq_append_getElem h3, HE.out, h2, h4, he])
          clear he
          go_wp2
          go_quiet (fail)
          go_wp2
          go_roundw
          case rel => exact ⟨k + 1, by omega, by go_num, HE2, hid ⟨_, by first | rfl | exact World.drewN_drewN _ _ _⟩⟩
          case measure => simp [intOf]; omega
        · have g3 : (x != y) = true := by simp [he]
          have HN : Hid (decide (a = b) = false) := hid (by
            refine decide_eq_false fun e => he ?_
            have h1 := HX.out
            have h2 := HY.out
            rw [e] at h1
            rw [h1] at h2
            exact Option.some.inj h2)
          clear he
          go_wp2
          go_quiet (fail)
          go_wp2
          go_ret
          exact ⟨by rw [HN.out]; rfl, _, by first | rfl | exact World.drewN_drewN _ _ _⟩
      · obtain rfl : k = a.length := by omega
        have hki : ¬ ((a.length : Int) < (a.length : Int)) := by omega
        have HN : Hid (decide (a = b) = true) := hid (by
          have h1 := HE.out
          rw [List.take_length, HL.out, List.take_length] at h1
          exact decide_eq_true h1)
        clear hk hlt
        go_wp2
        go_ret
        exact ⟨by rw [HN.out]; rfl, m, rfl⟩
  · have g1 : ((a.length : Int) != (b.length : Int)) = true := by simp; omega
    have g2 : (a.length != b.length) = true := by simp [hl]
    have HN : Hid (decide (a = b) = false) := hid (decide_eq_false fun e => hl (by rw [e]))
    clear hl
    go_wp2
    go_ret
    exact ⟨by rw [HN.out]; rfl, 0, rfl⟩
section
variable {P : Program} {w : World} {d : Nat} {xs ys : Array Value} {f : Field} {fs : List Field} {a b : Value} {r s : Bool}
theorem fields_last (hn : (f.name == "_") = false) (ha : (part f.type xs f.offset).run P w = .ok a w) (hb : (part f.type ys f.offset).run P w = .ok b w) (he : (Op.equalIn d f.type a b).run P w = .ok r w) : (Op.eqFields d xs ys [f]).run P w = .ok r w := by
  have hn' : f.name ≠ "_" := by simpa using hn
  simp only [Op.eqFields, if_pos hn', Sem.run_bind, ha, hb, he, Result.andThen_ok]
  cases r <;> simp
theorem fields_cons (hn : (f.name == "_") = false) (ha : (part f.type xs f.offset).run P w = .ok a w) (hb : (part f.type ys f.offset).run P w = .ok b w) (he : (Op.equalIn d f.type a b).run P w = .ok r w) (hr : (Op.eqFields d xs ys fs).run P w = .ok s w) : (Op.eqFields d xs ys (f :: fs)).run P w = .ok (r && s) w := by
  have hn' : f.name ≠ "_" := by simpa using hn
  rw [Op.eqFields]
  simp only [if_pos hn', Sem.run_bind, ha, hb, he, Result.andThen_ok]
  cases r
  · simp
  · simpa using hr
theorem struct_eq {t : TypeId} {fs : Array Field} (hu : P.underlying t = some (.struct fs)) (hp : P.stoodInHeld t = false) (h : (Op.eqFields d xs ys fs.toList).run P w = .ok r w) : (Op.equalIn (d + 1) t (.agg xs) (.agg ys)).run P w = .ok r w := by
  have hf : P.fieldsOf t = fs := by simp [Program.fieldsOf, hu]
  rw [run_equalIn_struct (P := P) w d t xs ys (by rw [hf]; exact hu) hp, hf]
  exact h
end
theorem eqPair (d : Nat) (w : World) (x0 y0 x1 y1 : Int) :
    (Op.equalIn (d + 2) 100 (.agg #[.int .i64 x0, .int .i64 x1]) (.agg #[.int .i64 y0, .int .i64 y1])).run Tryz.prog w = .ok (x0 == y0 && (x1 == y1)) w := by
  refine struct_eq Tryz.underlying100 (by kernel_rfl) ?_
  refine fields_cons (by rfl) (by go_simp; rfl) (by go_simp; rfl) (by go_simp) ?_
  exact fields_last (by rfl) (by go_simp; rfl) (by go_simp; rfl) (by go_simp)
attribute [local go_sem high] eqPair
set_option maxRecDepth 100000 in
theorem samePairs_any (a b : List (Int × Int)) (A B : Option Addr) (ca cb : Nat) (la : a.length ≤ 4611686018427387904) (_ : b.length ≤ 4611686018427387904) (w : World) (ha : RowsAt 2 prV w A a) (hb : RowsAt 2 prV w B b) :
    Calls Tryz.prog 21 #[.slice A a.length ca, .slice B b.length cb] w fun e w' => e = .returned (.bool (decide (a = b))) ∧ ∃ m, w' = w.drewN m := by
  have hu45 := Tryz.underlying100
  have HA := hid ha
  have HB := hid hb
  clear ha hb
  go_enter Tryz.func21, Tryz.ntmps21
  by_cases hl : a.length = b.length
  · have g1 : ((a.length : Int) != (b.length : Int)) = false := by simp [hl]
    have g2 : (a.length != b.length) = false := by simp [hl]
    have HL := hid hl
    clear hl
    go_wp2
    clear g1 g2
    go_loopw [5] (fun i wr => ∃ k : Nat, k ≤ a.length ∧ i = .int .i64 k ∧ Hid (a.take k = b.take k) ∧ Hid (∃ m, wr = w.drewN m)) (fun i _ => a.length - (intOf i).toNat)
    case atStart => exact ⟨0, by omega, rfl, hid rfl, hid ⟨0, rfl⟩⟩
    case round =>
      obtain ⟨k, hk, rfl, HE, HM⟩ := hrel
      obtain ⟨m, rfl⟩ := HM.out
      by_cases hlt : k < a.length
      · have hki : (k : Int) < (a.length : Int) := by omega
        obtain ⟨⟨x, x'⟩, hx⟩ : ∃ x, a[k]? = some x := ⟨a[k], by simp [hlt]⟩
        have hkb : k < b.length := by rw [← HL.out]; exact hlt
        have hkbi : (k : Int) < (b.length : Int) := by omega
        obtain ⟨⟨y, y'⟩, hy⟩ : ∃ y, b[k]? = some y := ⟨b[k], by simp [hkb]⟩
        obtain ⟨ga, oa, rfl, cx, cx'⟩ := pr_cell HA.out hx
        obtain ⟨gb, ob, rfl, cy, cy'⟩ := pr_cell HB.out hy
        have HX := hid hx
        have HY := hid hy
        clear hx hy
        by_cases he : (x, x') = (y, y')
        · have g3 : (!(x == y) || !(x' == y')) = false := by simp at he; simp [he]
          have HE2 : Hid (a.take (k + 1) = b.take (k + 1)) := hid (by
            obtain ⟨h1, h2⟩ := List.getElem?_eq_some_iff.1 HX.out
            obtain ⟨h3, h4⟩ := List.getElem?_eq_some_iff.1 HY.out
            rw [List.take_succ_eq_append_getElem h1, List.take_succ_eq_append_getElem h3, HE.out, h2, h4, he])
          clear he
          go_wp2
          go_quiet (fail)
          go_wp2
          go_roundw
          case rel => exact ⟨k + 1, by omega, by go_num, HE2, hid ⟨_, by first | rfl | exact World.drewN_drewN _ _ _⟩⟩
          case measure => simp [intOf]; omega
        · have g3 : (!(x == y) || !(x' == y')) = true := by simp at he; simp; omega
          have HN : Hid (decide (a = b) = false) := hid (by
            refine decide_eq_false fun e => he ?_
            have h1 := HX.out
            have h2 := HY.out
            rw [e] at h1
            rw [h1] at h2
            exact Option.some.inj h2)
          clear he
          go_wp2
          go_quiet (fail)
          go_wp2
          go_ret
          exact ⟨by rw [HN.out]; rfl, _, by first | rfl | exact World.drewN_drewN _ _ _⟩
      · obtain rfl : k = a.length := by omega
        have hki : ¬ ((a.length : Int) < (a.length : Int)) := by omega
        have HN : Hid (decide (a = b) = true) := hid (by
          have h1 := HE.out
          rw [List.take_length, HL.out, List.take_length] at h1
          exact decide_eq_true h1)
        clear hk hlt
        go_wp2
        go_ret
        exact ⟨by rw [HN.out]; rfl, m, rfl⟩
  · have g1 : ((a.length : Int) != (b.length : Int)) = true := by simp; omega
    have g2 : (a.length != b.length) = true := by simp [hl]
    have HN : Hid (decide (a = b) = false) := hid (decide_eq_false fun e => hl (by rw [e]))
    clear hl
    go_wp2
    go_ret
    exact ⟨by rw [HN.out]; rfl, 0, rfl⟩
theorem sum_take_le {l : List Int} (hb : ∀ x ∈ l, 0 ≤ x) (k : Nat) : (l.take k).sum ≤ l.sum := by
  induction l generalizing k with
  | nil => simp
  | cons a l ih =>
    have h0 := hb a (by simp)
    cases k with
    | zero =>
      have h9 := ih (fun x hx => hb x (by simp [hx])) 0
      simp only [List.take_zero, List.sum_nil, List.sum_cons] at h9 ⊢
      omega
    | succ k =>
      have h9 := ih (fun x hx => hb x (by simp [hx])) k
      simp only [List.take_succ_cons, List.sum_cons]
      omega

set_option maxRecDepth 100000 in
theorem beyond_any (l : List Int) (A : Option Addr) (c : Nat) (hl : l.length ≤ 64) (hb : ∀ x ∈ l, 0 ≤ x) (hs : l.sum ≤ 9223372036854775807) (w : World) (ha : RowsAt 1 numV w A l) :
    Calls Tryz.prog 6 #[.slice A l.length c] w fun e w' => e = .returned (.bool (decide (1048576 < l.sum))) ∧ ∃ m, w' = w.drewN m := by
  have HA := hid ha
  have HB := hid hb
  clear ha hb
  go_enter Tryz.func6, Tryz.ntmps6
  go_wp2
  go_loopw [3, 4] (fun s i wr => ∃ (k : Nat) (n : Int), k ≤ l.length ∧ i = .int .i64 k ∧ s = .int .i64 n ∧ (0 ≤ n ∧ n ≤ 1048576) ∧ Hid ((l.take k).sum = n) ∧ Hid (∃ m, wr = w.drewN m)) (fun _ i _ => l.length - (intOf i).toNat)
  case atStart => exact ⟨0, 0, by omega, rfl, rfl, by omega, hid rfl, hid ⟨0, rfl⟩⟩
  case round =>
    obtain ⟨k, n, hk, rfl, rfl, hn, HS, HM⟩ := hrel
    obtain ⟨m, rfl⟩ := HM.out
    by_cases hlt : k < l.length
    · have hki : (k : Int) < (l.length : Int) := by omega
      obtain ⟨x, hx⟩ : ∃ x, l[k]? = some x := ⟨l[k], by simp [hlt]⟩
      obtain ⟨ga, oa, rfl, cx⟩ := num_cell HA.out hx
      have hxb := HB.out x (List.mem_of_getElem? hx)
      have hxs := sum_take_le HB.out (k + 1)
      have HS2 : Hid ((l.take (k + 1)).sum = n + x) := hid (by
        obtain ⟨h1, h2⟩ := List.getElem?_eq_some_iff.1 hx
        rw [List.take_succ_eq_append_getElem h1, List.sum_append, HS.out, h2]; simp)
      rw [HS2.out] at hxs
      have hxs2 : n + x ≤ 9223372036854775807 := by omega
      clear hx hxs
      have hk64 : (k : Int) ≤ 64 := by omega
      by_cases hbig : 1048576 < n + x
      · have HN : Hid (decide (1048576 < l.sum) = true) := hid (decide_eq_true (by
          have := sum_take_le HB.out (k + 1)
          rw [HS2.out] at this; omega))
        go_wp2
        go_ret
        exact ⟨by rw [HN.out]; rfl, _, rfl⟩
      · go_wp2
        go_roundw
        case rel => exact ⟨k + 1, n + x, by omega, by go_num, rfl, by omega, HS2, hid ⟨_, rfl⟩⟩
        case measure => simp [intOf]; omega
    · obtain rfl : k = l.length := by omega
      have hki : ¬ ((l.length : Int) < (l.length : Int)) := by omega
      have HN : Hid (decide (1048576 < l.sum) = false) := hid (decide_eq_false (by have := HS.out; rw [List.take_length] at this; omega))
      clear hk hlt
      go_wp2
      go_ret
      exact ⟨by rw [HN.out]; rfl, m, rfl⟩
end Go.Proofs.YtjhomkdnhdhffaaGreat
