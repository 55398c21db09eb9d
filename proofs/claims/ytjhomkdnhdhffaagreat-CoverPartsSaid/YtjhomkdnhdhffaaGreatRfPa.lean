/- The reference's Parts, in plain Lean: the rows' numbers fall until nothing changes; then each is its part's first row. -/
import Derived.Test.YtjhomkdnhdhffaaGreatPartsT
namespace Go.Proofs.YtjhomkdnhdhffaaGreat

theorem joined' {g : Gr} (h : chk g = true) : Joined (pairsE g.es) (joinAll g.es) := joinAll_joined fun x hx => by
  obtain ⟨r, c, h1, h2, _, _, h3, h4⟩ := edge_ok h hx
  rw [h1, h2, Int.toNat_natCast, Int.toNat_natCast]; exact ⟨h3, h4⟩
theorem pairsE_of {g : Gr} {x : Ed} (hx : x ∈ g.es) {r c : Nat} (h1 : x.r = r) (h2 : x.c = c) : (r, c) ∈ pairsE g.es := by
  unfold pairsE
  rw [List.mem_map]
  exact ⟨x, hx, by rw [h1, h2, Int.toNat_natCast, Int.toNat_natCast]⟩
/-- The first row of a row's part. -/
def rtG (g : Gr) (r : Nat) : Nat := root (joinAll g.es).1 r
theorem rtG_le {g : Gr} (h : chk g = true) (r : Nat) : rtG g r ≤ r := root_le (joined' h).down r
theorem rtG_idem {g : Gr} (h : chk g = true) (r : Nat) : rtG g (rtG g r) = rtG g r := root_root (joined' h).down r
theorem rtG_same {g : Gr} (h : chk g = true) {x y : Ed} (hx : x ∈ g.es) (hy : y ∈ g.es) (e : x.c = y.c) {r q : Nat} (hr : x.r = r) (hq : y.r = q) : rtG g r = rtG g q := by
  obtain ⟨r1, c1, h1, h2, _⟩ := edge_ok h hx
  exact (joined' h).same r q c1 (pairsE_of hx hr h2) (pairsE_of hy hq (by rw [← e, h2]))

theorem sum_set_lt : ∀ (l : List Nat) (i a b : Nat), l[i]? = some b → a < b → (l.set i a).sum < l.sum
  | [], i, a, b, h, _ => by simp at h
  | x :: l, 0, a, b, h, hab => by
    have : x = b := by simpa using h
    rw [List.set_cons_zero, List.sum_cons, List.sum_cons]; omega
  | x :: l, i + 1, a, b, h, hab => by
    have := sum_set_lt l i a b (by simpa using h) hab
    rw [List.set_cons_succ, List.sum_cons, List.sum_cons]; omega

/-- The rows' numbers on their way. -/
structure NumOk (g : Gr) (N : List Nat) : Prop where
  len : N.length = g.rows.toNat
  le : ∀ r n : Nat, N[r]? = some n → n ≤ r
  same : ∀ r n : Nat, N[r]? = some n → rtG g n = rtG g r
theorem NumOk.start (g : Gr) : NumOk g (List.range g.rows.toNat) := by
  refine ⟨by simp, fun r n h => ?_, fun r n h => ?_⟩ <;>
  · obtain ⟨h1, h2⟩ := List.getElem?_eq_some_iff.1 h
    rw [List.getElem_range] at h2
    subst h2
    first | exact Nat.le_refl _ | rfl
theorem NumOk.set {g : Gr} (h : chk g = true) {N : List Nat} (H : NumOk g N) {x y : Ed} (hx : x ∈ g.es) (hy : y ∈ g.es) (e : x.c = y.c) {r q a b : Nat} (hr : x.r = r) (hq : y.r = q) (ha : N[r]? = some a) (hb : N[q]? = some b) (hab : a < b) :
    NumOk g (N.set q a) ∧ (N.set q a).sum < N.sum := by
  refine ⟨⟨by simp [H.len], fun i n hi => ?_, fun i n hi => ?_⟩, sum_set_lt _ _ _ _ hb hab⟩
  · rw [List.getElem?_set] at hi
    by_cases e1 : q = i
    · subst e1
      have hl := (List.getElem?_eq_some_iff.1 hb).1
      rw [if_pos rfl, if_pos hl] at hi
      have := H.le q b hb
      have := Option.some.inj hi
      omega
    · rw [if_neg e1] at hi; exact H.le i n hi
  · rw [List.getElem?_set] at hi
    by_cases e1 : q = i
    · subst e1
      have hl := (List.getElem?_eq_some_iff.1 hb).1
      rw [if_pos rfl, if_pos hl] at hi
      obtain rfl := Option.some.inj hi
      rw [H.same r a ha]
      exact rtG_same h hx hy e hr hq
    · rw [if_neg e1] at hi; exact H.same i n hi
/-- Nothing is to be changed by the first edge at i, the other one below k. -/
def Calm (N : List Nat) (x y : Ed) : Prop := x.c = y.c → ∀ (r q a b : Nat), x.r = r → y.r = q → N[r]? = some a → N[q]? = some b → ¬ a < b
theorem NumOk.fix {g : Gr} (h : chk g = true) {N : List Nat} (H : NumOk g N) (hf : ∀ x ∈ g.es, ∀ y ∈ g.es, Calm N x y) {r : Nat} (hr : r < g.rows.toNat) : N[r]? = some (rtG g r) := by
  have get : ∀ q, q < g.rows.toNat → ∃ n, N[q]? = some n := fun q hq => ⟨N[q]'(by rw [H.len]; exact hq), by simp [H.len, hq]⟩
  obtain ⟨a, ha⟩ := get r hr
  have hq : rtG g r < g.rows.toNat := by have := rtG_le h r; omega
  have hS := (joined' h).shut (fun x => N[x]? = some a) (fun r1 r2 c h1 h2 h3 => by
    unfold pairsE at h1 h2
    obtain ⟨x, hx, ex⟩ := List.mem_map.1 h1
    obtain ⟨y, hy, ey⟩ := List.mem_map.1 h2
    obtain ⟨xr, xc, x1, x2, x3, _⟩ := edge_ok h hx
    obtain ⟨yr, yc, y1, y2, y3, _⟩ := edge_ok h hy
    rw [x1, x2, Int.toNat_natCast, Int.toNat_natCast] at ex
    rw [y1, y2, Int.toNat_natCast, Int.toNat_natCast] at ey
    obtain ⟨rfl, rfl⟩ := Prod.mk.inj ex
    obtain ⟨rfl, e2⟩ := Prod.mk.inj ey
    have hc : x.c = y.c := by rw [x2, y2, e2]
    obtain ⟨b, hb⟩ := get yr (by omega)
    have h4 := hf x hx y hy hc xr yr a b x1 y1 h3 hb
    have h5 := hf y hy x hx hc.symm yr xr b a y1 x1 hb h3
    have : a = b := by omega
    subst this
    exact hb) r
  have h1 : N[rtG g r]? = some a := hS.1 ha
  have h2 := H.le _ _ h1
  have h3 := H.same _ _ ha
  have h4 := rtG_le h a
  have : a = rtG g r := by omega
  rw [ha, this]

/-- The members of a part below m; the parts whose first row lies below k. -/
def memTo (g : Gr) (r m : Nat) : List Nat := (List.range m).filter fun q => rtG g q = r
def partsTo (g : Gr) (k : Nat) : List (List Nat) := ((List.range k).filter fun r => rtG g r = r).map fun r => memTo g r g.rows.toNat
theorem partsTo_all (g : Gr) : partsTo g g.rows.toNat = parts g := rfl
theorem memTo_start {g : Gr} (h : chk g = true) (r : Nat) : memTo g r r = [] := by
  unfold memTo
  rw [List.filter_eq_nil_iff]
  intro q hq e
  have h1 := rtG_le h q
  have h2 : q < r := by simpa using hq
  have h3 : rtG g q = r := by simpa using e
  omega
theorem memTo_yes {g : Gr} {r m : Nat} (e : rtG g m = r) : memTo g r (m + 1) = memTo g r m ++ [m] := by
  unfold memTo
  rw [List.range_succ, List.filter_append]
  simp [e]
theorem memTo_no {g : Gr} {r m : Nat} (e : rtG g m ≠ r) : memTo g r (m + 1) = memTo g r m := by
  unfold memTo
  rw [List.range_succ, List.filter_append]
  simp [e]
theorem partsTo_yes {g : Gr} {k : Nat} (e : rtG g k = k) : partsTo g (k + 1) = partsTo g k ++ [memTo g k g.rows.toNat] := by
  unfold partsTo
  rw [List.range_succ, List.filter_append, List.map_append]
  simp [e]
theorem partsTo_no {g : Gr} {k : Nat} (e : rtG g k ≠ k) : partsTo g (k + 1) = partsTo g k := by
  unfold partsTo
  rw [List.range_succ, List.filter_append, List.map_append]
  simp [e]
theorem memTo_len (g : Gr) (r m : Nat) : (memTo g r m).length ≤ m := by
  unfold memTo
  exact Nat.le_trans (List.length_filter_le _ _) (by simp)
theorem partsTo_len (g : Gr) (k : Nat) : (partsTo g k).length ≤ k := by
  unfold partsTo
  rw [List.length_map]
  exact Nat.le_trans (List.length_filter_le _ _) (by simp)
end Go.Proofs.YtjhomkdnhdhffaaGreat
