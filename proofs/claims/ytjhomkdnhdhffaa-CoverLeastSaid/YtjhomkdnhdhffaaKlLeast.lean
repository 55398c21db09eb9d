/- The laws' small functions over the walks' lists: in, matching; Most's pairs are a matching. -/
import Derived.Test.YtjhomkdnhdhffaaAlvLeast
import Derived.Test.YtjhomkdnhdhffaaLawPl
namespace Go.Proofs.Ytjhomkdnhdhffaa.PCoverLeast
open Go.RowKit Go.Proofs.Ytjhomkdnhdhffaa Go.Proofs.YtjhomkdnhdhffaaW.PrintWords Go.Proofs.YtjhomkdnhdhffaaW.PrintLast Go.Proofs.YtjhomkdnhdhffaaW.PrintMore

theorem wrap_up (j : Nat) (h : j < 4611686018427387904) : wrap64 ((j : Int) + 1) = ((j + 1 : Nat) : Int) := by unfold wrap64; omega
theorem wrap_down (j : Nat) (h : j < 4611686018427387904) : wrap64 (((j + 1 : Nat) : Int) - 1) = (j : Int) := by unfold wrap64; omega
theorem rd_at (l : List Int) (j : Nat) (h : j < l.length) : rd l (j : Int) = l[j] := by
  unfold rd
  rw [Int.toNat_natCast, List.getD_eq_getElem?_getD, List.getElem?_eq_getElem h]; rfl
theorem rdE_at (l : List S40) (j : Nat) (h : j < l.length) : rd_T40 l (j : Int) = l[j] := by
  unfold rd_T40
  rw [Int.toNat_natCast, List.getD_eq_getElem?_getD, List.getElem?_eq_getElem h]; rfl
theorem rdP_at (l : List S42) (j : Nat) (h : j < l.length) : rd_T42 l (j : Int) = l[j] := by
  unfold rd_T42
  rw [Int.toNat_natCast, List.getD_eq_getElem?_getD, List.getElem?_eq_getElem h]; rfl

theorem in_tells (l : List Int) (n : Int) (hl : l.length ≤ 4611686018427387903) (K : Nat) (hK : l.length < K) : cabstandlaw19_in.f K l n = some (decide (n ∈ l)) := by
  have key : ∀ (d k j : Nat), j + d = l.length → d < k → cabstandlaw19_in.l0 k l n j = some (decide (n ∈ l.drop j)) := by
    intro d
    induction d with
    | zero =>
      intro k j hj hk
      obtain ⟨k, rfl⟩ : ∃ m, k = m + 1 := ⟨k - 1, by omega⟩
      simp only [cabstandlaw19_in.l0]
      rw [if_neg (by omega), List.drop_of_length_le (by omega)]
      simp
    | succ d ih =>
      intro k j hj hk
      obtain ⟨k, rfl⟩ : ∃ m, k = m + 1 := ⟨k - 1, by omega⟩
      simp only [cabstandlaw19_in.l0]
      rw [if_pos (by omega), if_pos (by omega), rd_at l j (by omega), List.drop_eq_getElem_cons (by omega)]
      by_cases e : l[j]'(by omega) = n
      · rw [if_pos e]; simp [e]
      · rw [if_neg e, wrap_up j (by omega), ih k (j + 1) (by omega) (by omega)]
        have : n ≠ l[j]'(by omega) := fun h => e h.symm
        simp only [List.mem_cons, this, false_or]
  have := key l.length K 0 (by omega) hK
  unfold cabstandlaw19_in.f
  exact this
def hasE (es : List S40) (r c : Int) : Bool := es.any fun e => decide (e.f0 = r ∧ e.f1 = c)
theorem has_tells (x y : Int) (es : List S40) (r c : Int) (hl : es.length ≤ 4611686018427387903) (K : Nat) (hK : es.length < K) : cabstandlaw19_has.f K x y es r c = some (hasE es r c) := by
  have key : ∀ (d k j : Nat), j + d = es.length → d < k → cabstandlaw19_has.l0 k j x y es r c = some (hasE (es.drop j) r c) := by
    intro d
    induction d with
    | zero =>
      intro k j hj hk
      obtain ⟨k, rfl⟩ : ∃ m, k = m + 1 := ⟨k - 1, by omega⟩
      simp only [cabstandlaw19_has.l0]
      rw [if_neg (by omega), List.drop_of_length_le (by omega)]
      rfl
    | succ d ih =>
      intro k j hj hk
      obtain ⟨k, rfl⟩ : ∃ m, k = m + 1 := ⟨k - 1, by omega⟩
      simp only [cabstandlaw19_has.l0]
      rw [if_pos (by omega), if_pos (by omega), rdE_at es j (by omega), List.drop_eq_getElem_cons (by omega), wrap_up j (by omega), ih k (j + 1) (by omega) (by omega)]
      unfold hasE
      rw [List.any_cons]
      by_cases e : (es[j]'(by omega)).f0 = r
      · by_cases e2 : (es[j]'(by omega)).f1 = c
        · simp [e, e2]
        · simp [e, e2]
      · simp [e]
  have := key es.length K 0 (by omega) hK
  unfold cabstandlaw19_has.f
  exact this
def okAt (es : List S40) (l : List S42) (j : Nat) : Bool :=
  match l[j]? with
  | none => false
  | some p => hasE es p.f0 p.f1 && (match j with | 0 => true | m + 1 => match l[m]? with | none => false | some q => decide (q.f0 < p.f0)) && (List.range j).all fun q => match l[q]? with | none => false | some u => decide (u.f1 ≠ p.f1)
theorem all_from {p : Nat → Bool} (j d : Nat) : (List.range' j (d + 1)).all p = (p j && (List.range' (j + 1) d).all p) := by rw [List.range'_succ, List.all_cons]
theorem matching_tells (x y : Int) (es : List S40) (l : List S42) (he : es.length ≤ 4611686018427387903) (hl : l.length ≤ 4611686018427387903) : ∃ K, cabstandlaw19_matching.f K x y es l = some ((List.range l.length).all (okAt es l)) := by
  have inner : ∀ (j : Nat) (hj : j < l.length) (b : Bool), (∃ K, ∀ k, K ≤ k → cabstandlaw19_matching.l0 k l ((j + 1 : Nat) : Int) x y es = some b) → ∀ d q : Nat, q + d = j → ∃ K, ∀ k, K ≤ k →
      cabstandlaw19_matching.l1 k l j q x y es = some (((List.range' q d).all fun q => match l[q]? with | none => false | some u => decide (u.f1 ≠ l[j].f1)) && b) := by
    intro j hj b ⟨K0, h0⟩ d
    induction d with
    | zero =>
      intro q hq
      refine ⟨K0 + 1, fun k hk => ?_⟩
      obtain ⟨k, rfl⟩ : ∃ m, k = m + 1 := ⟨k - 1, by omega⟩
      simp only [cabstandlaw19_matching.l1]
      rw [if_neg (by omega), wrap_up j (by omega), h0 k (by omega)]
      rfl
    | succ d ih =>
      intro q hq
      obtain ⟨K, hK⟩ := ih (q + 1) (by omega)
      refine ⟨K + 1, fun k hk => ?_⟩
      obtain ⟨k, rfl⟩ : ∃ m, k = m + 1 := ⟨k - 1, by omega⟩
      simp only [cabstandlaw19_matching.l1]
      rw [if_pos (by omega), if_pos (by omega), if_pos (by omega), if_pos (by omega), if_pos (by omega), rdP_at l q (by omega), rdP_at l j hj, wrap_up q (by omega), hK k (by omega), all_from, List.getElem?_eq_getElem (show q < l.length by omega)]
      by_cases e : (l[q]'(by omega)).f1 = l[j].f1
      · simp [e]
      · simp [e]
  have outer : ∀ d j : Nat, j + d = l.length → ∃ K, ∀ k, K ≤ k → cabstandlaw19_matching.l0 k l (j : Int) x y es = some ((List.range' j d).all (okAt es l)) := by
    intro d
    induction d with
    | zero =>
      intro j hj
      refine ⟨1, fun k hk => ?_⟩
      obtain ⟨k, rfl⟩ : ∃ m, k = m + 1 := ⟨k - 1, by omega⟩
      simp only [cabstandlaw19_matching.l0]
      rw [if_neg (by omega)]
      rfl
    | succ d ih =>
      intro j hj
      have hjl : j < l.length := by omega
      obtain ⟨K1, h1⟩ := inner j hjl _ (ih (j + 1) (by omega)) j 0 (by omega)
      refine ⟨K1 + es.length + 3, fun k hk => ?_⟩
      obtain ⟨k, rfl⟩ : ∃ m, k = m + 1 + 1 := ⟨k - 2, by omega⟩
      have h1' := h1 k (by omega)
      simp only [cabstandlaw19_matching.l0, cabstandlaw19_matching.j1]
      rw [if_pos (by omega), if_pos (by omega), rdP_at l j hjl, has_tells x y es _ _ he _ (by omega), all_from]
      simp only [Option.bind_some]
      obtain ⟨p, hp⟩ : ∃ p, p = l[j] := ⟨_, rfl⟩
      rw [← hp] at h1' ⊢
      have hok : okAt es l j = (hasE es p.f0 p.f1 && (match j with | 0 => true | m + 1 => match l[m]? with | none => false | some q => decide (q.f0 < p.f0)) && (List.range j).all fun q => match l[q]? with | none => false | some u => decide (u.f1 ≠ p.f1)) := by
        unfold okAt
        rw [List.getElem?_eq_getElem hjl, ← hp]
      rw [hok]
      cases hh : hasE es p.f0 p.f1
      · simp
      · simp only [if_true, Bool.true_and]
        rw [List.range_eq_range']
        cases j with
        | zero =>
          rw [if_neg (by omega), if_neg (by simp)]
          have h2 : cabstandlaw19_matching.l1 k l ((0 : Nat) : Int) ((0 : Nat) : Int) x y es = _ := h1'
          rw [show ((0 : Int)) = ((0 : Nat) : Int) from rfl, h2]
          simp
        | succ m =>
          rw [if_pos (by omega), wrap_down m (by omega), if_pos (by omega), if_pos (by omega), rdP_at l m (by omega)]
          simp only [List.getElem?_eq_getElem (show m < l.length by omega)]
          by_cases e : (l[m]'(by omega)).f0 < p.f0
          · have e2 : ¬ ((l[m]'(by omega)).f0 ≥ p.f0) := by omega
            simp only [e2, decide_false, Bool.false_eq_true, if_false, e, decide_true, Bool.true_and]
            have h2 : cabstandlaw19_matching.l1 k l ((m + 1 : Nat) : Int) ((0 : Nat) : Int) x y es = _ := h1'
            rw [show ((0 : Int)) = ((0 : Nat) : Int) from rfl, h2]
          · have e2 : (l[m]'(by omega)).f0 ≥ p.f0 := by omega
            simp [e2, e]
  obtain ⟨K, hK⟩ := outer l.length 0 (by omega)
  refine ⟨K, ?_⟩
  unfold cabstandlaw19_matching.f
  rw [List.range_eq_range']
  exact hK K (Nat.le_refl _)

theorem in_any (l : List Int) (A : Option Addr) (c : Nat) (n : Int) (w : World) (hC : Kd.C (Kd.int .i64) w A l.length l) (hc : l.length ≤ c) (hl : l.length ≤ 64) :
    Calls Try.prog 16 #[.slice A l.length c, .int .i64 n] w fun e w' => e = .returned (.bool (decide (n ∈ l))) ∧ ∃ m, w' = w.drewN m :=
  (cabstandlaw19_in.calls (l.length + 1) A c l n _ w hC hc (in_tells l n (by omega) _ (by omega))).mono fun _ _ ⟨h1, h2⟩ => ⟨h1, h2.out⟩
theorem in_quiet (l : List Int) (A : Option Addr) (c : Nat) (n : Int) (w : World) (hC : Kd.C (Kd.int .i64) w A l.length l) (hc : l.length ≤ c) (hl : l.length ≤ 64) (a : Nat) :
    Calls Try.prog 16 #[.slice A l.length c, .int .i64 n] (w.drewN a) fun e w' => e = .returned (.bool (decide (n ∈ l))) ∧ ∃ m, w' = w.drewN m :=
  Calls.quiet_of (in_any l A c n (w.drewN a) (Kd.C_below hC (Below.refl _ _ |>.trans ⟨rfl, rfl, rfl, Nat.le_refl _, fun _ _ => rfl⟩)) hc hl)
theorem in_quiet' (l : List Int) (A : Option Addr) (c : Nat) (n : Int) (b : Bool) (hb : decide (n ∈ l) = b) (w : World) (hC : Kd.C (Kd.int .i64) w A l.length l) (hc : l.length ≤ c) (hl : l.length ≤ 64) (a : Nat) :
    Calls Try.prog 16 #[.slice A l.length c, .int .i64 n] (w.drewN a) fun e w' => e = .returned (.bool b) ∧ ∃ m, w' = w.drewN m := by
  rw [← hb]; exact in_quiet l A c n w hC hc hl a
/-- A list of pairs: where it lies. -/
theorem pairs_at {w : World} {a : Option Addr} {n : Nat} {l : List SP} (h : Kd.C kP w a n l) {k : Nat} {x : SP} (hk : l[k]? = some x) : ∃ g o, a = some ⟨g, o, none⟩ ∧ w.cell? ⟨g, o + k * 2, none⟩ = some (.int .i64 x.f0) ∧ w.cell? ⟨g, o + k * 2 + 1, none⟩ = some (.int .i64 x.f1) := by
  obtain ⟨h1, h2, h3⟩ := h
  have hlt := (List.getElem?_eq_some_iff.1 hk).1
  obtain ⟨ad, rfl, hc⟩ := h3 (by omega)
  obtain ⟨c, hc1, hc2, hc3⟩ := hc k x hk
  obtain rfl := k42_open hc2
  have e0 := hc3 0 _ rfl
  have e1 := hc3 1 _ rfl
  rw [show k * kP.sz = k * 2 from rfl] at e0 e1
  obtain ⟨g, o, spot⟩ := ad
  obtain ⟨c0, _, hk0, hc0⟩ := hc 0 (l[0]'(by omega)) (List.getElem?_eq_getElem _)
  obtain rfl := k42_open hk0
  have h00 := hc0 0 _ rfl
  have hspot : spot = none := by simpa [Addr.add] using World.cell?_spot h00
  subst hspot
  rw [add_at] at e0 e1
  exact ⟨g, o, rfl, e0, e1⟩
def matchB (g : Gr) (L : List SP) : Bool := (List.range L.length).all (okAt (g.es.map toS) L)
theorem matching_any (g : Gr) (a : Option Addr) (cap : Nat) (hok : GrOk g cap) (L : List SP) (A : Option Addr) (c : Nat) (hL : L.length ≤ 4611686018427387903) (hes : g.es.length ≤ 1048576) (w : World) (hr : RowsAt 3 edV w a g.es) (hC : Kd.C kP w A L.length L) (hc : L.length ≤ c) :
    Calls Try.prog 14 #[grV g a cap, .slice A L.length c] w fun e w' => e = .returned (.bool (matchB g L)) ∧ Below w.heap.size w w' := by
  obtain ⟨K, hK⟩ := matching_tells g.rows g.cols (g.es.map toS) L (by rw [List.length_map]; omega) hL
  have := cabstandlaw19_matching.calls K g.rows g.cols a cap (g.es.map toS) A c L _ w (C_of_rows hr (by omega)) (by rw [List.length_map]; exact hok.len) hC hc hK
  rw [List.length_map] at this
  exact this
theorem hasE_iff (g : Gr) (r c : Int) : hasE (g.es.map toS) r c = true ↔ ∃ x ∈ g.es, x.r = r ∧ x.c = c := by
  unfold hasE
  rw [List.any_eq_true]
  constructor
  · rintro ⟨e, he, h⟩
    obtain ⟨x, hx, rfl⟩ := List.mem_map.1 he
    have h' : x.r = r ∧ x.c = c := of_decide_eq_true h
    exact ⟨x, hx, h'⟩
  · rintro ⟨x, hx, h1, h2⟩
    exact ⟨toS x, List.mem_map.2 ⟨x, hx, rfl⟩, by simp [toS, h1, h2]⟩
/-- A list of pairs that is a matching. -/
structure MatL (g : Gr) (L : List SP) : Prop where
  edge : ∀ p ∈ L, ∃ x ∈ g.es, x.r = p.f0 ∧ x.c = p.f1
  rise : ∀ (j : Nat) p q, L[j]? = some p → L[j + 1]? = some q → p.f0 < q.f0
  cols : ∀ (i j : Nat) p q, i < j → L[i]? = some p → L[j]? = some q → p.f1 ≠ q.f1
theorem matchB_iff (g : Gr) (L : List SP) : matchB g L = true ↔ MatL g L := by
  unfold matchB
  rw [List.all_eq_true]
  constructor
  · intro h
    have key : ∀ (j : Nat) p, L[j]? = some p → okAt (g.es.map toS) L j = true := fun j p hj => h j (by simpa using (List.getElem?_eq_some_iff.1 hj).1)
    refine ⟨fun p hp => ?_, fun j p q hp hq => ?_, fun i j p q hij hp hq => ?_⟩
    · obtain ⟨j, hj⟩ := List.getElem?_of_mem hp
      have := key j p hj
      unfold okAt at this
      rw [hj] at this
      simp only [Bool.and_eq_true] at this
      exact (hasE_iff g _ _).1 this.1.1
    · have := key (j + 1) q hq
      unfold okAt at this
      rw [hq] at this
      simp only [hp, Bool.and_eq_true] at this
      simpa using this.1.2
    · have := key j q hq
      unfold okAt at this
      rw [hq] at this
      simp only [Bool.and_eq_true, List.all_eq_true] at this
      have h2 := this.2 i (by simpa using hij)
      rw [hp] at h2
      simpa using h2
  · intro h j hj
    have hj' : j < L.length := by simpa using hj
    unfold okAt
    rw [List.getElem?_eq_getElem hj']
    simp only [Bool.and_eq_true, List.all_eq_true]
    refine ⟨⟨(hasE_iff g _ _).2 (h.edge _ (List.getElem_mem hj')), ?_⟩, fun q hq => ?_⟩
    · cases j with
      | zero => rfl
      | succ m =>
        simp only [List.getElem?_eq_getElem (show m < L.length by omega)]
        simpa using h.rise m _ _ (List.getElem?_eq_getElem (by omega)) (List.getElem?_eq_getElem hj')
    · have hq' : q < j := by simpa using hq
      rw [List.getElem?_eq_getElem (show q < L.length by omega)]
      simpa using h.cols q j _ _ hq' (List.getElem?_eq_getElem (by omega)) (List.getElem?_eq_getElem hj')
theorem most_mat {g : Gr} (hc : chk g = true) {K : Nat} {f : Nat → Int} {P Q : Nat → Bool} (h : Law19 g K f P Q) : MatL g ((mostAt g g.rows.toNat).l.map toP) := by
  have hmem : ∀ p ∈ (mostAt g g.rows.toNat).l, p.1 < g.rows.toNat ∧ f p.1 = p.2 := fun p hp => by rw [h.pairs] at hp; exact pairs_mem.1 hp
  have hr := pairs_rise g.rows.toNat f
  rw [← h.pairs] at hr
  refine ⟨fun p hp => ?_, fun j p q hp hq => ?_, fun i j p q hij hp hq => ?_⟩
  · obtain ⟨y, hy, rfl⟩ := List.mem_map.1 hp
    obtain ⟨h1, h2⟩ := hmem y hy
    obtain ⟨d, h3, h4, _⟩ := h.mat.edge y.1 (by omega)
    obtain ⟨x, hx, h5, h6⟩ := (eg_iff hc _ _).1 h4
    exact ⟨x, hx, h5, by rw [h6]; show ((d : Nat) : Int) = (y.2 : Int); omega⟩
  · rw [List.getElem?_map] at hp hq
    obtain ⟨y, hy, rfl⟩ := Option.map_eq_some_iff.1 hp
    obtain ⟨z, hz, rfl⟩ := Option.map_eq_some_iff.1 hq
    obtain ⟨b1, e1⟩ := List.getElem?_eq_some_iff.1 hy
    obtain ⟨b2, e2⟩ := List.getElem?_eq_some_iff.1 hz
    have := List.pairwise_iff_getElem.1 hr j (j + 1) b1 b2 (by omega)
    rw [e1, e2] at this
    show (y.1 : Int) < (z.1 : Int)
    omega
  · rw [List.getElem?_map] at hp hq
    obtain ⟨y, hy, rfl⟩ := Option.map_eq_some_iff.1 hp
    obtain ⟨z, hz, rfl⟩ := Option.map_eq_some_iff.1 hq
    obtain ⟨b1, e1⟩ := List.getElem?_eq_some_iff.1 hy
    obtain ⟨b2, e2⟩ := List.getElem?_eq_some_iff.1 hz
    have := List.pairwise_iff_getElem.1 hr i j b1 b2 hij
    rw [e1, e2] at this
    obtain ⟨_, h3⟩ := hmem y (List.mem_of_getElem? hy)
    obtain ⟨_, h4⟩ := hmem z (List.mem_of_getElem? hz)
    intro e
    have e' : (y.2 : Int) = (z.2 : Int) := e
    have := h.mat.one y.1 z.1 (by omega) (by omega)
    omega
end Go.Proofs.Ytjhomkdnhdhffaa.PCoverLeast
