/- CoverLeast: what it asks of the answers, in plain Lean; its walk. -/
import Derived.Test.YtjhomkdnhdhffaaKlLeast
import Derived.Deep.QuietTactic
namespace Go.Proofs.Ytjhomkdnhdhffaa.PCoverLeast
open Go.RowKit Go.ChangeShapes Go.WideShapes Go.Proofs.Ytjhomkdnhdhffaa Go.Proofs.YtjhomkdnhdhffaaW.PrintWords Go.Proofs.YtjhomkdnhdhffaaW.PrintLast Go.Proofs.YtjhomkdnhdhffaaW.PrintMore

/-- The column that a list of pairs gives a row: the last one. -/
def colF (L : List SP) (r : Nat) (d : Int) : Int := L.foldl (fun c p => if p.f0 = (r : Int) then p.f1 else c) d
def colsOf (L : List SP) (R : Nat) (d : Int) : List Int := (List.range R).map fun r => colF L r d
theorem columns_tells (R : Nat) (cols : Int) (es : List SE) (L : List SP) (hL : L.length ≤ 4611686018427387903) (hR : R ≤ 64) : ∃ K, cabstandlaw19_columns.f K (R : Int) cols es L = some (colsOf L R cols) := by
  have inner2 : ∀ (out : List Int) (r : Nat) (res : List Int) (c0 : Int), out.length ≤ 64 → r ≤ 64 → (∃ K, ∀ k, K ≤ k → cabstandlaw19_columns.l0 k L (out ++ [c0]) ((r + 1 : Nat) : Int) (R : Int) cols es = some res) →
      ∀ (d j : Nat) (c : Int), j + d = L.length → (L.drop j).foldl (fun c p => if p.f0 = (r : Int) then p.f1 else c) c = c0 → ∃ K, ∀ k, K ≤ k → cabstandlaw19_columns.l1 k L out (r : Int) c (j : Int) (R : Int) cols es = some res := by
    intro out r res c0 ho hr ⟨K0, h0⟩ d
    induction d with
    | zero =>
      intro j c hj hc
      rw [List.drop_of_length_le (by omega)] at hc
      have hc : c = c0 := hc
      subst hc
      refine ⟨K0 + 1, fun k hk => ?_⟩
      obtain ⟨k, rfl⟩ : ∃ m, k = m + 1 := ⟨k - 1, by omega⟩
      simp only [cabstandlaw19_columns.l1]
      rw [if_neg (by omega), if_pos (by omega), wrap_up r (by omega)]
      exact h0 k (by omega)
    | succ d ih =>
      intro j c hj hc
      rw [List.drop_eq_getElem_cons (show j < L.length by omega), List.foldl_cons] at hc
      obtain ⟨K, hK⟩ := ih (j + 1) _ (by omega) hc
      refine ⟨K + 1, fun k hk => ?_⟩
      obtain ⟨k, rfl⟩ : ∃ m, k = m + 1 := ⟨k - 1, by omega⟩
      simp only [cabstandlaw19_columns.l1]
      have := hK k (by omega)
      rw [if_pos (by omega), if_pos (by omega), rdP_at L j (by omega), wrap_up j (by omega)]
      by_cases e : (L[j]'(by omega)).f0 = (r : Int)
      · rw [if_pos e]; rw [if_pos e] at this; exact this
      · rw [if_neg e]; rw [if_neg e] at this; exact this
  have outer : ∀ (d r : Nat), r + d = R → ∃ K, ∀ k, K ≤ k → cabstandlaw19_columns.l0 k L (colsOf L r cols) (r : Int) (R : Int) cols es = some (colsOf L R cols) := by
    intro d
    induction d with
    | zero =>
      intro r hr
      obtain rfl : r = R := by omega
      refine ⟨1, fun k hk => ?_⟩
      obtain ⟨k, rfl⟩ : ∃ m, k = m + 1 := ⟨k - 1, by omega⟩
      simp only [cabstandlaw19_columns.l0]
      rw [if_neg (by omega)]
    | succ d ih =>
      intro r hr
      have h1 := ih (r + 1) (by omega)
      have e : colsOf L (r + 1) cols = colsOf L r cols ++ [colF L r cols] := by
        unfold colsOf
        rw [List.range_succ, List.map_append]; rfl
      rw [e] at h1
      obtain ⟨K, hK⟩ := inner2 (colsOf L r cols) r _ (colF L r cols) (by simp [colsOf]; omega) (by omega) h1 L.length 0 cols (by omega) rfl
      refine ⟨K + 1, fun k hk => ?_⟩
      obtain ⟨k, rfl⟩ : ∃ m, k = m + 1 := ⟨k - 1, by omega⟩
      simp only [cabstandlaw19_columns.l0]
      rw [if_pos (by omega)]
      exact hK k (by omega)
  obtain ⟨K, hK⟩ := outer R 0 (by omega)
  refine ⟨K, ?_⟩
  unfold cabstandlaw19_columns.f
  exact hK K (Nat.le_refl _)

theorem colF_snoc (L : List SP) (p : SP) (r : Nat) (d : Int) : colF (L ++ [p]) r d = if p.f0 = (r : Int) then p.f1 else colF L r d := by
  unfold colF
  rw [List.foldl_append]; rfl
/-- A list of pairs has for a row its pair's column, or none. -/
theorem colF_tells (r : Nat) (d : Int) : ∀ L : List SP, (∃ p ∈ L, p.f0 = (r : Int) ∧ colF L r d = p.f1) ∨ ((∀ p ∈ L, p.f0 ≠ (r : Int)) ∧ colF L r d = d) := by
  intro L
  have key : ∀ (n : Nat) (L : List SP), L.length = n → (∃ p ∈ L, p.f0 = (r : Int) ∧ colF L r d = p.f1) ∨ ((∀ p ∈ L, p.f0 ≠ (r : Int)) ∧ colF L r d = d) := by
    intro n
    induction n with
    | zero => intro L hL; rw [List.length_eq_zero_iff.1 hL]; exact .inr ⟨by simp, rfl⟩
    | succ n ih =>
      intro L hL
      have hne : L ≠ [] := by intro e; rw [e] at hL; simp at hL
      obtain ⟨M, p, rfl⟩ : ∃ M p, L = M ++ [p] := ⟨L.dropLast, L.getLast hne, (List.dropLast_concat_getLast hne).symm⟩
      rw [colF_snoc]
      by_cases e : p.f0 = (r : Int)
      · rw [if_pos e]; exact .inl ⟨p, by simp, e, rfl⟩
      · rw [if_neg e]
        rcases ih M (by simpa using hL) with ⟨q, hq, h1, h2⟩ | ⟨h1, h2⟩
        · exact .inl ⟨q, by simp [hq], h1, h2⟩
        · refine .inr ⟨fun q hq => ?_, h2⟩
          rcases List.mem_append.1 hq with hq | hq
          · exact h1 q hq
          · rw [List.mem_singleton.1 hq]; exact e
  exact key _ L rfl
/-- The matching that a list of pairs is. -/
def matF (L : List SP) (r : Nat) : Int := colF L r (-1)
section
variable {g : Gr} {L : List SP}
theorem MatL.nat (hc : chk g = true) (h : MatL g L) {p : SP} (hp : p ∈ L) : ∃ r c : Nat, p.f0 = r ∧ p.f1 = c ∧ r < g.rows.toNat ∧ c < g.cols.toNat ∧ Eg (toOf g.es) r c := by
  obtain ⟨x, hx, h1, h2⟩ := h.edge p hp
  obtain ⟨r, c, h3, h4, h5, h6, _⟩ := edge_ok hc hx
  exact ⟨r, c, by omega, by omega, by omega, by omega, (eg_iff hc r c).2 ⟨x, hx, h3, h4⟩⟩
theorem MatL.rises (h : MatL g L) : ∀ (j i : Nat) p q, i < j → L[i]? = some p → L[j]? = some q → p.f0 < q.f0
  | 0, _, _, _, hij, _, _ => by omega
  | j + 1, i, p, q, hij, hp, hq => by
    obtain ⟨hl, _⟩ := List.getElem?_eq_some_iff.1 hq
    have hm : L[j]? = some L[j] := List.getElem?_eq_getElem (by omega)
    have h1 := h.rise j _ q hm hq
    by_cases e : i = j
    · subst e; rw [hm] at hp; cases hp; exact h1
    · have := h.rises j i p _ (by omega) hp hm
      omega
theorem MatL.one (h : MatL g L) {p q : SP} (hp : p ∈ L) (hq : q ∈ L) (e : p.f0 = q.f0) : p = q := by
  obtain ⟨i, hi⟩ := List.getElem?_of_mem hp
  obtain ⟨j, hj⟩ := List.getElem?_of_mem hq
  rcases Nat.lt_trichotomy i j with h1 | h1 | h1
  · have := h.rises j i p q h1 hi hj; omega
  · subst h1; rw [hi] at hj; exact Option.some.inj hj
  · have := h.rises i j q p h1 hj hi; omega
theorem MatL.at (hc : chk g = true) (h : MatL g L) (r : Nat) (d : Int) : (matF L r < 0 ∧ colF L r d = d ∧ ∀ p ∈ L, p.f0 ≠ (r : Int)) ∨ (0 ≤ matF L r ∧ colF L r d = matF L r ∧ ∃ p ∈ L, p.f0 = (r : Int) ∧ p.f1 = matF L r) := by
  rcases colF_tells r (-1) L with ⟨p, hp, h1, h2⟩ | ⟨h1, h2⟩
  · right
    obtain ⟨r', c', h3, h4, _⟩ := h.nat hc hp
    have hm : matF L r = p.f1 := h2
    refine ⟨by rw [hm, h4]; omega, ?_, p, hp, h1, hm.symm⟩
    rcases colF_tells r d L with ⟨q, hq, h5, h6⟩ | ⟨h5, _⟩
    · rw [h6, hm, h.one hq hp (by rw [h5, h1])]
    · exact absurd h1 (h5 p hp)
  · left
    have hm : matF L r = -1 := h2
    refine ⟨by omega, ?_, h1⟩
    rcases colF_tells r d L with ⟨q, hq, h5, _⟩ | ⟨_, h6⟩
    · exact absurd h5 (h1 q hq)
    · exact h6
theorem MatL.isMat (hc : chk g = true) (h : MatL g L) : IsMat (Eg (toOf g.es)) (fun _ => true) (fun _ => true) (matF L) := by
  have key : ∀ r, 0 ≤ matF L r → ∃ p ∈ L, p.f0 = (r : Int) ∧ p.f1 = matF L r := fun r hr => by
    rcases h.at hc r 0 with ⟨h1, _⟩ | ⟨_, _, h2⟩
    · omega
    · exact h2
  refine ⟨fun r hr => ?_, fun _ _ => rfl, fun r s hr e => ?_⟩
  · obtain ⟨p, hp, h1, h2⟩ := key r hr
    obtain ⟨r', c', h3, h4, _, _, h5⟩ := h.nat hc hp
    obtain rfl : r' = r := by omega
    exact ⟨c', by omega, h5, rfl⟩
  · obtain ⟨p, hp, h1, h2⟩ := key r hr
    obtain ⟨q, hq, h3, h4⟩ := key s (by omega)
    obtain ⟨i, hi⟩ := List.getElem?_of_mem hp
    obtain ⟨j, hj⟩ := List.getElem?_of_mem hq
    rcases Nat.lt_trichotomy i j with h5 | h5 | h5
    · exact absurd (by omega) (h.cols i j p q h5 hi hj)
    · subst h5; rw [hi] at hj; cases hj; omega
    · exact absurd (by omega) (h.cols j i q p h5 hj hi)
theorem cnt_all (n : Nat) : cnt (fun _ => true) n = n := by
  induction n with
  | zero => rfl
  | succ n ih => rw [cnt_succ, ih]; rfl
theorem MatL.num (hc : chk g = true) (h : MatL g L) : cnt (hasP (matF L)) 64 = L.length := by
  have hsz := chk_size hc
  apply Nat.le_antisymm
  · have hx : ∀ r, ∃ i, 0 ≤ matF L r → i < L.length ∧ ∃ p, L[i]? = some p ∧ p.f0 = (r : Int) := by
      intro r
      by_cases hr : 0 ≤ matF L r
      · rcases h.at hc r 0 with ⟨h1, _⟩ | ⟨_, _, p, hp, h2, _⟩
        · omega
        · obtain ⟨i, hi⟩ := List.getElem?_of_mem hp
          exact ⟨i, fun _ => ⟨(List.getElem?_eq_some_iff.1 hi).1, p, hi, h2⟩⟩
      · exact ⟨0, fun h => absurd h hr⟩
    have hF := Classical.axiomOfChoice hx
    obtain ⟨F, hF⟩ := hF
    have := cnt_inj 64 (hasP (matF L)) (fun _ => true) L.length F (fun r _ hr => ⟨(hF r (by simpa [hasP] using hr)).1, rfl⟩) (fun r s _ _ hr hs e => by
      obtain ⟨_, p, h1, h2⟩ := hF r (by simpa [hasP] using hr)
      obtain ⟨_, q, h3, h4⟩ := hF s (by simpa [hasP] using hs)
      rw [e] at h1
      rw [h1] at h3
      cases h3
      omega)
    rwa [cnt_all] at this
  · have := cnt_inj L.length (fun _ => true) (hasP (matF L)) 64 (fun i => ((L[i]?.map fun p => p.f0.toNat).getD 0)) (fun i hi _ => by
      have hp : L[i]? = some L[i] := List.getElem?_eq_getElem hi
      obtain ⟨r, c, h1, h2, h3, _⟩ := h.nat hc (List.mem_of_getElem? hp)
      simp only [hp, Option.map_some, Option.getD_some, h1, Int.toNat_natCast]
      refine ⟨by omega, ?_⟩
      rcases h.at hc r 0 with ⟨_, _, h4⟩ | ⟨h4, _⟩
      · exact absurd h1 (h4 _ (List.mem_of_getElem? hp))
      · simpa [hasP] using h4) (fun i j hi hj _ _ e => by
      have hp : L[i]? = some L[i] := List.getElem?_eq_getElem hi
      have hq : L[j]? = some L[j] := List.getElem?_eq_getElem hj
      obtain ⟨r, _, h1, _⟩ := h.nat hc (List.mem_of_getElem? hp)
      obtain ⟨s, _, h2, _⟩ := h.nat hc (List.mem_of_getElem? hq)
      simp only [hp, hq, Option.map_some, Option.getD_some, h1, h2, Int.toNat_natCast] at e
      rcases Nat.lt_trichotomy i j with h5 | h5 | h5
      · have := h.rises j i _ _ h5 hp hq; omega
      · exact h5
      · have := h.rises i j _ _ h5 hq hp; omega)
    rwa [cnt_all] at this
end
/-- What the law asks of any other matching. -/
structure Lea (g : Gr) (O : List SP) : Prop where
  le : O.length ≤ ((mostAt g g.rows.toNat).l.map toP).length
  lex : O.length = ((mostAt g g.rows.toNat).l.map toP).length → ∀ k, k < g.rows.toNat → (∀ x, x < k → colF ((mostAt g g.rows.toNat).l.map toP) x g.cols = colF O x g.cols) → ¬ (colF ((mostAt g g.rows.toNat).l.map toP) k g.cols > colF O k g.cols)
  edges : O.length = ((mostAt g g.rows.toNat).l.map toP).length → ∀ x ∈ g.es, colF O x.r.toNat g.cols = g.cols → x.c ∈ nats (coverCols g)
  rows : O.length = ((mostAt g g.rows.toNat).l.map toP).length → ∀ r : Nat, r < g.rows.toNat → colF O r g.cols = g.cols → (r : Int) ∉ nats (coverRows g)
theorem mem_nats' (p : Nat → Bool) (n : Nat) (x : Nat) : ((x : Int) ∈ nats ((List.range n).filter p)) ↔ x < n ∧ p x = true := by
  unfold nats
  rw [List.mem_map]
  constructor
  · rintro ⟨y, hy, e⟩
    have e' : y = x := Int.ofNat.inj e
    subst e'
    simpa using hy
  · rintro ⟨h1, h2⟩
    exact ⟨x, by simp [h1, h2], rfl⟩
theorem lea_all {g : Gr} (hc : chk g = true) {O : List SP} (ho : MatL g O) : Lea g O := by
  obtain ⟨K, f, P, Q, h⟩ := law19 hc
  have hm := most_mat hc h
  have hsmall : Small (Eg (toOf g.es)) := fun x c he => Eg.lt (toOf_ok hc) he
  have hsz := chk_size hc
  have hcol : ∀ x, matF O x ≤ g.cols := fun x => by
    rcases ho.at hc x 0 with ⟨h1, _⟩ | ⟨_, _, p, hp, _, h2⟩
    · omega
    · obtain ⟨_, c, _, h3, _, h4, _⟩ := ho.nat hc hp
      omega
  have hlt : ∀ x, 0 ≤ matF O x → matF O x < g.cols := fun x hx => by
    rcases ho.at hc x 0 with ⟨h1, _⟩ | ⟨_, _, p, hp, _, h2⟩
    · omega
    · obtain ⟨_, c, _, h3, _, h4, _⟩ := ho.nat hc hp
      omega
  -- what Most tells, as a function of the rows
  have hfm : ∀ x, x < g.rows.toNat → (f x < 0 ↔ matF ((mostAt g g.rows.toNat).l.map toP) x < 0) ∧ (0 ≤ f x → matF ((mostAt g g.rows.toNat).l.map toP) x = f x) := by
    intro x hx
    have hmem : ∀ p, p ∈ (mostAt g g.rows.toNat).l ↔ p.1 < g.rows.toNat ∧ f p.1 = p.2 := fun p => by rw [h.pairs]; exact pairs_mem
    rcases hm.at hc x 0 with ⟨h1, _, h2⟩ | ⟨h1, _, p, hp, h2, h3⟩
    · refine ⟨⟨fun _ => h1, fun _ => ?_⟩, fun hf => ?_⟩
      · refine Classical.byContradiction fun hn => ?_
        obtain ⟨c, h4, _⟩ := h.mat.edge x (by omega)
        exact h2 (toP (x, c)) (List.mem_map.2 ⟨(x, c), (hmem _).2 ⟨hx, h4⟩, rfl⟩) rfl
      · obtain ⟨c, h4, _⟩ := h.mat.edge x hf
        exact absurd rfl (h2 (toP (x, c)) (List.mem_map.2 ⟨(x, c), (hmem _).2 ⟨hx, h4⟩, rfl⟩))
    · obtain ⟨y, hy, rfl⟩ := List.mem_map.1 hp
      obtain ⟨h4, h5⟩ := (hmem y).1 hy
      have h6 : (y.1 : Int) = (x : Int) := h2
      have h7 : y.1 = x := by omega
      have h8 : (y.2 : Int) = matF ((mostAt g g.rows.toNat).l.map toP) x := h3
      rw [h7] at h5
      exact ⟨⟨fun _ => by omega, fun _ => by omega⟩, fun _ => by omega⟩
  have hnum := hm.num hc
  have hfn : cnt (hasP f) 64 = cnt (hasP (matF ((mostAt g g.rows.toNat).l.map toP))) 64 := by
    refine cnt_congr fun x _ => ?_
    by_cases hx : x < g.rows.toNat
    · have := (hfm x hx).1
      simp only [hasP]
      congr 1
      rw [eq_iff_iff]
      omega
    · have h1 : f x < 0 := by
        refine Classical.byContradiction fun hn => ?_
        obtain ⟨c, _, he, _⟩ := h.mat.edge x (by omega)
        exact hx (eg_lt hc he).1
      have h2 : matF ((mostAt g g.rows.toNat).l.map toP) x < 0 := by
        refine Classical.byContradiction fun hn => ?_
        obtain ⟨c, _, he, _⟩ := (hm.isMat hc).edge x (by omega)
        exact hx (eg_lt hc he).1
      simp only [hasP]
      congr 1
      rw [eq_iff_iff]
      omega
  have hKL : ((mostAt g g.rows.toNat).l.map toP).length = K := by rw [← hnum, ← hfn, h.num]
  have hom := ho.isMat hc
  have hon := ho.num hc
  have slk := fun (e : O.length = ((mostAt g g.rows.toNat).l.map toP).length) => slack hsmall hom h.cov (by rw [h.cnum, hon, e, hKL]; exact Nat.le_refl _)
  have hval : ∀ (M : List SP), MatL g M → ∀ x, colF M x g.cols = g.cols → matF M x ≤ g.cols → (0 ≤ matF M x → matF M x < g.cols) → matF M x < 0 := by
    intro M hM x e _ hl
    rcases hM.at hc x g.cols with ⟨h1, _⟩ | ⟨h1, h2, _⟩
    · exact h1
    · have := hl h1; omega
  refine ⟨by rw [hKL, ← hon]; exact h.max _ hom, fun e k hk hpre hgt => ?_, fun e x hx hb => ?_, fun e r hr hb => ?_⟩
  · have hal : ∀ x, x < k → Alike (matF O x) (f x) := by
      intro x hx hor
      have h1 := hpre x hx
      obtain ⟨a1, a2⟩ := hfm x (by omega)
      rcases ho.at hc x g.cols with ⟨b1, b2, _⟩ | ⟨b1, b2, _⟩
      · have h3 : 0 ≤ f x := by omega
        rcases hm.at hc x g.cols with ⟨c1, _⟩ | ⟨c1, c2, p, hp, _, c3⟩
        · omega
        · obtain ⟨_, c, _, d3, _, d4, _⟩ := hm.nat hc hp
          omega
      · have := hlt x b1
        rcases hm.at hc x g.cols with ⟨c1, c2, _⟩ | ⟨c1, c2, _⟩
        · omega
        · have : 0 ≤ f x := by omega
          have := a2 this
          omega
    have hpos : 0 ≤ matF O k := by
      refine Classical.byContradiction fun hn => ?_
      rcases ho.at hc k g.cols with ⟨b1, b2, _⟩ | ⟨b1, _⟩
      · rcases hm.at hc k g.cols with ⟨c1, c2, _⟩ | ⟨c1, c2, p, hp, _, c3⟩
        · omega
        · obtain ⟨_, c, _, d3, _, d4, _⟩ := hm.nat hc hp
          omega
      · omega
    have hL := h.lex k hk (matF O) hom (by rw [hon, e, hKL]; exact Nat.le_refl _) hal hpos
    have h5 := (hfm k hk).2 hL.1
    rcases hm.at hc k g.cols with ⟨c1, _⟩ | ⟨c1, c2, _⟩
    · have := ((hfm k hk).1.2 c1); omega
    · rcases ho.at hc k g.cols with ⟨b1, _⟩ | ⟨b1, b2, _⟩
      · omega
      · omega
  · obtain ⟨r, c, h1, h2, h3, h4, _⟩ := edge_ok hc hx
    have he : Eg (toOf g.es) r c := (eg_iff hc r c).2 ⟨x, hx, h1, h2⟩
    rw [h1, Int.toNat_natCast] at hb
    have hneg := hval O ho r hb (hcol r) (hlt r)
    have hP : P r = false := by
      cases hp : P r
      · rfl
      · have := (slk e).1 r (by omega) hp; omega
    rw [h.cols, h2]
    exact (mem_nats' _ _ _).2 ⟨by omega, h.closed r c (by omega) hP he⟩
  · have hneg := hval O ho r hb (hcol r) (hlt r)
    rw [h.rows]
    intro hin
    have := (slk e).1 r (by omega) ((mem_nats' _ _ _).1 hin).2
    omega

/-! ### Lists of pairs, as an argument and in memory -/
def pairC (p : SP) : Array Value := #[.int .i64 p.f0, .int .i64 p.f1]
def PrOk (p : SP) : Prop := I64 p.f0 ∧ I64 p.f1
structure PairsOk (l : List SP) (cap : Nat) : Prop where
  len : l.length ≤ cap
  cap : cap ≤ 9223372036854775807
instance : Inhabited SP := ⟨⟨0, 0⟩⟩
section
variable {H : Type} {enc : TypeId × Value → H} {w : World} {base : Nat} {spare : Nat → Bool} {held : Bool}
theorem two {c : List Value} {a0 a1 : Value} (hc : c.length = 2) (h0 : (c.drop 0).take 1 = [a0]) (h1 : (c.drop 1).take 1 = [a1]) : c = [a0, a1] := by
  match c, hc with
  | [x, y], _ => simp_all
theorem trod_pair (n : Nat) (c : List Value) (y : DataW H × List MemPlace) (hc : c.length = 2) (h : DataW.trod enc Try.prog w base spare held n 42 c = some y) : ∃ z : SP, PrOk z ∧ c.toArray = pairC z := by
  obtain ⟨xs, m, _, _, _, hx, hf⟩ := DataW.trod_struct Try.underlying42 h
  have h3 : xs.length = 2 := hx
  have f0 := field_at (Q := fun i t o => DataW.trod enc Try.prog w base spare held m t ((c.drop o).take (Try.prog.cellsOf t)) = xs[i]?) hf 0 3 0 rfl
  have f1 := field_at (Q := fun i t o => DataW.trod enc Try.prog w base spare held m t ((c.drop o).take (Try.prog.cellsOf t)) = xs[i]?) hf 1 3 1 rfl
  have hs : Try.prog.cellsOf 3 = 1 := by kernel_rfl
  rw [hs] at f0 f1
  obtain ⟨a0, q0, _, w0⟩ := DataW.trod_int Try.underlying3 (f0.trans (List.getElem?_eq_getElem (by omega)))
  obtain ⟨a1, q1, _, w1⟩ := DataW.trod_int Try.underlying3 (f1.trans (List.getElem?_eq_getElem (by omega)))
  refine ⟨⟨a0, a1⟩, ⟨bounds_i64 w0, bounds_i64 w1⟩, ?_⟩
  rw [two hc q0 q1]; rfl
theorem open_pairs {r : Reach} {b0 : Nat} {v : Value} {d : DataW H} {ps : List MemPlace} {ts : List TypeId} {ds : List (DataW H)} {j : Nat} (hsz : (DataW.weightsEach Try.prog ts ds).all (· ≤ reachBytes) = true) (htj : ts[j]? = some 31) (hdj : ds[j]? = some d)
    (hval : Value.okWide Try.prog w r b0 31 v) (h : DataW.Trod enc Try.prog w base spare held 31 v d ps) :
    ∃ x : List SP × Option Addr × Nat, (PairsOk x.1 x.2.2 ∧ RowsAt 2 pairC w x.2.1 x.1 ∧ x.1.length * 16 ≤ 140737488351232) ∧ v = .slice x.2.1 x.1.length x.2.2 := by
  obtain ⟨a, len, cap, rfl⟩ := okWide_slice Try.underlying31 hval
  obtain ⟨fuel, hf⟩ := h
  obtain ⟨a', cap', l, hcs, hrows, hok, hle, hcap⟩ := open_rows (α := SP) (s := 2) (f := pairC) (R := PrOk) Try.underlying31 (by kernel_rfl) (by omega) trod_pair hf
  simp [Value.cells] at hcs
  obtain ⟨rfl, rfl, rfl⟩ := hcs
  refine ⟨(l, a, cap), ⟨⟨hle, hcap⟩, hrows, ?_⟩, rfl⟩
  rcases Go.Deep.open_slice Try.underlying31 hf with ⟨h1, _⟩ | ⟨a2, len2, cap2, m, n, D, Pl, h1, _, h2, _, hm, hx, _⟩
  · simp [Value.cells] at h1
    obtain ⟨_, h1, _⟩ := h1
    show l.length * 16 ≤ _
    rw [h1]; simp
  · simp [Value.cells] at h1
    obtain ⟨_, rfl, rfl⟩ := h1
    obtain ⟨hx, _⟩ := Prod.mk.inj hx
    rw [hx] at hdj
    have z := sized_slice hsz htj hdj Try.underlying31
    have hB : Try.prog.bytesOf 42 = 16 := by kernel_rfl
    rw [hB] at z
    simp only [List.length_map, List.length_range] at z
    have hlm : l.length ≤ m := by rw [hm]; split <;> omega
    have : l.length * 16 ≤ (l.length + (m - l.length)) * 16 := Nat.mul_le_mul_right _ (by omega)
    exact Nat.le_trans this z
end
theorem C_of_pairs {w : World} {a : Option Addr} {l : List SP} (h : RowsAt 2 pairC w a l) (hl : l.length ≤ 9223372036854775807) : Kd.C kP w a l.length l := by
  refine ⟨rfl, hl, fun hpos => ?_⟩
  rcases h with rfl | ⟨g, o, rfl, hg, hr⟩
  · simp at hpos
  · refine ⟨_, rfl, fun j p hj => ⟨[.int .i64 p.f0, .int .i64 p.f1], rfl, k42_mk w p, fun i u hi => ?_⟩⟩
    rw [add_at]
    have := hr j p hj i u (by simpa [pairC] using hi)
    rw [show o + (j * kP.sz + i) = o + 2 * j + i by rw [show kP.sz = 2 from rfl]; omega]
    exact this
/-- A list of integers of the call's own: where it lies. -/
theorem ints_at {w : World} {a : Option Addr} {n : Nat} {l : List Int} (h : Kd.C (Kd.int .i64) w a n l) {k : Nat} {x : Int} (hk : l[k]? = some x) : ∃ g o, a = some ⟨g, o, none⟩ ∧ ∀ (j : Nat) y, l[j]? = some y → w.cell? ⟨g, o + j, none⟩ = some (.int .i64 y) := by
  obtain ⟨h1, h2, h3⟩ := h
  have hlt := (List.getElem?_eq_some_iff.1 hk).1
  obtain ⟨ad, rfl, hc⟩ := h3 (by omega)
  have key : ∀ (j : Nat) y, l[j]? = some y → w.cell? (ad.add j) = some (.int .i64 y) := by
    intro j y hj
    obtain ⟨c, hc1, hc2, hc3⟩ := hc j y hj
    obtain rfl : c = [Value.int .i64 y] := hc2
    have := hc3 0 _ rfl
    rwa [show j * (Kd.int .i64).sz + 0 = j by rw [show (Kd.int .i64).sz = 1 from rfl]; omega] at this
  obtain ⟨g, o, spot⟩ := ad
  have h0 := key 0 (l[0]'(by omega)) (List.getElem?_eq_getElem _)
  have hspot : spot = none := by simpa [Addr.add] using World.cell?_spot h0
  subst hspot
  exact ⟨g, o, rfl, fun j y hj => by have := key j y hj; rwa [add_at] at this⟩
theorem colsOf_get (L : List SP) (R : Nat) (d : Int) {k : Nat} (hk : k < R) : (colsOf L R d)[k]? = some (colF L k d) := by
  unfold colsOf
  rw [List.getElem?_map, List.getElem?_range hk]; rfl
theorem columns_any (g : Gr) (a : Option Addr) (cap : Nat) (hok : GrOk g cap) (hc : chk g = true) (R : Nat) (hR : g.rows = (R : Int)) (L : List SP) (A : Option Addr) (c : Nat) (hL : L.length ≤ 4611686018427387903) (w : World) (hr : RowsAt 3 edV w a g.es) (hes : g.es.length ≤ 1048576) (hC : Kd.C kP w A L.length L) (hcl : L.length ≤ c) :
    Calls Try.prog 17 #[grV g a cap, .slice A L.length c] w fun e w' => ∃ A' c', e = .returned (.slice A' R c') ∧ Kd.C (Kd.int .i64) w' A' R (colsOf L R g.cols) ∧ Below w.heap.size w w' := by
  have hsz := chk_size hc
  obtain ⟨K, hK⟩ := columns_tells R g.cols (g.es.map toS) L hL (by omega)
  rw [← hR] at hK
  have := cabstandlaw19_columns.calls K g.rows g.cols a cap (g.es.map toS) A c L _ w (C_of_rows hr (by omega)) (by rw [List.length_map]; exact hok.len) hC hcl hK
  rw [List.length_map] at this
  refine this.mono ?_
  rintro e w' ⟨v, rfl, hv, hb⟩
  obtain ⟨A', c', rfl, _, h1⟩ := Kd.R_reads hv
  have hlen : (colsOf L R g.cols).length = R := by simp [colsOf]
  rw [hlen] at h1 ⊢
  exact ⟨A', c', rfl, h1, hb⟩

theorem twin_ok {g : Gr} {cap : Nat} (h : GrOk g cap) (hl : g.es.length ≤ 1048576) : GrOk g (g.es.length + 1) := ⟨h.rows, h.cols, h.es, by omega, by omega⟩
/-- The walk's state: the two graphs in memory, the two lists of pairs. -/
structure KAt (w wr : World) (g : Gr) (a : Option Addr) (cap bt gt : Nat) (L1 O : List SP) (A1 b : Option Addr) : Prop where
  box : wr.heap[w.heap.size]? = some (.cells #[.int .i64 g.rows, .int .i64 g.cols, .slice a g.es.length cap] 24 (0, 0))
  bt : wr.heap[bt]? = some (.cells #[.int .i64 g.rows, .int .i64 g.cols, .slice (some ⟨gt, 0, none⟩) g.es.length (g.es.length + 1)] 24 (0, 0))
  et : EdsAt wr gt (g.es ++ [markEd])
  c1 : Kd.C kP wr A1 L1.length L1
  c2 : Kd.C kP wr b O.length O
  below : Below w.heap.size w wr
theorem KAt.next {w wr w2 : World} {g : Gr} {a : Option Addr} {cap bt gt : Nat} {L1 O : List SP} {A1 b : Option Addr} (h : KAt w wr g a cap bt gt L1 O A1 b) (hb : Below wr.heap.size wr w2) : KAt w w2 g a cap bt gt L1 O A1 b :=
  ⟨below_keep hb h.box, below_keep hb h.bt, below_keep hb h.et, Kd.C_below h.c1 hb, Kd.C_below h.c2 hb, h.below.trans (hb.mono h.below.size)⟩
theorem below_dn (w : World) (m : Nat) : Below w.heap.size w (w.drewN m) := ⟨rfl, rfl, rfl, Nat.le_refl _, fun _ _ => rfl⟩
set_option maxRecDepth 100000 in
set_option maxHeartbeats 20000000 in
theorem least_any (g : Gr) (a : Option Addr) (cap : Nat) (hok : GrOk g cap) (O : List SP) (b : Option Addr) (c2 : Nat) (hOk : PairsOk O c2) (hsz : O.length * 16 ≤ 140737488351232) (w : World) (hr : RowsAt 3 edV w a g.es) (hro : RowsAt 2 pairC w b O) :
    Calls Try.prog 4 #[grV g a cap, .slice b O.length c2] w fun e w' => e = .returned (.bool true) ∧ Below w.heap.size w w' := by
  have HOK := hid hok
  have HR := hid hr
  have HSZ := hid hsz
  have HCO := hid (C_of_pairs hro (by omega))
  have HOC := hid hOk.len
  have HLN : Hid (g.es.length ≤ 9223372036854775807) := hid (by have := hok.len; have := hok.cap; omega)
  clear hok hr hro hsz hOk
  unfold grV at *
  go_enter Try.func4, Try.ntmps4
  go_wp2_with fail
  refine (alive_any _).mono ?_
  rintro e w1 ⟨rfl, hb1⟩
  have HG := hid (below_keep hb1 (heap_alloc_new _ _))
  have HB : Hid (Below w.heap.size w w1) := hid (((Below.refl _ _).alloc (Nat.le_refl _) _).trans (hb1.mono (by simp)))
  clear hb1
  have cg := row_cell HG.out 2 _ rfl
  go_wp2_with fail
  clear cg
  have HN := C_new_ints w1 [(g.es.length : Int), (O.length : Int)] (by simp)
  have hbn : Below w1.heap.size w1 (w1.alloc (.cells (intV [(g.es.length : Int), (O.length : Int)]).toArray 3)) := (Below.refl _ _).alloc (Nat.le_refl _) _
  refine (cabstandlaw01_Beyond.calls 3 (some ⟨w1.heap.size, 0, none⟩) 2 [(g.es.length : Int), (O.length : Int)] _ _ HN (Nat.le_refl _) (beyond_two _ _ (by omega) (by have := HLN.out; omega) (by omega) (by have := HSZ.out; omega))).mono ?_
  rintro e w2 ⟨rfl, hd2⟩
  have hb2 := hbn.trans (hd2.below.mono hbn.size)
  have HG := hid (below_keep hb2 HG.out)
  have HB := hid (HB.out.trans (hb2.mono HB.out.size))
  clear HN hbn hd2 hb2
  by_cases hbey : (g.es.length : Int) + (O.length : Int) > 1048576
  · rw [decide_eq_true hbey]
    have HX := hid hbey
    clear hbey
    go_wp2_with fail
    refine (alive_any _).mono ?_
    rintro e w3 ⟨rfl, hb3⟩
    have HB := hid (HB.out.trans (hb3.mono HB.out.size))
    clear hb3
    go_wp2
    go_ret
    exact ⟨rfl, HB.out⟩
  · rw [decide_eq_false hbey]
    have hlen : g.es.length ≤ 1048576 := by omega
    have hlo : O.length ≤ 1048576 := by omega
    clear hbey
    go_wp2_with (refine wpList_load_w rfl 24 _ rfl _ rfl _ _ _ _ (HG.out) Try.underlying24 rfl (info_gr) ?_)
    refine (twinGraph_any g a cap hlen _ (HR.out.kept HB.out)).mono ?_
    rintro e w3 ⟨gt, rfl, hgt, het, hb3⟩
    have HG3 := hid (alloc_keep (below_keep hb3 HG.out) (.cells #[.int .i64 g.rows, .int .i64 g.cols, .slice (some ⟨gt, 0, none⟩) g.es.length (g.es.length + 1)] 24))
    have HT3 := hid (heap_alloc_new w3 (.cells #[.int .i64 g.rows, .int .i64 g.cols, .slice (some ⟨gt, 0, none⟩) g.es.length (g.es.length + 1)] 24))
    have HET3 : Hid (EdsAt (w3.alloc (.cells #[.int .i64 g.rows, .int .i64 g.cols, .slice (some ⟨gt, 0, none⟩) g.es.length (g.es.length + 1)] 24)) gt (g.es ++ [markEd])) := hid (alloc_keep het _)
    have hb3' := HB.out.trans (hb3.mono HB.out.size)
    have HB3 := hid (hb3'.alloc hb3'.size (.cells #[.int .i64 g.rows, .int .i64 g.cols, .slice (some ⟨gt, 0, none⟩) g.es.length (g.es.length + 1)] 24))
    clear hgt het hb3 hb3' HG HB
    unfold grV
    go_upto_region 4 with (refine wpList_store_row rfl 24 _ _ rfl _ rfl _ rfl _ _ (heap_alloc_new _ _) rfl (gr_one _ _ _ _ _) info_gr _ (setRow_alloc _ _ _ _) ?_)
    generalize w3.alloc (.cells #[.int .i64 g.rows, .int .i64 g.cols, .slice (some ⟨gt, 0, none⟩) g.es.length (g.es.length + 1)] 24) = w4 at *
    generalize w3.heap.size = bt at *
    have RT : ∀ w2 : World, EdsAt w2 gt (g.es ++ [markEd]) → RowsAt 3 edV w2 (some ⟨gt, 0, none⟩) g.es := fun w2 h => h.rows ⟨_, rfl⟩
    have okT := twin_ok HOK.out hlen
    have CKT := hid (fun w2 h => check_any g _ _ okT w2 (RT w2 h))
    have CMT := hid (fun w2 h => most_any g _ _ okT w2 (RT w2 h))
    have CCT := hid (fun w2 h => cover_any g _ _ okT w2 (RT w2 h))
    have CMA := hid (fun L A c h1 w2 hb h2 h3 => matching_any g a cap HOK.out L A c h1 hlen w2 (HR.out.kept hb) h2 h3)
    clear RT okT
    unfold grV at *
    go_wp2_with (refine wpList_load_w rfl 24 _ rfl _ rfl _ _ _ _ (HT3.out) Try.underlying24 rfl (info_gr) ?_)
    refine (CMT.out _ HET3.out).mono ?_
    rintro e w8 ⟨hb8, ⟨k1, rfl⟩ | ⟨k1, v8, rfl, ho8⟩⟩
    · have HT8 := hid (below_keep hb8 HT3.out)
      have HET8 : Hid (EdsAt w8 gt (g.es ++ [markEd])) := hid (below_keep hb8 HET3.out)
      have HB8 := hid (HB3.out.trans (hb8.mono HB3.out.size))
      have HV1 : Hid (chkV g = 170) := hid (by unfold chkV; rw [k1]; rfl)
      clear hb8 k1
      go_wp2_with (refine wpList_load_w rfl 24 _ rfl _ rfl _ _ _ _ (HT8.out) Try.underlying24 rfl (info_gr) ?_)
      refine (CKT.out _ HET8.out).mono ?_
      rintro e w9 ⟨rfl, hb9⟩
      rw [HV1.out]
      have HB9 := hid (HB8.out.trans (hb9.mono HB8.out.size))
      clear hb9
      go_wp2
      go_ret
      exact ⟨rfl, HB9.out⟩
    · have K1 := hid k1
      obtain ⟨L1, hL1⟩ : ∃ L, L = (mostAt g g.rows.toNat).l.map toP := ⟨_, rfl⟩
      obtain ⟨L2, hL2⟩ : ∃ L, L = nats (coverRows g) := ⟨_, rfl⟩
      obtain ⟨L3, hL3⟩ : ∃ L, L = nats (coverCols g) := ⟨_, rfl⟩
      have hszg := chk_size k1
      obtain ⟨R, hR⟩ := Int.eq_ofNat_of_zero_le hszg.1
      have hR64 : R ≤ 64 := by omega
      have hRt : g.rows.toNat = R := by omega
      have HM1 : Hid (matchB g L1 = true) := hid (by
        obtain ⟨K, f, P, Q, h⟩ := law19 k1
        rw [hL1]; exact (matchB_iff _ _).2 (most_mat k1 h))
      have hn1 : L1.length ≤ 64 := by rw [hL1, List.length_map]; have := mostAt_len g g.rows.toNat; omega
      have hn2 : L2.length ≤ 64 := by rw [hL2, nats_len]; have := rowsTo_len (visOf g g.rows.toNat) g.rows.toNat; unfold coverRows; omega
      have hn3 : L3.length ≤ 64 := by rw [hL3, nats_len]; have := colsTo_len (visOf g g.rows.toNat) g.cols.toNat; unfold coverCols; omega
      have HLEA : Hid (matchB g O = true → Lea g O) := hid (fun h => lea_all k1 ((matchB_iff _ _).1 h))
      obtain ⟨A1, d1, rfl, hl1, hC1⟩ := C_pairs' ho8 hL1
      have HL1 := hid hL1
      have HL2 := hid hL2
      have HL3 := hid hL3
      have HRR := hid hR
      have HRT := hid hRt
      have HW : Hid (KAt w w8 g a cap bt gt L1 O A1 b) := hid ⟨below_keep hb8 HG3.out, below_keep hb8 HT3.out, below_keep hb8 HET3.out, hC1, Kd.C_below HCO.out (HB3.out.trans (hb8.mono HB3.out.size)), HB3.out.trans (hb8.mono HB3.out.size)⟩
      clear ho8 hb8 hC1 hL1 hL2 hL3 hszg hR hRt k1 HG3 HT3 HET3 HB3 HCO CKT CMT HSZ
      go_wp2_with (refine wpList_load_w rfl 24 _ rfl _ rfl _ _ _ _ (HW.out.box) Try.underlying24 rfl (info_gr) ?_)
      refine (CMA.out O b c2 (by omega) _ HW.out.below HW.out.c2 HOC.out).mono ?_
      rintro e w11 ⟨rfl, hb11⟩
      have HW := hid (HW.out.next hb11)
      clear hb11
      by_cases hmo : matchB g O = true
      · rw [hmo]
        have LEA := hid (HLEA.out hmo)
        clear hmo HLEA
        by_cases hne : O.length = L1.length
        · -- L1
          have hb1 : ((O.length : Int) != (L1.length : Int)) = false := by simp; omega
          have hb2 : (O.length != L1.length) = false := by simp; omega
          have HNE := hid hne
          clear hne
          go_wp2_with (refine wpList_load_w rfl 24 _ rfl _ rfl _ _ _ _ (HW.out.box) Try.underlying24 rfl (info_gr) ?_)
          refine (columns_any g a cap HOK.out K1.out R HRR.out L1 A1 d1 (by omega) _ (HR.out.kept HW.out.below) hlen HW.out.c1 hl1).mono ?_
          rintro e w12 ⟨A8, d8, rfl, hc8, hb12⟩
          have HW := hid (HW.out.next hb12)
          have HC8 := hid hc8
          clear hb12 hc8 hb1 hb2
          go_wp2_with (refine wpList_load_w rfl 24 _ rfl _ rfl _ _ _ _ (HW.out.box) Try.underlying24 rfl (info_gr) ?_)
          refine (columns_any g a cap HOK.out K1.out R HRR.out O b c2 (by omega) _ (HR.out.kept HW.out.below) hlen HW.out.c2 HOC.out).mono ?_
          rintro e w13 ⟨A9, d9, rfl, hc9, hb13⟩
          have HW := hid (HW.out.next hb13)
          have HC8 := hid (Kd.C_below HC8.out hb13)
          have HC9 := hid hc9
          clear hb13 hc9
          go_wp2
          go_loopw [10] (fun i wr => ∃ k : Nat, k ≤ R ∧ i = .int .i64 k ∧ Hid (∀ x, x < k → colF L1 x g.cols = colF O x g.cols) ∧ Hid (KAt w wr g a cap bt gt L1 O A1 b) ∧ Hid (Kd.C (Kd.int .i64) wr A8 R (colsOf L1 R g.cols)) ∧ Hid (Kd.C (Kd.int .i64) wr A9 R (colsOf O R g.cols))) (fun i _ => R - (intOf i).toNat)
          case atStart => exact ⟨0, by omega, rfl, hid (fun x hx => by omega), HW, HC8, HC9⟩
          case round =>
            clear HW HC8 HC9
            obtain ⟨k, hk, rfl, HPRE, HW, HC8, HC9⟩ := hrel
            by_cases hlt : k < R
            · have hL8 := colsOf_get L1 R g.cols hlt
              have hL9 := colsOf_get O R g.cols hlt
              obtain ⟨g8, o8, rfl, hat8⟩ := ints_at HC8.out hL8
              obtain ⟨g9, o9, rfl, hat9⟩ := ints_at HC9.out hL9
              have c8 := hat8 k _ hL8
              have c9 := hat9 k _ hL9
              have hki : (k : Int) < (R : Int) := by omega
              clear hat8 hat9 hL8 hL9
              by_cases heq : colF L1 k g.cols = colF O k g.cols
              · have hb : (colF L1 k g.cols == colF O k g.cols) = true := beq_iff_eq.2 heq
                have HPRE2 : Hid (∀ x, x < k + 1 → colF L1 x g.cols = colF O x g.cols) := hid (fun x hx => by
                  by_cases e : x = k
                  · subst e; exact heq
                  · exact HPRE.out x (by omega))
                clear heq
                go_wp2
                go_quiet (fail)
                go_wp2
                go_roundw
                case rel => exact ⟨k + 1, by omega, by go_num, HPRE2, hid (HW.out.next (below_dn _ _)), hid (Kd.C_below HC8.out (below_dn _ _)), hid (Kd.C_below HC9.out (below_dn _ _))⟩
                case measure => simp [intOf]; omega
              · have hb : (colF L1 k g.cols == colF O k g.cols) = false := beq_eq_false_iff_ne.2 heq
                have hgt0 := LEA.out.lex (by rw [← HL1.out]; exact HNE.out) k (by rw [HRT.out]; exact hlt) (by rw [← HL1.out]; exact HPRE.out)
                rw [← HL1.out] at hgt0
                have hgt : decide (colF L1 k g.cols > colF O k g.cols) = false := decide_eq_false hgt0
                have hgt2 : decide (colF O k g.cols < colF L1 k g.cols) = false := hgt
                clear heq hgt0
                go_wp2
                go_quiet (fail)
                go_upto_region 16 with fail
                have HC8K := HC8
                refine at_world (fun w9 => KAt w w9 g a cap bt gt L1 O A1 b ∧ Kd.C (Kd.int .i64) w9 (some ⟨g8, o8, none⟩) R (colsOf L1 R g.cols) ∧ Kd.C (Kd.int .i64) w9 (some ⟨g9, o9, none⟩) R (colsOf O R g.cols)) _ rfl ⟨HW.out.next (below_dn _ _), Kd.C_below HC8.out (below_dn _ _), Kd.C_below HC9.out (below_dn _ _)⟩ ?_
                rintro w20 ⟨hw9, hc8, hc9⟩
                have HW := hid hw9
                have HC9 := hid hc9
                clear hw9 hc9
                have hL8 := colsOf_get L1 R g.cols hlt
                have hL9 := colsOf_get O R g.cols hlt
                obtain ⟨g8', o8', hA8, hat8⟩ := ints_at hc8 hL8
                obtain ⟨g9', o9', hA9, hat9⟩ := ints_at HC9.out hL9
                cases hA8
                cases hA9
                have c8 := hat8 k _ hL8
                have c9 := hat9 k _ hL9
                clear hat8 hat9 hL8 hL9 hc8 HC8K
                go_quiet (fail)
                go_upto_region 18 with fail
                clear c8 c9
                refine at_world (fun w9 => KAt w w9 g a cap bt gt L1 O A1 b ∧ Kd.C (Kd.int .i64) w9 (some ⟨g9, o9, none⟩) R (colsOf O R g.cols)) _ rfl ⟨HW.out.next (below_dn _ _), Kd.C_below HC9.out (below_dn _ _)⟩ ?_
                rintro w21 ⟨hw9, hc9⟩
                have HW := hid hw9
                have HC9 := hid hc9
                clear hw9 hc9
                go_wp2_with (refine wpList_load_w rfl 24 _ rfl _ rfl _ _ _ _ (HW.out.bt) Try.underlying24 rfl (info_gr) ?_)
                refine (CCT.out _ HW.out.et).mono ?_
                rintro e w14 ⟨hb14, h14⟩
                obtain ⟨_, v10, v11, rfl, ho10, ho11, _⟩ := h14.resolve_left (fun h => by rw [K1.out] at h; cases h.1)
                obtain ⟨A2, d2, rfl, hl2, hC2⟩ := C_nats' ho10 HL2.out
                obtain ⟨A3, d3, rfl, hl3, hC3⟩ := C_nats' ho11 HL3.out
                have HW := hid (HW.out.next hb14)
                have HC9 := hid (Kd.C_below HC9.out hb14)
                have HC2 := hid hC2
                have HC3 := hid hC3
                clear h14 ho10 ho11 hb14 hC2 hC3 HC8
                go_wp2
                go_loopw [14] (fun i wr => ∃ j : Nat, j ≤ g.es.length ∧ i = .int .i64 j ∧ Hid (KAt w wr g a cap bt gt L1 O A1 b) ∧ Hid (Kd.C (Kd.int .i64) wr (some ⟨g9, o9, none⟩) R (colsOf O R g.cols)) ∧ Hid (Kd.C (Kd.int .i64) wr A2 L2.length L2) ∧ Hid (Kd.C (Kd.int .i64) wr A3 L3.length L3)) (fun i _ => g.es.length - (intOf i).toNat)
                case atStart => exact ⟨0, by omega, rfl, HW, HC9, HC2, HC3⟩
                case round =>
                  clear HW HC9 HC2 HC3
                  obtain ⟨j, hj, rfl, HW, HC9, HC2, HC3⟩ := hrel
                  have cg2 := row_cell HW.out.box 2 _ rfl
                  have cg1 := row_cell HW.out.box 1 _ rfl
                  by_cases hlt2 : j < g.es.length
                  · obtain ⟨x, hx⟩ : ∃ x, g.es[j]? = some x := ⟨g.es[j], by simp [hlt2]⟩
                    have hxm := List.mem_of_getElem? hx
                    obtain ⟨r, c, hxr, hxc, hr1, hc1, _⟩ := edge_ok K1.out hxm
                    have hrR : r < R := by have := HRR.out; omega
                    obtain ⟨gg, o, rfl, hgg, hcc⟩ := (HR.out.kept HW.out.below).get hx
                    have cx0 : wr.cell? ⟨gg, o + j * 3, none⟩ = some (.int .i64 r) := by have := hcc 0 _ rfl; rw [Nat.mul_comm, Nat.add_zero] at this; rw [← hxr]; exact this
                    have cx1 : wr.cell? ⟨gg, o + j * 3 + 1, none⟩ = some (.int .i64 c) := by have := hcc 1 _ rfl; rw [Nat.mul_comm] at this; rw [← hxc]; exact this
                    have hL9 := colsOf_get O R g.cols hrR
                    obtain ⟨g9, o9, hA9, hat9⟩ := ints_at HC9.out hL9
                    cases hA9
                    have c9 := hat9 r _ hL9
                    have hji : (j : Int) < (g.es.length : Int) := by omega
                    have hri : (r : Int) < (R : Int) := by omega
                    by_cases hq : colF O r g.cols = g.cols
                    · have hb : (colF O r g.cols == g.cols) = true := beq_iff_eq.2 hq
                      have HIN : Hid (decide ((c : Int) ∈ L3) = true) := hid (decide_eq_true (by
                        have h5 := LEA.out.edges (by rw [← HL1.out]; exact HNE.out) x hxm (by rw [hxr, Int.toNat_natCast]; exact hq)
                        rw [HL3.out, ← hxc]; exact h5))
                      clear hq hx hxm hxr hxc hr1 hc1 hcc hgg hat9 hL9
                      go_wp2
                      go_quiet ((go_at_call 16; exact in_quiet' L3 A3 d3 _ true HIN.out _ HC3.out hl3 hn3 _))
                      go_wp2
                      go_roundw
                      case rel => exact ⟨j + 1, by omega, by go_num, hid (HW.out.next (below_dn _ _)), hid (Kd.C_below HC9.out (below_dn _ _)), hid (Kd.C_below HC2.out (below_dn _ _)), hid (Kd.C_below HC3.out (below_dn _ _))⟩
                      case measure => simp [intOf]; omega
                    · have hb : (colF O r g.cols == g.cols) = false := beq_eq_false_iff_ne.2 hq
                      clear hq hx hxm hxr hxc hr1 hc1 hcc hgg hat9 hL9
                      go_wp2
                      go_quiet (fail)
                      go_wp2
                      go_roundw
                      case rel => exact ⟨j + 1, by omega, by go_num, hid (HW.out.next (below_dn _ _)), hid (Kd.C_below HC9.out (below_dn _ _)), hid (Kd.C_below HC2.out (below_dn _ _)), hid (Kd.C_below HC3.out (below_dn _ _))⟩
                      case measure => simp [intOf]; omega
                  · have hlt3 : ¬ ((j : Int) < (g.es.length : Int)) := by omega
                    clear hlt2 hj
                    go_wp2
                    clear cg1 cg2 hlt3
                    go_loopw [15] (fun i wr => ∃ q : Nat, q ≤ R ∧ i = .int .i64 q ∧ Hid (KAt w wr g a cap bt gt L1 O A1 b) ∧ Hid (Kd.C (Kd.int .i64) wr (some ⟨g9, o9, none⟩) R (colsOf O R g.cols)) ∧ Hid (Kd.C (Kd.int .i64) wr A2 L2.length L2)) (fun i _ => R - (intOf i).toNat)
                    case atStart => exact ⟨0, by omega, rfl, HW, HC9, HC2⟩
                    case round =>
                      clear HW HC9 HC2 HC3
                      obtain ⟨q, hq0, rfl, HW, HC9, HC2⟩ := hrel
                      have cg1 := row_cell HW.out.box 1 _ rfl
                      by_cases hlt4 : q < R
                      · have hL9 := colsOf_get O R g.cols hlt4
                        obtain ⟨g9, o9, hA9, hat9⟩ := ints_at HC9.out hL9
                        cases hA9
                        have c9 := hat9 q _ hL9
                        have hqi : (q : Int) < (R : Int) := by omega
                        by_cases hq : colF O q g.cols = g.cols
                        · have hb : (colF O q g.cols == g.cols) = true := beq_iff_eq.2 hq
                          have HIN : Hid (decide ((q : Int) ∈ L2) = false) := hid (decide_eq_false (by
                            have h5 := LEA.out.rows (by rw [← HL1.out]; exact HNE.out) q (by rw [HRT.out]; exact hlt4) hq
                            rw [HL2.out]; exact h5))
                          clear hq hat9 hL9
                          go_wp2
                          go_quiet ((go_at_call 16; exact in_quiet' L2 A2 d2 _ false HIN.out _ HC2.out hl2 hn2 _))
                          go_wp2
                          go_roundw
                          case rel => exact ⟨q + 1, by omega, by go_num, hid (HW.out.next (below_dn _ _)), hid (Kd.C_below HC9.out (below_dn _ _)), hid (Kd.C_below HC2.out (below_dn _ _))⟩
                          case measure => simp [intOf]; omega
                        · have hb : (colF O q g.cols == g.cols) = false := beq_eq_false_iff_ne.2 hq
                          clear hq hat9 hL9
                          go_wp2
                          go_quiet (fail)
                          go_wp2
                          go_roundw
                          case rel => exact ⟨q + 1, by omega, by go_num, hid (HW.out.next (below_dn _ _)), hid (Kd.C_below HC9.out (below_dn _ _)), hid (Kd.C_below HC2.out (below_dn _ _))⟩
                          case measure => simp [intOf]; omega
                      · have hlt5 : ¬ ((q : Int) < (R : Int)) := by omega
                        clear hlt4 hq0
                        go_wp2
                        go_ret
                        exact ⟨rfl, HW.out.below⟩
            · obtain rfl : k = R := by omega
              have hki : ¬ ((k : Int) < (k : Int)) := by omega
              clear hlt
              go_wp2
              go_quiet (fail)
              go_upto_region 16 with fail
              refine at_world (fun w9 => KAt w w9 g a cap bt gt L1 O A1 b ∧ Kd.C (Kd.int .i64) w9 A9 k (colsOf O k g.cols)) _ rfl ⟨HW.out.next (below_dn _ _), Kd.C_below HC9.out (below_dn _ _)⟩ ?_
              rintro w20 ⟨hw9, hc9⟩
              have HW := hid hw9
              have HC9 := hid hc9
              clear hw9 hc9
              go_quiet (fail)
              go_upto_region 18 with fail
              refine at_world (fun w9 => KAt w w9 g a cap bt gt L1 O A1 b ∧ Kd.C (Kd.int .i64) w9 A9 k (colsOf O k g.cols)) _ rfl ⟨HW.out.next (below_dn _ _), Kd.C_below HC9.out (below_dn _ _)⟩ ?_
              rintro w21 ⟨hw9, hc9⟩
              have HW := hid hw9
              have HC9 := hid hc9
              clear hw9 hc9
              go_wp2_with (refine wpList_load_w rfl 24 _ rfl _ rfl _ _ _ _ (HW.out.bt) Try.underlying24 rfl (info_gr) ?_)
              refine (CCT.out _ HW.out.et).mono ?_
              rintro e w14 ⟨hb14, h14⟩
              obtain ⟨_, v10, v11, rfl, ho10, ho11, _⟩ := h14.resolve_left (fun h => by rw [K1.out] at h; cases h.1)
              obtain ⟨A2, d2, rfl, hl2, hC2⟩ := C_nats' ho10 HL2.out
              obtain ⟨A3, d3, rfl, hl3, hC3⟩ := C_nats' ho11 HL3.out
              have HW := hid (HW.out.next hb14)
              have HC9 := hid (Kd.C_below HC9.out hb14)
              have HC2 := hid hC2
              have HC3 := hid hC3
              clear h14 ho10 ho11 hb14 hC2 hC3 HC8
              go_wp2
              go_loopw [14] (fun i wr => ∃ j : Nat, j ≤ g.es.length ∧ i = .int .i64 j ∧ Hid (KAt w wr g a cap bt gt L1 O A1 b) ∧ Hid (Kd.C (Kd.int .i64) wr A9 k (colsOf O k g.cols)) ∧ Hid (Kd.C (Kd.int .i64) wr A2 L2.length L2) ∧ Hid (Kd.C (Kd.int .i64) wr A3 L3.length L3)) (fun i _ => g.es.length - (intOf i).toNat)
              case atStart => exact ⟨0, by omega, rfl, HW, HC9, HC2, HC3⟩
              case round =>
                clear HW HC9 HC2 HC3
                obtain ⟨j, hj, rfl, HW, HC9, HC2, HC3⟩ := hrel
                have cg2 := row_cell HW.out.box 2 _ rfl
                have cg1 := row_cell HW.out.box 1 _ rfl
                by_cases hlt2 : j < g.es.length
                · obtain ⟨x, hx⟩ : ∃ x, g.es[j]? = some x := ⟨g.es[j], by simp [hlt2]⟩
                  have hxm := List.mem_of_getElem? hx
                  obtain ⟨r, c, hxr, hxc, hr1, hc1, _⟩ := edge_ok K1.out hxm
                  have hrR : r < k := by have := HRR.out; omega
                  obtain ⟨gg, o, rfl, hgg, hcc⟩ := (HR.out.kept HW.out.below).get hx
                  have cx0 : wr.cell? ⟨gg, o + j * 3, none⟩ = some (.int .i64 r) := by have := hcc 0 _ rfl; rw [Nat.mul_comm, Nat.add_zero] at this; rw [← hxr]; exact this
                  have cx1 : wr.cell? ⟨gg, o + j * 3 + 1, none⟩ = some (.int .i64 c) := by have := hcc 1 _ rfl; rw [Nat.mul_comm] at this; rw [← hxc]; exact this
                  have hL9 := colsOf_get O k g.cols hrR
                  obtain ⟨g9, o9, hA9, hat9⟩ := ints_at HC9.out hL9
                  cases hA9
                  have c9 := hat9 r _ hL9
                  have hji : (j : Int) < (g.es.length : Int) := by omega
                  have hri : (r : Int) < (k : Int) := by omega
                  by_cases hq : colF O r g.cols = g.cols
                  · have hb : (colF O r g.cols == g.cols) = true := beq_iff_eq.2 hq
                    have HIN : Hid (decide ((c : Int) ∈ L3) = true) := hid (decide_eq_true (by
                      have h5 := LEA.out.edges (by rw [← HL1.out]; exact HNE.out) x hxm (by rw [hxr, Int.toNat_natCast]; exact hq)
                      rw [HL3.out, ← hxc]; exact h5))
                    clear hq hx hxm hxr hxc hr1 hc1 hcc hgg hat9 hL9
                    go_wp2
                    go_quiet ((go_at_call 16; exact in_quiet' L3 A3 d3 _ true HIN.out _ HC3.out hl3 hn3 _))
                    go_wp2
                    go_roundw
                    case rel => exact ⟨j + 1, by omega, by go_num, hid (HW.out.next (below_dn _ _)), hid (Kd.C_below HC9.out (below_dn _ _)), hid (Kd.C_below HC2.out (below_dn _ _)), hid (Kd.C_below HC3.out (below_dn _ _))⟩
                    case measure => simp [intOf]; omega
                  · have hb : (colF O r g.cols == g.cols) = false := beq_eq_false_iff_ne.2 hq
                    clear hq hx hxm hxr hxc hr1 hc1 hcc hgg hat9 hL9
                    go_wp2
                    go_quiet (fail)
                    go_wp2
                    go_roundw
                    case rel => exact ⟨j + 1, by omega, by go_num, hid (HW.out.next (below_dn _ _)), hid (Kd.C_below HC9.out (below_dn _ _)), hid (Kd.C_below HC2.out (below_dn _ _)), hid (Kd.C_below HC3.out (below_dn _ _))⟩
                    case measure => simp [intOf]; omega
                · have hlt3 : ¬ ((j : Int) < (g.es.length : Int)) := by omega
                  clear hlt2 hj
                  go_wp2
                  clear cg1 cg2 hlt3
                  go_loopw [15] (fun i wr => ∃ q : Nat, q ≤ k ∧ i = .int .i64 q ∧ Hid (KAt w wr g a cap bt gt L1 O A1 b) ∧ Hid (Kd.C (Kd.int .i64) wr A9 k (colsOf O k g.cols)) ∧ Hid (Kd.C (Kd.int .i64) wr A2 L2.length L2)) (fun i _ => k - (intOf i).toNat)
                  case atStart => exact ⟨0, by omega, rfl, HW, HC9, HC2⟩
                  case round =>
                    clear HW HC9 HC2 HC3
                    obtain ⟨q, hq0, rfl, HW, HC9, HC2⟩ := hrel
                    have cg1 := row_cell HW.out.box 1 _ rfl
                    by_cases hlt4 : q < k
                    · have hL9 := colsOf_get O k g.cols hlt4
                      obtain ⟨g9, o9, hA9, hat9⟩ := ints_at HC9.out hL9
                      cases hA9
                      have c9 := hat9 q _ hL9
                      have hqi : (q : Int) < (k : Int) := by omega
                      by_cases hq : colF O q g.cols = g.cols
                      · have hb : (colF O q g.cols == g.cols) = true := beq_iff_eq.2 hq
                        have HIN : Hid (decide ((q : Int) ∈ L2) = false) := hid (decide_eq_false (by
                          have h5 := LEA.out.rows (by rw [← HL1.out]; exact HNE.out) q (by rw [HRT.out]; exact hlt4) hq
                          rw [HL2.out]; exact h5))
                        clear hq hat9 hL9
                        go_wp2
                        go_quiet ((go_at_call 16; exact in_quiet' L2 A2 d2 _ false HIN.out _ HC2.out hl2 hn2 _))
                        go_wp2
                        go_roundw
                        case rel => exact ⟨q + 1, by omega, by go_num, hid (HW.out.next (below_dn _ _)), hid (Kd.C_below HC9.out (below_dn _ _)), hid (Kd.C_below HC2.out (below_dn _ _))⟩
                        case measure => simp [intOf]; omega
                      · have hb : (colF O q g.cols == g.cols) = false := beq_eq_false_iff_ne.2 hq
                        clear hq hat9 hL9
                        go_wp2
                        go_quiet (fail)
                        go_wp2
                        go_roundw
                        case rel => exact ⟨q + 1, by omega, by go_num, hid (HW.out.next (below_dn _ _)), hid (Kd.C_below HC9.out (below_dn _ _)), hid (Kd.C_below HC2.out (below_dn _ _))⟩
                        case measure => simp [intOf]; omega
                    · have hlt5 : ¬ ((q : Int) < (k : Int)) := by omega
                      clear hlt4 hq0
                      go_wp2
                      go_ret
                      exact ⟨rfl, HW.out.below⟩
          -- /L1
        · have hlt : O.length < L1.length := by have := LEA.out.le; rw [← HL1.out] at this; omega
          have hb1 : ((O.length : Int) != (L1.length : Int)) = true := by simp; omega
          have hb2 : (O.length != L1.length) = true := by simp; omega
          have hb3 : decide ((O.length : Int) < (L1.length : Int)) = true := by simp; omega
          have hb4 : decide (O.length < L1.length) = true := by simp; omega
          clear hne
          go_wp2
          go_ret
          exact ⟨rfl, HW.out.below⟩
      · have HM : Hid (matchB g O = false) := hid (by simpa using hmo)
        rw [HM.out]
        clear hmo
        go_wp2_with (refine wpList_load_w rfl 24 _ rfl _ rfl _ _ _ _ (HW.out.box) Try.underlying24 rfl (info_gr) ?_)
        refine (CMA.out L1 A1 d1 (by omega) _ HW.out.below HW.out.c1 hl1).mono ?_
        rintro e w12 ⟨rfl, hb12⟩
        rw [HM1.out]
        have HW := hid (HW.out.next hb12)
        clear hb12
        go_wp2
        go_ret
        exact ⟨rfl, HW.out.below⟩
end Go.Proofs.Ytjhomkdnhdhffaa.PCoverLeast
