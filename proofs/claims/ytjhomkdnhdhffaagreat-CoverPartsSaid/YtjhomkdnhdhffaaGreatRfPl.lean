/- What the reference's Most and Cover ask, answered by what is known of the program's matching and cover. -/
import Derived.Test.YtjhomkdnhdhffaaGreatLawPl
namespace Go.Proofs.YtjhomkdnhdhffaaGreat

theorem cnt_below (p : Nat → Bool) {r : Nat} (hr : r ≤ 64) : cnt (fun x => p x && decide (x < r)) 64 = cnt p r := by
  rw [cnt_range _ hr (fun x hx => by simp at hx; exact hx.2)]
  exact cnt_congr (n := r) fun i hi => by simp [hi]
/-- The one matching below the row, the column at it, the other matching behind. -/
def joinM (f h : Nat → Int) (r : Nat) (c : Int) (x : Nat) : Int := if x < r then f x else if x = r then c else h x
theorem joinM_cnt {f h : Nat → Int} {r c : Nat} (hr : r < 64) (hh : ∀ x, 0 ≤ h x → r < x) : cnt (hasP (joinM f h r c)) 64 = cnt (hasP f) r + cnt (hasP h) 64 + 1 := by
  rw [cnt_split _ (fun x => decide (x < r)) 64]
  have h1 : cnt (fun i => hasP (joinM f h r c) i && decide (i < r)) 64 = cnt (hasP f) r := by
    rw [cnt_below _ (by omega)]
    exact cnt_congr fun i hi => by simp [hasP, joinM, hi]
  have h2 : cnt (fun i => hasP (joinM f h r c) i && !decide (i < r)) 64 = cnt (hasP h) 64 + 1 := by
    rw [cnt_strike _ r 64 hr (by simp [hasP, joinM])]
    congr 1
    refine cnt_congr fun i hi => ?_
    by_cases e1 : i < r
    · have : ¬ 0 ≤ h i := fun e => by have := hh i e; omega
      simp [hasP, e1, this]
    · by_cases e2 : i = r
      · subst e2
        have : ¬ 0 ≤ h i := fun e => by have := hh i e; omega
        simp [hasP, this]
      · simp [hasP, joinM, e1, e2]
  rw [h1, h2]; omega
theorem joinM_mat {E : Nat → Nat → Prop} {f h : Nat → Int} {r c : Nat} {A B : Nat → Bool} (hf : IsMat E (fun _ => true) (fun _ => true) f) (hh : IsMat E A B h) (hA : ∀ x, A x = true → r < x) (he : E r c) (hc : ∀ x, x < r → f x ≠ (c : Int)) (hB : ∀ d, B d = true → d ≠ c ∧ ∀ x, x < r → f x ≠ (d : Int)) :
    IsMat E (fun _ => true) (fun _ => true) (joinM f h r c) := by
  have key : ∀ x y : Nat, x < y → 0 ≤ joinM f h r c x → joinM f h r c x = joinM f h r c y → False := by
    intro x y hxy h0 e
    unfold joinM at h0 e
    by_cases x1 : x < r
    · rw [if_pos x1] at h0 e
      by_cases y1 : y < r
      · rw [if_pos y1] at e; have := hf.one x y h0 e; omega
      · rw [if_neg y1] at e
        by_cases y2 : y = r
        · rw [if_pos y2] at e; exact hc x x1 e
        · rw [if_neg y2] at e
          obtain ⟨d, h1, _, h2⟩ := hh.edge y (by omega)
          exact (hB d h2).2 x x1 (by omega)
    · rw [if_neg x1] at h0 e
      have y1 : ¬ y < r := by omega
      have y2 : ¬ y = r := by omega
      rw [if_neg y1, if_neg y2] at e
      by_cases x2 : x = r
      · rw [if_pos x2] at h0 e
        obtain ⟨d, h1, _, h2⟩ := hh.edge y (by omega)
        exact (hB d h2).1 (by omega)
      · rw [if_neg x2] at h0 e
        have := hh.one x y h0 e; omega
  refine ⟨fun x hx => ?_, fun _ _ => rfl, fun x y h0 e => ?_⟩
  · unfold joinM at hx ⊢
    by_cases x1 : x < r
    · rw [if_pos x1] at hx ⊢; exact hf.edge x hx
    · rw [if_neg x1] at hx ⊢
      by_cases x2 : x = r
      · rw [if_pos x2] at hx ⊢; subst x2; exact ⟨c, rfl, he, rfl⟩
      · rw [if_neg x2] at hx ⊢
        obtain ⟨d, h1, h2, _⟩ := hh.edge x hx
        exact ⟨d, h1, h2, rfl⟩
  · rcases Nat.lt_trichotomy x y with h1 | h1 | h1
    · exact (key x y h1 h0 e).elim
    · exact h1
    · exact (key y x h1 (by omega) e.symm).elim

/-- What is gone: the columns of the rows ahead. -/
def GoneTo (f : Nat → Int) (r : Nat) (gone : Nat → Bool) : Prop := ∀ c : Nat, gone c = true ↔ ∃ x, x < r ∧ f x = (c : Int)
structure Asked (g : Gr) (f : Nat → Int) (r c k : Nat) (A B : Nat → Bool) : Prop where
  row : ∀ x, A x = true ↔ r < x ∧ x < g.rows.toNat
  col : ∀ d : Nat, B d = true ↔ d ≠ c ∧ ∀ x, x < r → f x ≠ (d : Int)
  best : Best (Eg (toOf g.es)) A B k
theorem pick_upper {g : Gr} {K : Nat} {f : Nat → Int} {P Q : Nat → Bool} (L : Law19 g K f P Q) (h : chk g = true) {r c k : Nat} {A B : Nat → Bool} (a : Asked g f r c k A B) (hr : r < g.rows.toNat) (he : Eg (toOf g.es) r c) (hc : ∀ x, x < r → f x ≠ (c : Int)) :
    ∃ f', IsMat (Eg (toOf g.es)) (fun _ => true) (fun _ => true) f' ∧ cnt (hasP f') 64 = cnt (hasP f) r + k + 1 ∧ (∀ x, x < r → f' x = f x) ∧ f' r = c := by
  have hsz := chk_size h
  obtain ⟨⟨h0, hm, hk⟩, _⟩ := a.best
  refine ⟨joinM f h0 r c, joinM_mat L.mat hm (fun x hx => ((a.row x).1 hx).1) he hc fun d hd => (a.col d).1 hd, ?_, fun x hx => by simp [joinM, hx], by simp [joinM]⟩
  rw [joinM_cnt (by omega) fun x hx => ((a.row x).1 (hm.row x hx)).1, hk]
theorem pick_le {g : Gr} {K : Nat} {f : Nat → Int} {P Q : Nat → Bool} (L : Law19 g K f P Q) (h : chk g = true) {r c k : Nat} {A B : Nat → Bool} (a : Asked g f r c k A B) (hr : r < g.rows.toNat) (he : Eg (toOf g.es) r c) (hc : ∀ x, x < r → f x ≠ (c : Int)) : cnt (hasP f) r + k + 1 ≤ K := by
  obtain ⟨f', h1, h2, _⟩ := pick_upper L h a hr he hc
  rw [← h2]; exact L.max f' h1
theorem pick_no {g : Gr} {K : Nat} {f : Nat → Int} {P Q : Nat → Bool} (L : Law19 g K f P Q) (h : chk g = true) {r c k : Nat} {A B : Nat → Bool} (a : Asked g f r c k A B) (hr : r < g.rows.toNat) (he : Eg (toOf g.es) r c) (hc : ∀ x, x < r → f x ≠ (c : Int)) (hl : f r < 0 ∨ (c : Int) < f r) : cnt (hasP f) r + k + 1 ≠ K := by
  intro e
  obtain ⟨f', h1, h2, h3, h4⟩ := pick_upper L h a hr he hc
  have := L.lex r hr f' h1 (by omega) (fun x hx _ => h3 x hx) (by omega)
  omega
theorem Law19.edge {g : Gr} {K : Nat} {f : Nat → Int} {P Q : Nat → Bool} (L : Law19 g K f P Q) {r c : Nat} (hc : f r = (c : Int)) : Eg (toOf g.es) r c := by
  obtain ⟨d, h1, h2, _⟩ := L.mat.edge r (by omega)
  have : d = c := by omega
  rw [← this]; exact h2
theorem Law19.free {g : Gr} {K : Nat} {f : Nat → Int} {P Q : Nat → Bool} (L : Law19 g K f P Q) {r c : Nat} (hc : f r = (c : Int)) : ∀ x, x < r → f x ≠ (c : Int) := by
  intro x hx e
  have := L.mat.one x r (by omega) (by omega)
  omega
theorem pick_yes {g : Gr} {K : Nat} {f : Nat → Int} {P Q : Nat → Bool} (L : Law19 g K f P Q) (h : chk g = true) {r c k : Nat} {A B : Nat → Bool} (a : Asked g f r c k A B) (hr : r < g.rows.toNat) (hc : f r = (c : Int)) : cnt (hasP f) r + k + 1 = K := by
  refine Nat.le_antisymm (pick_le L h a hr (L.edge hc) (L.free hc)) ?_
  have hsz := chk_size h
  have hok := toOf_ok h
  have hm : IsMat (Eg (toOf g.es)) A B (fun x => if r < x then f x else -1) := by
    refine ⟨fun x hx => ?_, fun x hx => ?_, fun x y h0 e => ?_⟩
    · by_cases e1 : r < x
      · rw [if_pos e1] at hx ⊢
        obtain ⟨d, h1, h2, _⟩ := L.mat.edge x hx
        refine ⟨d, h1, h2, (a.col d).2 ⟨fun e => ?_, fun y hy e => ?_⟩⟩
        · have := L.mat.one x r hx (by omega); omega
        · have := L.mat.one x y hx (by omega); omega
      · rw [if_neg e1] at hx; omega
    · by_cases e1 : r < x
      · rw [if_pos e1] at hx
        obtain ⟨d, _, h2, _⟩ := L.mat.edge x hx
        exact (a.row x).2 ⟨e1, (eg_lt h h2).1⟩
      · rw [if_neg e1] at hx; omega
    · by_cases e1 : r < x
      · rw [if_pos e1] at h0 e
        by_cases e2 : r < y
        · rw [if_pos e2] at e; exact L.mat.one x y h0 e
        · rw [if_neg e2] at e; omega
      · rw [if_neg e1] at h0; omega
  have h1 := a.best.max (fun x c he => Eg.lt hok he) hm
  have h2 : cnt (hasP (joinM f (fun x => if r < x then f x else -1) r c)) 64 = cnt (hasP f) 64 := cnt_congr fun i _ => by
    have : joinM f (fun x => if r < x then f x else -1) r c i = f i := by
      unfold joinM
      by_cases e1 : i < r
      · rw [if_pos e1]
      · rw [if_neg e1]
        by_cases e2 : i = r
        · rw [if_pos e2, e2, hc]
        · rw [if_neg e2]; exact if_pos (by omega)
    simp only [hasP, this]
  rw [joinM_cnt (by omega) fun x hx => by
    by_cases e1 : r < x
    · exact e1
    · rw [if_neg e1] at hx; omega] at h2
  have := L.num
  omega

/-! ### Which rows are spare -/
theorem cover_least {g : Gr} {K : Nat} {f : Nat → Int} {P Q : Nat → Bool} (L : Law19 g K f P Q) (h : chk g = true) {P' Q' : Nat → Bool} (hc : IsCov (Eg (toOf g.es)) (fun _ => true) (fun _ => true) P' Q') (hk : cnt P' 64 + cnt Q' 64 ≤ K) {x : Nat} (hx : x < g.rows.toNat) (hp : P' x = true) : P x = true := by
  have hok := toOf_ok h
  have hsz := chk_size h
  have hR : g.rows.toNat ≤ 64 := by omega
  obtain ⟨K1, ku⟩ := pairAll_kuhn hok g.rows.toNat hR
  have hsmall : Small (Eg (toOf g.es)) := fun x c he => Eg.lt hok he
  have hK : K ≤ K1 := by
    rw [← L.num]
    refine ku.best.max hsmall ⟨fun x hx => ?_, fun x hx => ?_, L.mat.one⟩
    · obtain ⟨c, h1, h2, _⟩ := L.mat.edge x hx
      exact ⟨c, h1, h2, rfl⟩
    · obtain ⟨c, h1, h2, _⟩ := L.mat.edge x hx
      have := (eg_lt h h2).1
      simp [this]
  have re := visAll_reached hok ku.mat.ok g.rows.toNat hR
  have mm : IsMat (Eg (toOf g.es)) (fun _ => true) (fun _ => true) (getI (pairAll (toOf g.es) g.rows.toNat).1) := ku.mat.isMat (fun _ _ => rfl) fun _ _ _ => rfl
  have hle : cnt P' 64 + cnt Q' 64 ≤ cnt (hasP (getI (pairAll (toOf g.es) g.rows.toNat).1)) 64 := by rw [ku.num]; omega
  have hs := slack hsmall mm hc hle
  have hv := (re.least (fun x => P' x = false) (fun c => Q' c = true) (fun x c h1 h2 => by
      rcases hc.edge x c rfl rfl h2 with h3 | h3
      · rw [h1] at h3; cases h3
      · exact h3) (fun c q h1 h2 => by
      have := slack_pair hsmall mm hc hle ((ku.mat.both c q).1 h2)
      rw [this, h1]; rfl) (fun x h1 h2 => by
      cases h3 : P' x
      · rfl
      · have := hs.1 x (by omega) h3; omega)).1
  cases hP : P x
  · exfalso
    have h1 : x ∉ coverRows g := by rw [L.rows]; simp [hP]
    have h2 : getB (visOf g g.rows.toNat).1 x = true := by
      refine Classical.byContradiction fun h3 => h1 ?_
      unfold coverRows rowsTo
      simp [hx, h3]
    have := hv x h2
    rw [hp] at this; cases this
  · rfl
theorem spare_iff {g : Gr} {K : Nat} {f : Nat → Int} {P Q : Nat → Bool} (L : Law19 g K f P Q) (h : chk g = true) {r k : Nat} (hr : r < g.rows.toNat) {A B : Nat → Bool} (hA : ∀ x, A x = true ↔ x < g.rows.toNat ∧ x ≠ r) (hB : ∀ d, B d = true) (hb : Best (Eg (toOf g.es)) A B k) : k = K ↔ P r = false := by
  have hok := toOf_ok h
  have hsz := chk_size h
  have hsmall : Small (Eg (toOf g.es)) := fun x c he => Eg.lt hok he
  obtain ⟨⟨h0, hm, hk⟩, P', Q', hc, hle⟩ := hb
  have mm : IsMat (Eg (toOf g.es)) (fun _ => true) (fun _ => true) h0 := ⟨fun x hx => by
    obtain ⟨c, h1, h2, _⟩ := hm.edge x hx
    exact ⟨c, h1, h2, rfl⟩, fun _ _ => rfl, hm.one⟩
  have hmax := L.max h0 mm
  constructor
  · intro e
    cases hP : P r
    · rfl
    · have h1 := (slack hsmall mm L.cov (by rw [L.cnum, hk]; omega)).1 r (by omega) hP
      have := ((hA r).1 (hm.row r h1)).2
      exact absurd rfl this
  · intro hP
    refine Classical.byContradiction fun hne => ?_
    have hcov : IsCov (Eg (toOf g.es)) (fun _ => true) (fun _ => true) (fun x => P' x || decide (x = r)) Q' := ⟨fun x c _ _ he => by
      by_cases e : x = r
      · left; simp [e]
      · rcases hc.edge x c ((hA x).2 ⟨(eg_lt h he).1, e⟩) (hB c) he with h1 | h1
        · left; simp [h1]
        · exact .inr h1⟩
    have h2 : cnt (fun x => P' x || decide (x = r)) 64 ≤ cnt P' 64 + 1 := by
      have h3 := cnt_strike (fun x => P' x || decide (x = r)) r 64 (by omega) (by simp)
      have h4 : cnt (fun i => (P' i || decide (i = r)) && decide (i ≠ r)) 64 ≤ cnt P' 64 := cnt_mono fun i _ hi => by
        simp at hi
        rcases hi.1 with h5 | h5
        · exact h5
        · exact absurd h5 hi.2
      omega
    have := cover_least L h hcov (by omega) hr (by simp)
    rw [hP] at this; cases this
theorem cols_iff {g : Gr} {K : Nat} {f : Nat → Int} {P Q : Nat → Bool} (L : Law19 g K f P Q) (c : Nat) : Q c = true ↔ ∃ x, x < g.rows.toNat ∧ P x = false ∧ Eg (toOf g.es) x c :=
  ⟨L.near c, fun ⟨x, h1, h2, h3⟩ => L.closed x c h1 h2 h3⟩
/-- The reference's count: as many as there can be. -/
theorem count_best {g : Gr} (h : chk g = true) (out gone : List Bool) (hg : gone.length = 64) : Best (Eg (toOf g.es)) (fun x => decide (x < g.rows.toNat) && !getB out x) (fun c => !getB gone c) (cntAll (toOf g.es) out gone g.rows.toNat).1 :=
  (cntAll_kuhn (toOf_ok h) out gone hg g.rows.toNat (by have := chk_size h; omega)).best
theorem count_all {g : Gr} {K : Nat} {f : Nat → Int} {P Q : Nat → Bool} (L : Law19 g K f P Q) (h : chk g = true) {k : Nat} {A B : Nat → Bool} (hA : ∀ x, x < g.rows.toNat → A x = true) (hB : ∀ d, B d = true) (hb : Best (Eg (toOf g.es)) A B k) : k = K := by
  have hok := toOf_ok h
  obtain ⟨⟨h0, hm, hk⟩, _⟩ := id hb
  have mm : IsMat (Eg (toOf g.es)) (fun _ => true) (fun _ => true) h0 := ⟨fun x hx => by
    obtain ⟨c, h1, h2, _⟩ := hm.edge x hx
    exact ⟨c, h1, h2, rfl⟩, fun _ _ => rfl, hm.one⟩
  have h1 := L.max h0 mm
  have h2 := hb.max (fun x c he => Eg.lt hok he) (f := f) ⟨fun x hx => by
    obtain ⟨c, h1, h2, _⟩ := L.mat.edge x hx
    exact ⟨c, h1, h2, hB c⟩, fun x hx => by
    obtain ⟨c, h1, h2, _⟩ := L.mat.edge x hx
    exact hA x (eg_lt h h2).1, L.mat.one⟩
  have := L.num
  omega
end Go.Proofs.YtjhomkdnhdhffaaGreat
