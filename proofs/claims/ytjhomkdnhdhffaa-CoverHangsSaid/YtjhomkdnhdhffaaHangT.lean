/- What CoverHangs asks of the parts, in plain Lean. -/
import Derived.Test.YtjhomkdnhdhffaaPartsT
namespace Go.Proofs.Ytjhomkdnhdhffaa

def rt (g : Gr) (r : Nat) : Nat := root (joinAll g.es).1 r
/-- The how-manieth part is a row's. -/
def idx (g : Gr) (r : Nat) : Nat := rank (joinAll g.es).1 (rt g r)
def rootsOf (g : Gr) : List Nat := (List.range g.rows.toNat).filter fun r => decide (rt g r = r)
def partOf (g : Gr) (p : Nat) : List Nat := (List.range g.rows.toNat).filter fun q => decide (rt g q = p)
theorem parts_eq (g : Gr) : parts g = (rootsOf g).map (partOf g) := rfl
theorem rt_rt (g : Gr) (r : Nat) : rt g (rt g r) = rt g r := root_root (joinAll_down g.es) r
theorem rt_le (g : Gr) (r : Nat) : rt g r ≤ r := root_le (joinAll_down g.es) r
theorem roots_get {g : Gr} {i p : Nat} (h : (rootsOf g)[i]? = some p) : rt g p = p ∧ p < g.rows.toNat ∧ i = rank (joinAll g.es).1 p := by
  have hm := List.mem_filter.1 (List.mem_of_getElem? h)
  have h1 : rt g p = p := by simpa using hm.2
  have h2 : p < g.rows.toNat := by simpa using hm.1
  refine ⟨h1, h2, ?_⟩
  have h3 : (rootsOf g)[rank (joinAll g.es).1 p]? = some p := rank_get h2 h1
  have hnd : (rootsOf g).Nodup := List.Pairwise.filter _ List.nodup_range
  exact (List.getElem?_inj (List.getElem?_eq_some_iff.1 h).1 hnd).1 (h.trans h3.symm)
theorem roots_at {g : Gr} {r : Nat} (hr : r < g.rows.toNat) : (rootsOf g)[idx g r]? = some (rt g r) := rank_get (Nat.lt_of_le_of_lt (rt_le g r) hr) (rt_rt g r)
theorem part_get {g : Gr} {i : Nat} {l : List Nat} (h : (parts g)[i]? = some l) : ∃ p, (rootsOf g)[i]? = some p ∧ l = partOf g p := by
  rw [parts_eq, List.getElem?_map] at h
  obtain ⟨p, h1, h2⟩ := Option.map_eq_some_iff.1 h
  exact ⟨p, h1, h2.symm⟩
theorem mem_part {g : Gr} {i : Nat} {l : List Nat} (h : (parts g)[i]? = some l) (r : Nat) : r ∈ l ↔ r < g.rows.toNat ∧ idx g r = i := by
  obtain ⟨p, h1, rfl⟩ := part_get h
  obtain ⟨h2, h3, h4⟩ := roots_get h1
  unfold partOf
  rw [List.mem_filter]
  constructor
  · rintro ⟨h5, h6⟩
    have h6 : rt g r = p := by simpa using h6
    exact ⟨by simpa using h5, by unfold idx; rw [h6, h4]⟩
  · rintro ⟨h5, h6⟩
    refine ⟨by simpa using h5, ?_⟩
    have := roots_at h5
    rw [h6, h1] at this
    simpa using (Option.some.inj this).symm
theorem part_rise {g : Gr} {i : Nat} {l : List Nat} (h : (parts g)[i]? = some l) : l.Pairwise (· < ·) := by
  obtain ⟨p, _, rfl⟩ := part_get h
  exact List.Pairwise.filter _ List.pairwise_lt_range
theorem part_head {g : Gr} {i : Nat} {l : List Nat} (h : (parts g)[i]? = some l) : ∃ p, (rootsOf g)[i]? = some p ∧ l[0]? = some p := by
  obtain ⟨p, h1, h2⟩ := part_get h
  obtain ⟨h3, h4, h5⟩ := roots_get h1
  have hp : p ∈ l := (mem_part h p).2 ⟨h4, by unfold idx; rw [h3, h5]⟩
  have hmin : ∀ q ∈ l, p ≤ q := by
    intro q hq
    rw [h2] at hq
    have := (List.mem_filter.1 hq).2
    have e : rt g q = p := by simpa using this
    have := rt_le g q
    omega
  refine ⟨p, h1, ?_⟩
  cases l with
  | nil => simp at hp
  | cons a l =>
    have hr := part_rise h
    have ha := hmin a (by simp)
    rcases List.mem_cons.1 hp with e | e
    · rw [e]; rfl
    · have := (List.pairwise_cons.1 hr).1 p e
      omega
theorem idx_lt {g : Gr} {r : Nat} (hr : r < g.rows.toNat) : idx g r < (parts g).length := by
  have := (List.getElem?_eq_some_iff.1 (roots_at hr)).1
  rw [parts_eq, List.length_map]; exact this
theorem heads_rise {g : Gr} {i p q : Nat} (h1 : (rootsOf g)[i]? = some p) (h2 : (rootsOf g)[i + 1]? = some q) : p < q := by
  have hr : (rootsOf g).Pairwise (· < ·) := List.Pairwise.filter _ List.pairwise_lt_range
  obtain ⟨b1, e1⟩ := List.getElem?_eq_some_iff.1 h1
  obtain ⟨b2, e2⟩ := List.getElem?_eq_some_iff.1 h2
  have := List.pairwise_iff_getElem.1 hr i (i + 1) b1 b2 (by omega)
  rwa [e1, e2] at this
theorem parts_le (g : Gr) : (parts g).length ≤ g.rows.toNat := by
  rw [parts_eq, List.length_map]
  exact Nat.le_trans (List.length_filter_le _ _) (by simp)
theorem part_le {g : Gr} {i : Nat} {l : List Nat} (h : (parts g)[i]? = some l) : l.length ≤ g.rows.toNat := by
  obtain ⟨p, _, rfl⟩ := part_get h
  exact Nat.le_trans (List.length_filter_le _ _) (by simp)

/-! ### The table of the parts -/
def doneB (g : Gr) (i : Nat) (l : List Nat) (r : Nat) : Bool := decide (idx g r < i) || (decide (idx g r = i) && decide (r ∈ l))
def tabP (g : Gr) (D : Nat → Bool) : List Int := (List.range g.rows.toNat).map fun r => if D r = true then (idx g r + 1 : Int) else 0
def cntP (g : Gr) (D : Nat → Bool) : Nat := ((List.range g.rows.toNat).filter D).length
theorem tabP_len (g : Gr) (D : Nat → Bool) : (tabP g D).length = g.rows.toNat := by simp [tabP]
theorem tabP_get (g : Gr) (D : Nat → Bool) {r : Nat} (hr : r < g.rows.toNat) : (tabP g D)[r]? = some (if D r = true then (idx g r + 1 : Int) else 0) := by simp [tabP, hr]
theorem tabP_congr {g : Gr} {D D' : Nat → Bool} (h : ∀ r, r < g.rows.toNat → D r = D' r) : tabP g D = tabP g D' := by
  unfold tabP
  apply List.map_congr_left
  intro r hr
  rw [h r (by simpa using hr)]
theorem cntP_congr {g : Gr} {D D' : Nat → Bool} (h : ∀ r, r < g.rows.toNat → D r = D' r) : cntP g D = cntP g D' := by
  unfold cntP
  congr 1
  apply List.filter_congr
  intro r hr
  exact h r (by simpa using hr)
theorem tabP_set (g : Gr) (D : Nat → Bool) {e : Nat} (he : e < g.rows.toNat) : (tabP g D).set e (idx g e + 1 : Int) = tabP g fun r => D r || decide (r = e) := by
  apply List.ext_getElem?
  intro i
  rw [List.getElem?_set, tabP_len]
  by_cases hi : i < g.rows.toNat
  · rw [tabP_get g _ hi]
    by_cases e2 : e = i
    · subst e2; rw [if_pos rfl, if_pos hi, tabP_get g _ hi]; simp
    · have e3 : ¬ i = e := fun h => e2 h.symm
      rw [if_neg e2, tabP_get g _ hi]; simp [e3]
  · have h1 : (tabP g D)[i]? = none := List.getElem?_eq_none (by rw [tabP_len]; omega)
    have h2 : (tabP g fun r => D r || decide (r = e))[i]? = none := List.getElem?_eq_none (by rw [tabP_len]; omega)
    rw [h1, h2]
    by_cases e2 : e = i
    · omega
    · rw [if_neg e2]
theorem cntP_set (g : Gr) (D : Nat → Bool) {e : Nat} (he : e < g.rows.toNat) (hd : D e = false) : cntP g (fun r => D r || decide (r = e)) = cntP g D + 1 := by
  unfold cntP
  generalize g.rows.toNat = n at *
  induction n with
  | zero => omega
  | succ n ih =>
    rw [List.range_succ, List.filter_append, List.filter_append, List.length_append, List.length_append]
    by_cases e2 : e = n
    · subst e2
      have : (List.range e).filter (fun r => D r || decide (r = e)) = (List.range e).filter D := by
        apply List.filter_congr
        intro r hr
        have : r ≠ e := by have : r < e := by simpa using hr
                           omega
        simp [this]
      rw [this]
      simp [hd]
    · rw [ih (by omega)]
      have e3 : ¬ n = e := fun h => e2 h.symm
      have : [n].filter (fun r => D r || decide (r = e)) = [n].filter D := by
        apply List.filter_congr
        intro r hr
        rw [List.mem_singleton.1 hr]; simp [e3]
      rw [this]
      omega
theorem done_step {g : Gr} {i k e : Nat} {l : List Nat} (h : (parts g)[i]? = some l) (he : l[k]? = some e) (r : Nat) : doneB g i (l.take (k + 1)) r = (doneB g i (l.take k) r || decide (r = e)) := by
  obtain ⟨hk, rfl⟩ := List.getElem?_eq_some_iff.1 he
  have hi := ((mem_part h _).1 (List.getElem_mem hk)).2
  unfold doneB
  have hm : r ∈ l.take (k + 1) ↔ r ∈ l.take k ∨ r = l[k] := by
    rw [List.take_succ_eq_append_getElem hk, List.mem_append, List.mem_singleton]
  by_cases e2 : r = l[k]
  · have h1 : r ∈ l.take (k + 1) := hm.2 (.inr e2)
    have h2 : idx g r = i := by rw [e2]; exact hi
    rw [decide_eq_true h1, decide_eq_true h2, decide_eq_true e2]; simp
  · have h1 : decide (r ∈ l.take (k + 1)) = decide (r ∈ l.take k) := decide_eq_decide.2 (by rw [hm]; simp [e2])
    rw [h1]
    simp [e2]
theorem done_fresh {g : Gr} {i k e : Nat} {l : List Nat} (h : (parts g)[i]? = some l) (he : l[k]? = some e) : doneB g i (l.take k) e = false := by
  obtain ⟨hk, rfl⟩ := List.getElem?_eq_some_iff.1 he
  have hi := ((mem_part h _).1 (List.getElem_mem hk)).2
  have hr := part_rise h
  have : l[k] ∉ l.take k := by
    intro hm
    obtain ⟨j, hj⟩ := List.getElem?_of_mem hm
    obtain ⟨hjl, e⟩ := List.getElem?_eq_some_iff.1 hj
    rw [List.length_take] at hjl
    rw [List.getElem_take] at e
    have := List.pairwise_iff_getElem.1 hr j k (by omega) hk (by omega)
    omega
  simp [doneB, hi, this]
theorem done_next {g : Gr} {i : Nat} {l : List Nat} (h : (parts g)[i]? = some l) {r : Nat} (hr : r < g.rows.toNat) : doneB g i l r = doneB g (i + 1) [] r := by
  have := mem_part h r
  unfold doneB
  by_cases e : idx g r = i
  · have hm : r ∈ l := this.2 ⟨hr, e⟩
    simp [e, hm]
  · have : (idx g r < i ↔ idx g r < i + 1) := by omega
    simp [e, this]
theorem done_end {g : Gr} {r : Nat} (hr : r < g.rows.toNat) : doneB g (parts g).length [] r = true := by
  have := idx_lt hr
  simp [doneB, this]
theorem done_start (g : Gr) (r : Nat) : doneB g 0 [] r = false := by simp [doneB]
theorem cntP_all {g : Gr} {D : Nat → Bool} (h : ∀ r, r < g.rows.toNat → D r = true) : cntP g D = g.rows.toNat := by
  unfold cntP
  rw [List.filter_eq_self.2 (fun r hr => h r (by simpa using hr)), List.length_range]

/-! ### The table by columns -/
def ofVal (g : Gr) (l : List Ed) (c : Nat) : Int := l.foldl (fun v x => if x.c = (c : Int) then (idx g x.r.toNat + 1 : Int) else v) 0
def tabO (g : Gr) (l : List Ed) : List Int := (List.range g.cols.toNat).map (ofVal g l)
theorem tabO_get (g : Gr) (l : List Ed) {c : Nat} (hc : c < g.cols.toNat) : (tabO g l)[c]? = some (ofVal g l c) := by simp [tabO, hc]
theorem tabO_len (g : Gr) (l : List Ed) : (tabO g l).length = g.cols.toNat := by simp [tabO]
theorem ofVal_snoc (g : Gr) (l : List Ed) (x : Ed) (c : Nat) : ofVal g (l ++ [x]) c = if x.c = (c : Int) then (idx g x.r.toNat + 1 : Int) else ofVal g l c := by
  unfold ofVal
  rw [List.foldl_append]; rfl
theorem tabO_snoc (g : Gr) (l : List Ed) (x : Ed) {r c : Nat} (hr : x.r = r) (hc : x.c = c) : tabO g (l ++ [x]) = (tabO g l).set c (idx g r + 1 : Int) := by
  apply List.ext_getElem?
  intro i
  rw [List.getElem?_set, tabO_len]
  by_cases hi : i < g.cols.toNat
  · rw [tabO_get g _ hi, ofVal_snoc, hr, hc, Int.toNat_natCast]
    by_cases e : c = i
    · subst e; simp [hi]
    · rw [if_neg e, tabO_get g _ hi, if_neg (by omega)]
  · have h1 : ∀ m, (tabO g m)[i]? = none := fun m => List.getElem?_eq_none (by rw [tabO_len]; omega)
    rw [h1, h1]
    by_cases e : c = i
    · subst e; simp [hi]
    · rw [if_neg e]
theorem ofVal_tells (g : Gr) (c : Nat) : ∀ (n : Nat) (l : List Ed), l.length = n → ofVal g l c = 0 ∨ ∃ x ∈ l, x.c = (c : Int) ∧ ofVal g l c = (idx g x.r.toNat + 1 : Int) := by
  intro n
  induction n with
  | zero => intro l hl; rw [List.length_eq_zero_iff.1 hl]; exact .inl rfl
  | succ n ih =>
    intro l hl
    have hne : l ≠ [] := by intro e; rw [e] at hl; simp at hl
    obtain ⟨m, x, rfl⟩ : ∃ m x, l = m ++ [x] := ⟨l.dropLast, l.getLast hne, (List.dropLast_concat_getLast hne).symm⟩
    rw [ofVal_snoc]
    by_cases e : x.c = (c : Int)
    · rw [if_pos e]; exact .inr ⟨x, by simp, e, rfl⟩
    · rw [if_neg e]
      rcases ih m (by simpa using hl) with h | ⟨y, h1, h2, h3⟩
      · exact .inl h
      · exact .inr ⟨y, by simp [h1], h2, h3⟩

/-! ### Rows with an edge to one column -/
theorem joined {g : Gr} (h : chk g = true) : Joined (pairsE g.es) (joinAll g.es) := joinAll_joined fun x hx => by
  obtain ⟨r, c, h1, h2, _, _, h3, h4⟩ := edge_ok h hx
  rw [h1, h2, Int.toNat_natCast, Int.toNat_natCast]; exact ⟨h3, h4⟩
theorem mem_pairsE {g : Gr} (h : chk g = true) (r c : Nat) : (r, c) ∈ pairsE g.es ↔ ∃ x ∈ g.es, x.r = r ∧ x.c = c := by
  unfold pairsE
  rw [List.mem_map]
  constructor
  · rintro ⟨x, hx, e⟩
    obtain ⟨r1, c1, h1, h2, _⟩ := edge_ok h hx
    cases e
    exact ⟨x, hx, by rw [h1, Int.toNat_natCast], by rw [h2, Int.toNat_natCast]⟩
  · rintro ⟨x, hx, h1, h2⟩
    exact ⟨x, hx, by rw [h1, h2, Int.toNat_natCast, Int.toNat_natCast]⟩
theorem rt_same {g : Gr} (h : chk g = true) {x y : Ed} (hx : x ∈ g.es) (hy : y ∈ g.es) (e : x.c = y.c) : rt g x.r.toNat = rt g y.r.toNat := by
  obtain ⟨r1, c1, h1, h2, _⟩ := edge_ok h hx
  obtain ⟨r2, c2, h3, h4, _⟩ := edge_ok h hy
  have hc : c2 = c1 := by omega
  rw [h1, h3, Int.toNat_natCast, Int.toNat_natCast]
  exact (joined h).same r1 r2 c1 ((mem_pairsE h _ _).2 ⟨x, hx, h1, h2⟩) ((mem_pairsE h _ _).2 ⟨y, hy, h3, by rw [h4, hc]⟩)
theorem of_ok {g : Gr} (h : chk g = true) {k : Nat} {x : Ed} (hx : x ∈ g.es) {r c : Nat} (hr : x.r = r) (hc : x.c = c) : ofVal g (g.es.take k) c = 0 ∨ ofVal g (g.es.take k) c = (idx g r + 1 : Int) := by
  rcases ofVal_tells g c _ (g.es.take k) rfl with e | ⟨y, hy, h1, h2⟩
  · exact .inl e
  · right
    rw [h2]
    have := rt_same h hx (List.mem_of_mem_take hy) (by rw [hc, h1])
    rw [hr, Int.toNat_natCast] at this
    unfold idx
    rw [← this]

/-! ### Who is come to -/
structure ReachInv (g : Gr) (p : Nat) (rows cols : List Bool) (n : Nat) : Prop where
  rl : rows.length = g.rows.toNat
  cl : cols.length = g.cols.toNat
  own : rows[p]? = some true
  sound : ∀ r, rows[r]? = some true → rt g r = p
  csound : ∀ c : Nat, cols[c]? = some true → ∀ x ∈ g.es, x.c = (c : Int) → rt g x.r.toNat = p
  num : n = (rows.filter id).length
def closedTo (rows cols : List Bool) (l : List Ed) : Prop := ∀ x ∈ l, (rows[x.r.toNat]? = some true → cols[x.c.toNat]? = some true) ∧ (cols[x.c.toNat]? = some true → rows[x.r.toNat]? = some true)
theorem reach_end {g : Gr} (h : chk g = true) {p : Nat} (hp : rt g p = p) (hpR : p < g.rows.toNat) {rows cols : List Bool} {n : Nat} (I : ReachInv g p rows cols n) (hc : closedTo rows cols g.es) : n = (partOf g p).length := by
  have hall : ∀ r, rows[r]? = some true ↔ r < g.rows.toNat ∧ rt g r = p := by
    intro r
    constructor
    · intro hr
      exact ⟨by have := (List.getElem?_eq_some_iff.1 hr).1; rw [I.rl] at this; exact this, I.sound r hr⟩
    · rintro ⟨hr, e⟩
      have := (joined h).shut (fun q => rows[q]? = some true) (fun a b c ha hb hs => by
        obtain ⟨x, hx, h1, h2⟩ := (mem_pairsE h _ _).1 ha
        obtain ⟨y, hy, h3, h4⟩ := (mem_pairsE h _ _).1 hb
        have hx' := hc x hx
        have hy' := hc y hy
        rw [h1, h2, Int.toNat_natCast, Int.toNat_natCast] at hx'
        rw [h3, h4, Int.toNat_natCast, Int.toNat_natCast] at hy'
        exact hy'.2 (hx'.1 hs)) r
      rw [this]
      show rows[rt g r]? = some true
      rw [e]; exact I.own
  rw [I.num]
  have hrows : rows = (List.range g.rows.toNat).map fun r => decide (rt g r = p) := by
    apply List.ext_getElem?
    intro i
    by_cases hi : i < g.rows.toNat
    · rw [List.getElem?_map, List.getElem?_range hi, Option.map_some]
      have hx : rows[i]? = some (rows[i]'(by rw [I.rl]; exact hi)) := List.getElem?_eq_getElem _
      have := hall i
      rw [hx] at this ⊢
      cases hb : rows[i]'(by rw [I.rl]; exact hi)
      · rw [hb] at this
        have : ¬ rt g i = p := fun e => by
          have := this.2 ⟨hi, e⟩
          cases this
        simp [this]
      · rw [hb] at this
        simp [(this.1 rfl).2]
    · rw [List.getElem?_eq_none (by rw [I.rl]; omega), List.getElem?_eq_none (by simp; omega)]
  rw [hrows, List.filter_map, List.length_map]
  rfl
end Go.Proofs.Ytjhomkdnhdhffaa
