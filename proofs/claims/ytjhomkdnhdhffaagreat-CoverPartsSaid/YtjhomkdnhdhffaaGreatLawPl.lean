/- What is true of the answers of Most and Cover, in plain Lean: of a graph that may be. -/
import Derived.Test.YtjhomkdnhdhffaaGreatCoverW
namespace Go.Proofs.YtjhomkdnhdhffaaGreat

theorem eg_iff {g : Gr} (h : chk g = true) (r c : Nat) : Eg (toOf g.es) r c ↔ ∃ x ∈ g.es, x.r = r ∧ x.c = c := by
  unfold Eg
  constructor
  · intro hm
    have hr : r < 64 := by
      refine Classical.byContradiction fun hn => ?_
      rw [List.getElem?_eq_none (by rw [toOf_len]; omega)] at hm
      simp at hm
    rw [toOf_get _ hr] at hm
    obtain ⟨x, hx, hc⟩ := List.mem_map.1 (show c ∈ List.map _ _ from hm)
    have mx := List.mem_filter.1 hx
    obtain ⟨r1, c1, h1, h2, _⟩ := edge_ok h mx.1
    have : x.r = r := by simpa using mx.2
    exact ⟨x, mx.1, this, by rw [h2] at hc ⊢; rw [Int.toNat_natCast] at hc; rw [hc]⟩
  · rintro ⟨x, hx, h1, h2⟩
    obtain ⟨r1, c1, h3, h4, h5, h6, h7, h8⟩ := edge_ok h hx
    have hr : r < 64 := by omega
    rw [toOf_get _ hr]
    show c ∈ List.map _ _
    refine List.mem_map.2 ⟨x, List.mem_filter.2 ⟨hx, by simpa using h1⟩, by rw [h2, Int.toNat_natCast]⟩
theorem eg_lt {g : Gr} (h : chk g = true) {r c : Nat} (he : Eg (toOf g.es) r c) : r < g.rows.toNat ∧ c < g.cols.toNat := by
  obtain ⟨x, hx, h1, h2⟩ := (eg_iff h r c).1 he
  obtain ⟨r1, c1, h3, h4, h5, h6, _⟩ := edge_ok h hx
  omega
theorem rise_all {g : Gr} (h : chk g = true) (r : Nat) : ((toOf g.es)[r]?.getD []).Pairwise (· < ·) := by
  by_cases hr : r < 64
  · rw [toOf_get _ hr]
    have := toOf_rising h g.es.length r
    rw [List.take_length] at this
    exact this
  · rw [List.getElem?_eq_none (by rw [toOf_len]; omega)]
    exact List.Pairwise.nil
/-- What is known of the pairs that Most tells, and of the rows and columns that Cover tells. -/
structure Law19 (g : Gr) (K : Nat) (f : Nat → Int) (P Q : Nat → Bool) : Prop where
  pairs : (mostAt g g.rows.toNat).l = (List.range g.rows.toNat).filterMap fun x => if f x < 0 then none else some (x, (f x).toNat)
  mat : IsMat (Eg (toOf g.es)) (fun _ => true) (fun _ => true) f
  num : cnt (hasP f) 64 = K
  max : ∀ f', IsMat (Eg (toOf g.es)) (fun _ => true) (fun _ => true) f' → cnt (hasP f') 64 ≤ K
  lex : ∀ x, x < g.rows.toNat → LexAt (Eg (toOf g.es)) K f x
  cov : IsCov (Eg (toOf g.es)) (fun _ => true) (fun _ => true) P Q
  cnum : cnt P 64 + cnt Q 64 = K
  rows : coverRows g = (List.range g.rows.toNat).filter P
  cols : coverCols g = (List.range g.cols.toNat).filter Q
  rlt : ∀ x, P x = true → x < g.rows.toNat
  clt : ∀ c, Q c = true → c < g.cols.toNat
  closed : ∀ x c, x < g.rows.toNat → P x = false → Eg (toOf g.es) x c → Q c = true
  near : ∀ c, Q c = true → ∃ x, x < g.rows.toNat ∧ P x = false ∧ Eg (toOf g.es) x c
theorem cnt_range (p : Nat → Bool) {n m : Nat} (hn : n ≤ m) (hp : ∀ x, p x = true → x < n) : cnt p m = ((List.range n).filter p).length := by
  show cnt p m = cnt p n
  induction m with
  | zero => obtain rfl : n = 0 := by omega
            rfl
  | succ m ih =>
    by_cases e : n = m + 1
    · rw [e]
    · have h0 : ¬ p m = true := fun h => by
        have := hp m h
        omega
      rw [cnt_succ, ih (by omega), if_neg h0, Nat.add_zero]
theorem law19 {g : Gr} (h : chk g = true) : ∃ K f P Q, Law19 g K f P Q := by
  have hok := toOf_ok h
  have hsz := chk_size h
  have hR : g.rows.toNat ≤ 64 := by omega
  have hC : g.cols.toNat ≤ 64 := by omega
  obtain ⟨K, ku⟩ := pairAll_kuhn hok g.rows.toNat hR
  have hsmall : Small (Eg (toOf g.es)) := fun x c he => Eg.lt hok he
  have hmax : ∀ f', IsMat (Eg (toOf g.es)) (fun _ => true) (fun _ => true) f' → cnt (hasP f') 64 ≤ K := by
    intro f' hf
    refine ku.best.max hsmall ⟨fun x hx => ?_, fun x hx => ?_, hf.one⟩
    · obtain ⟨c, h1, h2, _⟩ := hf.edge x hx
      exact ⟨c, h1, h2, rfl⟩
    · obtain ⟨c, h1, h2, _⟩ := hf.edge x hx
      have := (eg_lt h h2).1
      simp [this]
  obtain ⟨mi, ml⟩ := mostF_tells (tl := toOf g.es) (fun gone hg => hok.gone' hg) (rise_all h) hmax (p := pairAll (toOf g.es) g.rows.toNat) ku.mat ku.num g.rows.toNat hR
  have re := visAll_reached hok ku.mat.ok g.rows.toNat hR
  have sh := re.shut (fun _ => rfl) (fun _ => rfl) ku
  have hV : ∀ c, getB (visAll (toOf g.es) (pairAll (toOf g.es) g.rows.toNat).1 (pairAll (toOf g.es) g.rows.toNat).2 g.rows.toNat).2 c = true → ∃ x, getB (visAll (toOf g.es) (pairAll (toOf g.es) g.rows.toNat).1 (pairAll (toOf g.es) g.rows.toNat).2 g.rows.toNat).1 x = true ∧ Eg (toOf g.es) x c := by
    intro c hc
    have := (re.least (fun x => getB (visAll (toOf g.es) (pairAll (toOf g.es) g.rows.toNat).1 (pairAll (toOf g.es) g.rows.toNat).2 g.rows.toNat).1 x = true) (fun c => ∃ x, getB (visAll (toOf g.es) (pairAll (toOf g.es) g.rows.toNat).1 (pairAll (toOf g.es) g.rows.toNat).2 g.rows.toNat).1 x = true ∧ Eg (toOf g.es) x c)
      (fun x c hx he => ⟨x, hx, he⟩) (fun c q ⟨x, hx, he⟩ hq => re.cols c q (re.rows x c hx he) hq) (fun x hx hr => re.free x hx hr)).2 c hc
    exact this
  obtain ⟨cv, cn⟩ := cov_of_shut ku.mat (A := fun x => decide (x < g.rows.toNat)) (B := fun _ => true)
    (R := getB (visAll (toOf g.es) (pairAll (toOf g.es) g.rows.toNat).1 (pairAll (toOf g.es) g.rows.toNat).2 g.rows.toNat).1)
    (V := getB (visAll (toOf g.es) (pairAll (toOf g.es) g.rows.toNat).1 (pairAll (toOf g.es) g.rows.toNat).2 g.rows.toNat).2)
    ⟨sh.col, fun x c h1 h2 _ => sh.row x c h1 h2 trivial⟩ (fun x h1 h2 => re.free x (by simpa using h1) h2) (fun x c _ hx => by
      have := ku.rows x (by omega)
      simp [this.1])
  have hRE : ∀ x, getB (visAll (toOf g.es) (pairAll (toOf g.es) g.rows.toNat).1 (pairAll (toOf g.es) g.rows.toNat).2 g.rows.toNat).1 x = getB (visOf g g.rows.toNat).1 x := fun _ => rfl
  have cv2 : IsCov (Eg (toOf g.es)) (fun _ => true) (fun _ => true) (fun x => decide (x < g.rows.toNat) && !getB (visOf g g.rows.toNat).1 x) (fun c => getB (visOf g g.rows.toNat).2 c) :=
    ⟨fun x c _ _ he => cv.edge x c (by have := (eg_lt h he).1; simpa using this) rfl he⟩
  have hle : cnt (fun x => decide (x < g.rows.toNat) && !getB (visOf g g.rows.toNat).1 x) 64 + cnt (fun c => getB (visOf g g.rows.toNat).2 c) 64 ≤ K := by
    rw [← ku.num]; exact Nat.le_trans cn (cnt_and_le _ _ _)
  have mm : IsMat (Eg (toOf g.es)) (fun _ => true) (fun _ => true) (getI (mostF (toOf g.es) (pairAll (toOf g.es) g.rows.toNat) g.rows.toNat).row) := mi.mat.isMat (fun _ _ => rfl) fun _ _ _ => rfl
  refine ⟨K, getI (mostF (toOf g.es) (pairAll (toOf g.es) g.rows.toNat) g.rows.toNat).row, _, _, ml, mm, mi.num, hmax, mi.lex, cv2, Nat.le_antisymm hle ?_, ?_, rfl, ?_, ?_, ?_, ?_⟩
  · rw [← mi.num]; exact weak hsmall mm cv2
  · show rowsTo _ _ = _
    unfold rowsTo
    apply List.filter_congr
    intro x hx
    have : x < g.rows.toNat := by simpa using hx
    simp [this]
  · intro x hx
    simp at hx
    have := hx.1
    omega
  · intro c hc
    obtain ⟨x, _, he⟩ := hV c hc
    exact (eg_lt h he).2
  · intro x c hx hp he
    have : getB (visOf g g.rows.toNat).1 x = true := by
      simp [hx] at hp; exact hp
    exact re.rows x c this he
  · intro c hc
    obtain ⟨x, hx, he⟩ := hV c hc
    have hx' : getB (visOf g g.rows.toNat).1 x = true := hx
    exact ⟨x, (eg_lt h he).1, by simp [hx'], he⟩

/-- As many pairs as the list has. -/
theorem pairs_len {n : Nat} (f : Nat → Int) (hn : n ≤ 64) (hf : ∀ x, 0 ≤ f x → x < n) : ((List.range n).filterMap fun x => if f x < 0 then none else some (x, (f x).toNat)).length = cnt (hasP f) 64 := by
  rw [cnt_range (hasP f) hn (fun x hx => hf x (by simpa [hasP] using hx))]
  have : ∀ l : List Nat, (l.filterMap fun x => if f x < 0 then none else some (x, (f x).toNat)).length = (l.filter (hasP f)).length := by
    intro l
    induction l with
    | nil => rfl
    | cons a l ih =>
      rw [List.filterMap_cons, List.filter_cons]
      by_cases h : f a < 0
      · have : hasP f a = false := by simp [hasP]; omega
        simp [h, this, ih]
      · have : hasP f a = true := by simp [hasP]; omega
        simp [h, this, ih]
  exact this _
theorem pairs_mem {n : Nat} {f : Nat → Int} {p : Nat × Nat} : p ∈ ((List.range n).filterMap fun x => if f x < 0 then none else some (x, (f x).toNat)) ↔ p.1 < n ∧ f p.1 = p.2 := by
  rw [List.mem_filterMap]
  constructor
  · rintro ⟨x, hx, h⟩
    have hxn : x < n := by simpa using hx
    by_cases e : f x < 0
    · rw [if_pos e] at h; cases h
    · rw [if_neg e] at h; cases h
      exact ⟨hxn, by show f x = ((f x).toNat : Int); omega⟩
  · rintro ⟨h1, h2⟩
    refine ⟨p.1, by simpa using h1, ?_⟩
    rw [if_neg (by omega), h2, Int.toNat_natCast]
theorem pairs_rise (n : Nat) (f : Nat → Int) : ((List.range n).filterMap fun x => if f x < 0 then none else some (x, (f x).toNat)).Pairwise fun p q => p.1 < q.1 := by
  rw [List.pairwise_filterMap]
  refine List.Pairwise.imp ?_ List.pairwise_lt_range
  intro x y hxy p hp q hq
  by_cases e : f x < 0
  · simp [e] at hp
  · by_cases e2 : f y < 0
    · simp [e2] at hq
    · simp only [e, e2, if_false] at hp hq
      cases hp; cases hq; exact hxy
end Go.Proofs.YtjhomkdnhdhffaaGreat
