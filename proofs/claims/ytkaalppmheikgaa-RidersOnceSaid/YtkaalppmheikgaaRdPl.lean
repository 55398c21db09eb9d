/- Riders, plain. -/
import Derived.Test.YtkaalppmheikgaaHpPl
namespace Go.Proofs.Ytkaalppmheikgaa
open Go.RowKit

/-- A request. -/
structure Rq where
  id : Id8
  fx : Int
  fy : Int
  tx : Int
  ty : Int
  seats : Int
  cls : Int
  base : Int
  ttl : Int
deriving DecidableEq
/-- One that waits. -/
structure Wt where
  rq : Rq
  since : Int
  num : Int
deriving DecidableEq
/-- The settings. -/
structure Cf where
  q : Int
  d : Int
  w : Int
  ttl : Int
  b : Int
def zI : Id8 := ⟨zs 8, zs_B8⟩
def rqZ : Rq := ⟨zI, 0, 0, 0, 0, 0, 0, 0, 0⟩
def wtZ : Wt := ⟨rqZ, 0, 0⟩
def amg (a n : Int) : Bool := decide (1 ≤ a) && decide (a ≤ n)
def cfOk (c : Cf) : Bool := amg c.q 64 && amg c.d 64 && amg c.w 1048576 && amg c.ttl 1048576 && amg c.b 1048576
def reqOk (c : Cf) (x : Rq) : Bool := !(x.seats == 0) && !(x.cls == 0) && !decide (x.base < 0) && !decide (c.b < x.base) && amg x.ttl c.ttl
def endOf (x : Wt) : Int := x.since + x.rq.ttl
theorem amg_iff {a n : Int} : amg a n = true ↔ 1 ≤ a ∧ a ≤ n := by unfold amg; simp
/-- Riders. -/
structure RS where
  cf : Cf
  now : Int
  next : Int
  S : List Id8
  T : List (Id8 × Wt)
/-- What holds of all that calls made. -/
structure RInv (R : RS) : Prop where
  cf : cfOk R.cf = true
  cnt : R.next = R.S.length
  clock : 0 ≤ R.now ∧ R.now ≤ 1099511627776
  known : R.S.Nodup
  keys : (Keys R.T).Nodup
  ids : ∀ p ∈ R.T, p.2.rq.id = p.1 ∧ p.1 ∈ R.S
  low : ∀ p ∈ R.T, 0 ≤ p.2.num ∧ p.2.num < R.next
  times : ∀ p ∈ R.T, 0 ≤ p.2.since ∧ p.2.since ≤ R.now
  ttls : ∀ p ∈ R.T, 1 ≤ p.2.rq.ttl ∧ p.2.rq.ttl ≤ 1048576
  nums : (R.T.map fun p => p.2.num).Nodup
  room : (R.T.length : Int) ≤ R.cf.q
def tickOk (n : Int) : Bool := decide (0 ≤ n) && decide (n ≤ 1099511627776)
/-- Admit. -/
def admE (R : RS) (now : Int) (x : Rq) : Int :=
  if tickOk now = false then 1 else if now < R.now then 4 else if x.id ∈ R.S then 130 else if reqOk R.cf x = false then 1 else if (R.T.length : Int) = R.cf.q then 132 else 0
def admR (R : RS) (now : Int) (x : Rq) : RS :=
  if admE R now x = 0 then ⟨R.cf, now, R.next + 1, R.S ++ [x.id], (x.id, ⟨x, now, R.next⟩) :: R.T⟩ else R
/-- Take. -/
def takE (R : RS) (id : Id8) : Int := if (lkp id R.T).isSome then 0 else 131
def takR (R : RS) (id : Id8) : RS := { R with T := delM R.T id }
def wtOf (R : RS) (id : Id8) : Wt := (lkp id R.T).getD wtZ
/-- Those that wait, by their numbers. -/
def lstOf (T : List (Id8 × Wt)) : List Wt := (T.map (·.2)).mergeSort fun a b => decide (a.num ≤ b.num)
theorem lst_perm (T : List (Id8 × Wt)) : (lstOf T).Perm (T.map (·.2)) := List.mergeSort_perm _ _
theorem lst_len (T : List (Id8 × Wt)) : (lstOf T).length = T.length := by rw [(lst_perm T).length_eq, List.length_map]
theorem lst_mem {T : List (Id8 × Wt)} {x : Wt} : x ∈ lstOf T ↔ ∃ p ∈ T, p.2 = x := by rw [(lst_perm T).mem_iff, List.mem_map]
theorem lst_sorted (T : List (Id8 × Wt)) : (lstOf T).Pairwise fun a b => decide (a.num ≤ b.num) = true :=
  List.pairwise_mergeSort (fun a b c h1 h2 => by simp at *; omega) (fun a b => by simp; omega) _
theorem lst_rising {R : RS} (h : RInv R) : (lstOf R.T).Pairwise fun a b => a.num < b.num := by
  have h1 : ((lstOf R.T).map Wt.num).Nodup := by
    refine (((lst_perm R.T).map Wt.num).nodup_iff).2 ?_
    rw [List.map_map]; exact h.nums
  have h2 := (lst_sorted R.T).and (List.pairwise_map.1 h1)
  refine h2.imp ?_
  intro a b ⟨h3, h4⟩
  simp at h3
  have : a.num ≠ b.num := h4
  omega
theorem RInv.look {R : RS} (h : RInv R) {id : Id8} {x : Wt} (hx : lkp id R.T = some x) : (id, x) ∈ R.T := (lkp_mem h.keys).1 hx
theorem RInv.next {R : RS} (h : RInv R) {x : Wt} (hx : x ∈ lstOf R.T) : lkp x.rq.id R.T = some x := by
  obtain ⟨p, hp, rfl⟩ := lst_mem.1 hx
  refine (lkp_mem h.keys).2 ?_
  rw [(h.ids p hp).1]; exact hp
theorem delM_mem {T : List (Id8 × Wt)} {x : Id8} {p : Id8 × Wt} : p ∈ delM T x ↔ p ∈ T ∧ p.1 ≠ x := by unfold delM; simp
theorem RInv.take {R : RS} (h : RInv R) (id : Id8) : RInv (takR R id) := by
  have hs : (delM R.T id).Sublist R.T := List.filter_sublist
  exact ⟨h.cf, h.cnt, h.clock, h.known, nodup_delM h.keys id, fun p hp => h.ids p (hs.subset hp), fun p hp => h.low p (hs.subset hp), fun p hp => h.times p (hs.subset hp), fun p hp => h.ttls p (hs.subset hp), h.nums.sublist (hs.map _), by
    have h1 := hs.length_le
    have h2 := h.room
    show ((delM R.T id).length : Int) ≤ R.cf.q
    omega⟩
theorem admE_cases (R : RS) (now : Int) (x : Rq) : admE R now x = 0 ↔ tickOk now = true ∧ R.now ≤ now ∧ x.id ∉ R.S ∧ reqOk R.cf x = true ∧ (R.T.length : Int) ≠ R.cf.q := by
  unfold admE
  by_cases h1 : tickOk now = false
  · simp [h1]
  rw [if_neg h1]
  simp only [Bool.not_eq_false] at h1
  by_cases h2 : now < R.now
  · rw [if_pos h2]; constructor
    · intro h; omega
    · intro h; omega
  rw [if_neg h2]
  by_cases h3 : x.id ∈ R.S
  · simp [h3]
  rw [if_neg h3]
  by_cases h4 : reqOk R.cf x = false
  · simp [h4]
  rw [if_neg h4]
  simp only [Bool.not_eq_false] at h4
  by_cases h5 : (R.T.length : Int) = R.cf.q
  · simp [h5]
  rw [if_neg h5]
  simp [h1, h3, h4, h5]
  omega
theorem RInv.admit {R : RS} (h : RInv R) (now : Int) (x : Rq) : RInv (admR R now x) := by
  unfold admR
  by_cases h0 : admE R now x = 0
  · rw [if_pos h0]
    obtain ⟨h1, h2, h3, h4, h5⟩ := (admE_cases R now x).1 h0
    have hnk : x.id ∉ Keys R.T := fun hk => by
      obtain ⟨p, hp, e⟩ := List.mem_map.1 hk
      exact h3 (by rw [← e]; exact (h.ids p hp).2)
    have htl : 1 ≤ x.ttl ∧ x.ttl ≤ 1048576 := by
      unfold reqOk at h4
      simp only [Bool.and_eq_true] at h4
      have h6 := amg_iff.1 h4.2
      have h7 := h.cf
      unfold cfOk at h7
      simp only [Bool.and_eq_true] at h7
      have h8 := amg_iff.1 h7.1.2
      omega
    have htk : 0 ≤ now ∧ now ≤ 1099511627776 := by unfold tickOk at h1; simpa using h1
    have hlow := h.low
    have hcnt := h.cnt
    refine ⟨h.cf, ?_, htk, ?_, ?_, ?_, ?_, ?_, ?_, ?_, ?_⟩
    · show R.next + 1 = ((R.S ++ [x.id]).length : Int)
      rw [List.length_append, List.length_singleton]; omega
    · show (R.S ++ [x.id]).Nodup
      rw [List.nodup_append]
      refine ⟨h.known, by simp, ?_⟩
      intro a ha c hc e
      simp at hc
      subst hc; subst e; exact h3 ha
    · show (x.id :: Keys R.T).Nodup
      rw [List.nodup_cons]; exact ⟨hnk, h.keys⟩
    · intro p hp
      rcases List.mem_cons.1 hp with rfl | hp
      · exact ⟨rfl, List.mem_append_right _ (List.mem_singleton.2 rfl)⟩
      · exact ⟨(h.ids p hp).1, List.mem_append_left _ (h.ids p hp).2⟩
    · intro p hp
      show 0 ≤ p.2.num ∧ p.2.num < R.next + 1
      rcases List.mem_cons.1 hp with rfl | hp
      · dsimp only; omega
      · have := hlow p hp; omega
    · intro p hp
      rcases List.mem_cons.1 hp with rfl | hp
      · exact ⟨htk.1, Int.le_refl _⟩
      · have h6 := h.times p hp
        show 0 ≤ p.2.since ∧ p.2.since ≤ now
        omega
    · intro p hp
      rcases List.mem_cons.1 hp with rfl | hp
      · exact htl
      · exact h.ttls p hp
    · show (R.next :: R.T.map fun p => p.2.num).Nodup
      rw [List.nodup_cons]
      refine ⟨fun hm => ?_, h.nums⟩
      obtain ⟨p, hp, e⟩ := List.mem_map.1 hm
      have := (hlow p hp).2
      omega
    · have := h.room
      show ((((x.id, (⟨x, now, R.next⟩ : Wt)) :: R.T).length : Nat) : Int) ≤ R.cf.q
      rw [List.length_cons]; omega
  · rw [if_neg h0]; exact h
/-! ### The heap's items and those that wait -/
/-- The heap's items are those that wait. -/
def HRel (T : List (Id8 × Wt)) (l : List It) : Prop := (l.map fun a => (a.key, a.tick, a.num)).Perm (T.map fun p => (p.1, endOf p.2, p.2.num))
theorem HRel.len {T : List (Id8 × Wt)} {l : List It} (h : HRel T l) : l.length = T.length := by have := h.length_eq; simpa using this
theorem HRel.mem {T : List (Id8 × Wt)} {l : List It} (h : HRel T l) {a : It} (ha : a ∈ l) : ∃ p ∈ T, p.1 = a.key ∧ endOf p.2 = a.tick ∧ p.2.num = a.num := by
  have h1 := h.mem_iff.1 (List.mem_map.2 ⟨a, ha, rfl⟩)
  obtain ⟨p, hp, e⟩ := List.mem_map.1 h1
  simp only [Prod.mk.injEq] at e
  exact ⟨p, hp, e.1, e.2.1, e.2.2⟩
theorem HRel.mem' {T : List (Id8 × Wt)} {l : List It} (h : HRel T l) {p : Id8 × Wt} (hp : p ∈ T) : ∃ a ∈ l, a.key = p.1 ∧ a.tick = endOf p.2 ∧ a.num = p.2.num := by
  have h1 := h.mem_iff.2 (List.mem_map.2 ⟨p, hp, rfl⟩)
  obtain ⟨a, ha, e⟩ := List.mem_map.1 h1
  simp only [Prod.mk.injEq] at e
  exact ⟨a, ha, e.1, e.2.1, e.2.2⟩
theorem HRel.nil : HRel [] [] := List.Perm.nil
theorem HRel.put {T : List (Id8 × Wt)} {l l' : List It} (h : HRel T l) (k : Id8) (x : Wt) {y : It} (hy : y.key = k ∧ y.tick = endOf x ∧ y.num = x.num) (hp : l'.Perm (l ++ [y])) : HRel ((k, x) :: T) l' := by
  unfold HRel at *
  refine (hp.map _).trans ?_
  rw [List.map_append, List.map_cons, List.map_nil, List.map_cons, hy.1, hy.2.1, hy.2.2]
  exact (List.perm_append_comm).trans (List.Perm.cons _ h)
theorem HRel.perm {T T2 : List (Id8 × Wt)} {l : List It} (h : HRel T l) (hp : T.Perm T2) : HRel T2 l := List.Perm.trans h (hp.map _)
theorem HRel.drop {T : List (Id8 × Wt)} {l l' : List It} (h : HRel T l) (hk : (Keys T).Nodup) {y : It} (hp : l.Perm (y :: l')) : HRel (delM T y.key) l' := by
  obtain ⟨p, hpT, e1, e2, e3⟩ := h.mem (hp.mem_iff.2 List.mem_cons_self)
  have hdel : T.Perm (p :: delM T y.key) := by
    rw [← e1]
    clear h hp e2 e3 e1
    induction T with
    | nil => cases hpT
    | cons q T ih =>
      unfold Keys at hk ih
      rw [List.map_cons, List.nodup_cons] at hk
      rcases List.mem_cons.1 hpT with rfl | hpT
      · have h1 := delM_none (T := T) (x := p.1) hk.1
        unfold delM at *
        rw [List.filter_cons_of_neg (by simp), h1]
      · have hne : q.1 ≠ p.1 := fun e => hk.1 (by rw [e]; exact List.mem_map_of_mem hpT)
        unfold delM at *
        rw [List.filter_cons_of_pos (by simpa using hne)]
        exact (List.Perm.cons q (ih hk.2 hpT)).trans (List.Perm.swap _ _ _)
  unfold HRel at *
  have h1 := (hp.map fun a => (a.key, a.tick, a.num)).symm.trans (h.trans (hdel.map _))
  rw [List.map_cons, List.map_cons, e1, e2, e3] at h1
  exact h1.cons_inv
end Go.Proofs.Ytkaalppmheikgaa
