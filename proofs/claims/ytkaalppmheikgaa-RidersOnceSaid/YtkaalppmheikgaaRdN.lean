/- Riders that were made behind a world: what each call does with them. -/
import Derived.Test.YtkaalppmheikgaaRdNw
import Derived.Test.YtkaalppmheikgaaRdEx
import Derived.Test.YtkaalppmheikgaaRdAd
import Derived.Test.YtkaalppmheikgaaRdLs
import Derived.Test.YtkaalppmheikgaaRdSa
namespace Go.Proofs.Ytkaalppmheikgaa
open Go.RowKit

theorem RInv.most {R : RS} (h : RInv R) : R.T.length ≤ 64 := by
  have h1 := h.cf
  unfold cfOk at h1
  simp only [Bool.and_eq_true] at h1
  have h2 := (amg_iff.1 h1.1.1.1.1).2
  have := h.room
  omega
/-- What Expire answers, what it leaves. -/
def ExpR (R : RS) (now : Int) (L : List Wt) (R2 : RS) : Prop :=
  ((tickOk now = false ∨ now < R.now) ∧ L = [] ∧ R2 = R) ∨ (tickOk now = true ∧ R.now ≤ now ∧ ∃ U, ExpOk R.T now L U ∧ R2 = { R with now := now, T := U })
theorem RInv.expire {R R2 : RS} (h : RInv R) {now : Int} {L : List Wt} (he : ExpR R now L R2) : RInv R2 := by
  rcases he with ⟨_, _, rfl⟩ | ⟨ht, hn, U, hU, rfl⟩
  · exact h
  · have hm : ∀ q ∈ U, q ∈ R.T := fun q hq => hU.perm.mem_iff.1 (List.mem_append_right _ hq)
    have hk := (hU.perm.map (fun q : Id8 × Wt => q.1)).nodup_iff.2 h.keys
    have hnm := (hU.perm.map (fun q : Id8 × Wt => q.2.num)).nodup_iff.2 h.nums
    rw [List.map_append] at hk hnm
    have htk : 0 ≤ now ∧ now ≤ 1099511627776 := by unfold tickOk at ht; simpa using ht
    refine ⟨h.cf, h.cnt, htk, h.known, (List.nodup_append.1 hk).2.1, fun q hq => h.ids q (hm q hq), fun q hq => h.low q (hm q hq), fun q hq => ?_, fun q hq => h.ttls q (hm q hq), (List.nodup_append.1 hnm).2.1, ?_⟩
    · have := h.times q (hm q hq)
      show 0 ≤ q.2.since ∧ q.2.since ≤ now
      omega
    · have := hU.len
      have := h.room
      show (U.length : Int) ≤ R.cf.q
      omega
/-- A list lies elsewhere. -/
def NotOwn (w : World) (p : Nat) (A : Option Addr) : Prop := ∀ g o, A = some ⟨g, o, none⟩ → ¬ Foot w p g
section
variable {w0 w w' : World} {p : Nat} {R : RS}
theorem notOwn_old (h : Rd w0 w p R) {A : Option Addr} (hA : ∀ g o, A = some ⟨g, o, none⟩ → g < w0.heap.size) : NotOwn w p A := by
  intro g o e ho
  have := h.foot_old ho
  have := hA g o e
  omega
theorem notOwn_new (h : Rd w0 w p R) {A : Option Addr} (hA : ∀ g o, A = some ⟨g, o, none⟩ → w.heap.size ≤ g) (hb : Below w.heap.size w w') : NotOwn w' p A := by
  intro g o e ho
  have := h.foot_lt (h.foot_kept hb ho)
  have := hA g o e
  omega
theorem NotOwn.kept {A : Option Addr} (hn : NotOwn w p A) (h : Rd w0 w p R) (hb : Below w.heap.size w w') : NotOwn w' p A :=
  fun g o e ho => hn g o e (h.foot_kept hb ho)
theorem NotOwn.own {A : Option Addr} (hn : NotOwn w p A) (ho : OnlyOwn w w' p) (hA : ∀ g o, A = some ⟨g, o, none⟩ → g < w.heap.size) : NotOwn w' p A := by
  intro g o e hf
  obtain ⟨S, q1, q2, q3⟩ := ho
  rcases q3 g hf with h1 | h1
  · exact hn g o e h1
  · have := hA g o e; omega
theorem RowsAt.own {α : Type} {s : Nat} {f : α → Array Value} {A : Option Addr} {l : List α} (hr : RowsAt s f w A l) (ho : OnlyOwn w w' p) (hn : NotOwn w p A) : RowsAt s f w' A l := by
  obtain ⟨S, q1, q2, q3⟩ := ho
  exact hr.kp q1 fun g o e hS => hn g o e (q2 g hS)
theorem rd_admit (h : Rd w0 w p R) (now : Int) (x : Rq) (hS : R.S.length ≤ 1152921504606846976) :
    Calls Try.prog 14 #[.pointer (some ⟨p, 0, none⟩), .int .i64 now, .agg (rqE x)] w fun e w' => e = .returned (.int .i64 (admE R now x)) ∧ Rd w0 w' p (admR R now x) ∧ OnlyOwn w w' p := by
  obtain ⟨B, H, l, came, h1, h2, h3, hi⟩ := h
  refine (admit_any h1 hi.cf hi.room (fun q hq => (hi.ids q hq).2) hi.cnt now x hS).mono ?_
  rintro e w' ⟨rfl, hp⟩
  exact ⟨rfl, Rd.post h1 h2 h3 hp (hi.admit now x)⟩
theorem rd_take (h : Rd w0 w p R) (x : Id8) :
    Calls Try.prog 21 #[.pointer (some ⟨p, 0, none⟩), .agg (bys x.1)] w fun e w' => e = .returned (.tuple #[.agg (wtE (wtOf R x)), .int .i64 (takE R x)]) ∧ Rd w0 w' p (takR R x) ∧ OnlyOwn w w' p := by
  obtain ⟨B, H, l, came, h1, h2, h3, hi⟩ := h
  have hm := hi.most
  refine (take_any h1 (by omega) x).mono ?_
  rintro e w' ⟨rfl, hp⟩
  exact ⟨rfl, Rd.post h1 h2 h3 hp.weak (hi.take x)⟩
theorem rd_cancel (h : Rd w0 w p R) (x : Id8) :
    Calls Try.prog 20 #[.pointer (some ⟨p, 0, none⟩), .agg (bys x.1)] w fun e w' => e = .returned (.int .i64 (takE R x)) ∧ Rd w0 w' p (takR R x) ∧ OnlyOwn w w' p := by
  obtain ⟨B, H, l, came, h1, h2, h3, hi⟩ := h
  have hm := hi.most
  refine (cancel_any h1 (by omega) x).mono ?_
  rintro e w' ⟨rfl, hp⟩
  exact ⟨rfl, Rd.post h1 h2 h3 hp (hi.take x)⟩
theorem rd_find (h : Rd w0 w p R) (x : Id8) : Calls Try.prog 41 #[.pointer (some ⟨p, 0, none⟩), .agg (bys x.1)] w fun e w' => e = .returned (.tuple #[.agg (wtE (wtOf R x)), .bool (lkp x R.T).isSome]) ∧ Below w.heap.size w w' := by
  obtain ⟨B, H, l, came, h1, h2, h3, hi⟩ := h
  exact find_any h1 x
theorem rd_known (h : Rd w0 w p R) (x : Id8) : Calls Try.prog 13 #[.pointer (some ⟨p, 0, none⟩), .agg (bys x.1)] w fun e w' => e = .returned (.bool (decide (x ∈ R.S))) ∧ Below w.heap.size w w' := by
  obtain ⟨B, H, l, came, h1, h2, h3, hi⟩ := h
  exact known_any h1 x
theorem rd_list (h : Rd w0 w p R) (hS : R.S.length ≤ 1152921504606846976) : Calls Try.prog 11 #[.pointer (some ⟨p, 0, none⟩)] w fun e w' => ∃ A c, e = .returned (.slice A (lstOf R.T).length c) ∧ RowsAt 18 wtE w' A (lstOf R.T) ∧ (∀ g o, A = some ⟨g, o, none⟩ → w.heap.size ≤ g) ∧ Below w.heap.size w w' := by
  obtain ⟨B, H, l, came, h1, h2, h3, hi⟩ := h
  have hm := hi.most
  have hc := hi.cnt
  refine (list_any h1 (fun q hq => ?_) hi.nums (by omega)).mono ?_
  · have := hi.low q hq; omega
  rintro e w' ⟨v', rfl, q1, q2⟩
  obtain ⟨A, c, rfl, hr⟩ := Row.rows wtE_size rfl (Row.of_owns q1)
  exact ⟨A, c, rfl, hr, fun g o e => own_base' q1 (by rw [e]; rfl), q2⟩
theorem rd_state (h : Rd w0 w p R) (hS : R.S.length ≤ 8796093022208) : Calls Try.prog 12 #[.pointer (some ⟨p, 0, none⟩)] w fun e w' => ∃ A c, e = .returned (.tuple #[.int .i64 R.now, .int .i64 R.next, .slice A (sortI R.S).length c]) ∧ RowsAt 8 idE w' A (sortI R.S) ∧ (∀ g o, A = some ⟨g, o, none⟩ → w.heap.size ≤ g) ∧ Below w.heap.size w w' := by
  obtain ⟨B, H, l, came, h1, h2, h3, hi⟩ := h
  refine (state_any h1 hS).mono ?_
  rintro e w' ⟨v', rfl, q1, q2⟩
  obtain ⟨A, c, rfl, hr⟩ := Row.rows idE_size rfl (Row.of_owns q1)
  exact ⟨A, c, rfl, hr, fun g o e => own_base' q1 (by rw [e]; rfl), q2⟩
theorem rd_expire (h : Rd w0 w p R) (now : Int) : Calls Try.prog 16 #[.pointer (some ⟨p, 0, none⟩), .int .i64 now] w fun e w' =>
    ∃ A c L R2, e = .returned (.slice A L.length c) ∧ RowsAt 18 wtE w' A L ∧ (∀ g o, A = some ⟨g, o, none⟩ → w.heap.size ≤ g) ∧ ExpR R now L R2 ∧ Rd w0 w' p R2 ∧ OnlyOwn w w' p ∧ NotOwn w' p A := by
  have hrd := h
  obtain ⟨B, H, l, came, h1, h2, h3, hi⟩ := h
  by_cases hno : tickOk now = false ∨ now < R.now
  · refine (expire_no h1 now hno).mono ?_
    rintro e w' ⟨rfl, hb⟩
    exact ⟨none, 0, [], R, rfl, .inl rfl, fun g o e => (by cases e), .inl ⟨hno, rfl, rfl⟩, hrd.kept hb, OnlyOwn.refl hb hrd, fun g o e => (by cases e)⟩
  · have ht : tickOk now = true := by cases e : tickOk now with
      | true => rfl
      | false => exact absurd (.inl e) hno
    have hge : R.now ≤ now := by
      rcases Int.lt_or_le now R.now with e | e
      · exact absurd (.inr e) hno
      · exact e
    have hm := hi.most
    refine (expire_any h1 now ht hge (by omega) (fun q hq => (hi.ids q hq).1) hi.nums).mono ?_
    rintro e w' ⟨v, L, U, rfl, q1, q2, B', H', l', c', q3, q4, q5⟩
    obtain ⟨A, c, rfl, hr⟩ := Row.rows wtE_size rfl (Row.of_owns q1)
    have hR : ExpR R now L { R with now := now, T := U } := .inr ⟨ht, hge, U, q2, rfl⟩
    obtain ⟨r1, r2⟩ := Rd.post h1 h2 h3 ⟨B', H', l', c', q3, q4, fun k hk => .inl (q5 k hk)⟩ (hi.expire hR)
    refine ⟨A, c, L, _, rfl, hr, fun g o e => own_base' q1 (by rw [e]; rfl), hR, r1, r2, fun g o e hf => ?_⟩
    have h5 := own_base' q1 (k := g) (by rw [e]; rfl)
    have h6 := h1.lt (q5 g (q3.foot.1 hf))
    omega
end
end Go.Proofs.Ytkaalppmheikgaa
