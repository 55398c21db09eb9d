/- A ledger that was made behind a world: what each call does with it; the laws' small functions. -/
import Derived.Test.YtnapfjgokeloeaaLedS
import Derived.Test.YtnapfjgokeloeaaCln
namespace Go.Proofs.Ytnapfjgokeloeaa
open Go.RowKit

/-- A ledger that was made behind w0. -/
def Led (w0 w : World) (p : Nat) (T : List (Id8 × Ac)) (E : List En) : Prop := ∃ b v, LedAt w p b T v E ∧ Below w0.heap.size w0 w ∧ ∀ k, LOwn p b v k → w0.heap.size ≤ k
section
variable {w0 w w' : World} {p : Nat} {T : List (Id8 × Ac)} {E : List En}
theorem Led.kept (h : Led w0 w p T E) (hb : Below w.heap.size w w') : Led w0 w' p T E := by
  obtain ⟨b, v, h1, h2, h3⟩ := h
  exact ⟨b, v, h1.kept hb, h2.trans (hb.mono h2.size), h3⟩
theorem Led.below (h : Led w0 w p T E) : Below w0.heap.size w0 w := by obtain ⟨b, v, h1, h2, h3⟩ := h; exact h2
theorem Led.later {w1 : World} (h : Led w1 w p T E) (hb : Below w0.heap.size w0 w1) : Led w0 w p T E := by
  obtain ⟨b, v, h1, h2, h3⟩ := h
  exact ⟨b, v, h1, hb.trans (h2.mono hb.size), fun k hk => Nat.le_trans hb.size (h3 k hk)⟩
theorem led_new (w : World) : Calls Try.prog 23 #[] w fun e w' => e = .returned (.pointer (some ⟨w.heap.size + 1, 0, none⟩)) ∧ Led w w' (w.heap.size + 1) [] [] := by
  refine (new_any w).mono ?_
  rintro e w' ⟨rfl, h1, h2⟩
  refine ⟨rfl, _, _, h1, h2, ?_⟩
  rintro k (rfl | rfl | hk)
  · omega
  · exact Nat.le_refl _
  · cases hk
theorem LedAt.uniq {b b' : Nat} {v v' : Value} {T' : List (Id8 × Ac)} {E' : List En} (h : LedAt w p b T v E) (h' : LedAt w p b' T' v' E') : b' = b ∧ v' = v := by
  have h1 := h'.blk
  rw [h.blk] at h1
  injection h1 with h1
  injection h1 with h1
  simp only [Array.mk.injEq, List.cons.injEq, Value.map.injEq, Option.some.injEq] at h1
  exact ⟨h1.1.symm, h1.2.1.symm⟩
/-- The blocks of the ledger at p. -/
def Foot (w : World) (p k : Nat) : Prop := ∃ b v T E, LedAt w p b T v E ∧ LOwn p b v k
theorem LedAt.foot {b : Nat} {v : Value} (h : LedAt w p b T v E) {k : Nat} : Foot w p k ↔ LOwn p b v k :=
  ⟨fun ⟨b', v', T', E', h1, h2⟩ => by obtain ⟨rfl, rfl⟩ := h.uniq h1; exact h2, fun h2 => ⟨b, v, T, E, h, h2⟩⟩
theorem Led.foot_old (h : Led w0 w p T E) {k : Nat} (hk : Foot w p k) : w0.heap.size ≤ k := by
  obtain ⟨b, v, h1, h2, h3⟩ := h
  exact h3 k (h1.foot.1 hk)
theorem Led.foot_lt (h : Led w0 w p T E) {k : Nat} (hk : Foot w p k) : k < w.heap.size := by
  obtain ⟨b, v, h1, h2, h3⟩ := h
  exact h1.lt (h1.foot.1 hk)
theorem Led.foot_kept (h : Led w0 w p T E) (hb : Below w.heap.size w w') {k : Nat} (hk : Foot w' p k) : Foot w p k := by
  obtain ⟨b, v, h1, h2, h3⟩ := h
  exact h1.foot.2 ((h1.kept hb).foot.1 hk)
/-- What is written is the ledger's, what it takes in is new. -/
def OnlyOwn (w w' : World) (p : Nat) : Prop := ∃ S : Nat → Prop, Kp S w w' ∧ (∀ k, S k → Foot w p k) ∧ ∀ k, Foot w' p k → Foot w p k ∨ w.heap.size ≤ k
theorem LedAt.only {b b' : Nat} {v v' : Value} {T2 : List (Id8 × Ac)} {E2 : List En} (h : LedAt w p b T v E) (h' : LedAt w' p b' T2 v' E2) (hk : Kp (LOwn p b v) w w') (ho : ∀ k, LOwn p b' v' k → LOwn p b v k ∨ w.heap.size ≤ k) : OnlyOwn w w' p :=
  ⟨_, hk, fun _ hk => h.foot.2 hk, fun k hk => (ho k (h'.foot.1 hk)).imp (fun h2 => h.foot.2 h2) id⟩
/-- A list lies elsewhere. -/
def NotOwn (w : World) (p : Nat) (A : Option Addr) : Prop := ∀ g o, A = some ⟨g, o, none⟩ → ¬ Foot w p g
theorem notOwn_old (h : Led w0 w p T E) {A : Option Addr} (hA : ∀ g o, A = some ⟨g, o, none⟩ → g < w0.heap.size) : NotOwn w p A := by
  intro g o e ho
  have := h.foot_old ho
  have := hA g o e
  omega
theorem notOwn_new (h : Led w0 w p T E) {A : Option Addr} (hA : ∀ g o, A = some ⟨g, o, none⟩ → w.heap.size ≤ g) (hb : Below w.heap.size w w') : NotOwn w' p A := by
  intro g o e ho
  have := h.foot_lt (h.foot_kept hb ho)
  have := hA g o e
  omega
theorem NotOwn.kept {A : Option Addr} (hn : NotOwn w p A) (h : Led w0 w p T E) (hb : Below w.heap.size w w') : NotOwn w' p A :=
  fun g o e ho => hn g o e (h.foot_kept hb ho)
theorem NotOwn.own {A : Option Addr} (hn : NotOwn w p A) (ho : OnlyOwn w w' p) (hA : ∀ g o, A = some ⟨g, o, none⟩ → g < w.heap.size) : NotOwn w' p A := by
  intro g o e hf
  obtain ⟨S, q1, q2, q3⟩ := ho
  rcases q3 g hf with h1 | h1
  · exact hn g o e h1
  · have := hA g o e; omega
theorem RowsAt.own {α : Type} {s : Nat} {f : α → Array Value} {A : Option Addr} {l : List α} (hr : RowsAt s f w A l) (ho : OnlyOwn w w' p) (hn : NotOwn w p A) : RowsAt s f w' A l := by
  obtain ⟨S, q1, q2, q3⟩ := ho
  exact hr.kp q1 fun g o e hS => hn g o e (q2 g hS)
theorem OnlyOwn.below (ho : OnlyOwn w w' p) (h : Led w0 w p T E) : Below w0.heap.size w0 w' := by
  obtain ⟨S, q1, q2, q3⟩ := ho
  exact h.below.trans (q1.toBelow h.below.size fun k _ hk => h.foot_old (q2 k hk))
/-- Two ledgers that share nothing. -/
def Sep (w : World) (p q : Nat) : Prop := ∀ k, Foot w p k → ¬ Foot w q k
theorem Led.other {q : Nat} {T2 : List (Id8 × Ac)} {E2 : List En} (h : Led w0 w q T2 E2) (hp : Led w0 w p T E) (ho : OnlyOwn w w' p) (hs : Sep w p q) : Led w0 w' q T2 E2 ∧ ∀ k, Foot w' q k → Foot w q k := by
  have hb := ho.below hp
  obtain ⟨b, v, h1, h2, h3⟩ := h
  obtain ⟨S, q1, q2, q3⟩ := ho
  have h4 : LedAt w' q b T2 v E2 := h1.same fun k hk => q1.block k (h1.lt hk) fun hS => hs k (q2 k hS) (h1.foot.2 hk)
  exact ⟨⟨b, v, h4, hb, h3⟩, fun k hk => h1.foot.2 (h4.foot.1 hk)⟩
theorem Sep.own {q : Nat} {T2 : List (Id8 × Ac)} {E2 : List En} (hs : Sep w p q) (h : Led w0 w q T2 E2) (hp : Led w0 w p T E) (ho : OnlyOwn w w' p) : Sep w' p q := by
  have h2 := (h.other hp ho hs).2
  obtain ⟨S, q1, q2, q3⟩ := ho
  intro k h3 h4
  have h5 := h2 k h4
  rcases q3 k h3 with h6 | h6
  · exact hs k h6 h5
  · have := h.foot_lt h5; omega
theorem Sep.symm {q : Nat} (h : Sep w p q) : Sep w q p := fun k h1 h2 => h k h2 h1
theorem Sep.kept {q : Nat} {T2 : List (Id8 × Ac)} {E2 : List En} (hs : Sep w p q) (hp : Led w0 w p T E) (hq : Led w0 w q T2 E2) (hb : Below w.heap.size w w') : Sep w' p q := fun k h1 h2 => hs k (hp.foot_kept hb h1) (hq.foot_kept hb h2)
/-- A ledger that was made behind a world shares nothing with one that lay in it. -/
theorem Sep.new {q : Nat} {w1 : World} {T2 : List (Id8 × Ac)} {E2 : List En} (hp : Led w0 w1 p T E) (hq : Led w1 w q T2 E2) : Sep w p q := fun k h1 h2 => by
  have := hq.foot_old h2
  have := hp.foot_lt (hp.foot_kept hq.below h1)
  omega
theorem led_pay (h : Led w0 w p T E) (f t : Id8) (n : Int) (hn : -9223372036854775808 ≤ n ∧ n ≤ 9223372036854775807) (hok : OkT T) (hE : E.length ≤ 4398046511104) :
    Calls Try.prog 21 #[.pointer (some ⟨p, 0, none⟩), .agg (bys f.1), .agg (bys t.1), .int .i64 n] w fun e w' => e = .returned (.int .i64 (payE T f t n)) ∧ Led w0 w' p (payT T f t n) (payN T E f t n) ∧ OnlyOwn w w' p := by
  obtain ⟨b, v, h1, h2, h3⟩ := h
  refine (pay_any f t n hn h1 hok hE).mono ?_
  rintro e w' ⟨rfl, v', q1, q2, q3⟩
  refine ⟨rfl, ⟨b, v', q1, h2.trans (q2.toBelow h2.size fun k _ hk => h3 k hk), fun k hk => ?_⟩, h1.only q1 q2 q3⟩
  rcases q3 k hk with h | h
  · exact h3 k h
  · have := h2.size; omega
theorem led_credit (h : Led w0 w p T E) (x : Id8) (n : Int) (hn : -9223372036854775808 ≤ n ∧ n ≤ 9223372036854775807) (hok : OkT T) :
    Calls Try.prog 24 #[.pointer (some ⟨p, 0, none⟩), .agg (bys x.1), .int .i64 n] w fun e w' => e = .returned (.int .i64 (credE T x n)) ∧ Led w0 w' p (credT T x n) E ∧ OnlyOwn w w' p := by
  obtain ⟨b, v, h1, h2, h3⟩ := h
  refine (credit_any x n hn h1 hok).mono ?_
  rintro e w' ⟨rfl, q1, q2⟩
  exact ⟨rfl, ⟨b, v, q1, h2.trans (q2.toBelow h2.size fun k _ hk => h3 k (.inr (.inl hk))), h3⟩, h1.only q1 (q2.mono fun k _ hk => .inr (.inl hk)) fun k hk => .inl hk⟩
/-- What All answers, what it leaves. -/
def allR (T : List (Id8 × Ac)) (l : List En) : Int × Int := match allX T 0 l with | none => (0, 0) | some (k, x) => (k, x)
def allT2 (T : List (Id8 × Ac)) (l : List En) : List (Id8 × Ac) := if allX T 0 l = none then allT T l else T
def allE2 (T : List (Id8 × Ac)) (E l : List En) : List En := if allX T 0 l = none then E ++ l else E
theorem led_all (h : Led w0 w p T E) (l : List En) (hl : ∀ x ∈ l, -9223372036854775808 ≤ x.amt ∧ x.amt ≤ 9223372036854775807) (A : Option Addr) (c : Nat) (hr : RowsAt 17 enE w A l) (hA : NotOwn w p A)
    (hok : OkT T) (hE : E.length + l.length ≤ 4398046511104) :
    Calls Try.prog 18 #[.pointer (some ⟨p, 0, none⟩), .slice A l.length c] w fun e w' => e = .returned (.tuple #[.int .i64 (allR T l).1, .int .i64 (allR T l).2]) ∧ Led w0 w' p (allT2 T l) (allE2 T E l) ∧ OnlyOwn w w' p := by
  obtain ⟨b, v, h1, h2, h3⟩ := h
  have HP : ∀ w' T2 E2, AllPost w w' p b v T2 E2 → Led w0 w' p T2 E2 ∧ OnlyOwn w w' p := fun w' T2 E2 ⟨b', v', q1, q2, q3⟩ => by
    refine ⟨⟨b', v', q1, h2.trans (q2.toBelow h2.size fun k _ hk => h3 k hk), fun k hk => ?_⟩, h1.only q1 q2 q3⟩
    rcases q3 k hk with h | h
    · exact h3 k h
    · have := h2.size; omega
  refine (all_any h1 hok l hl A c hr (fun g o e hg => hA g o e (h1.foot.2 hg)) hE).mono ?_
  rintro e w' ⟨q1, q2⟩
  unfold allR allT2 allE2
  cases hx : allX T 0 l with
  | none =>
    obtain ⟨rfl, h4⟩ := q1 hx
    rw [if_pos rfl, if_pos rfl]
    exact ⟨rfl, HP _ _ _ h4⟩
  | some kx =>
    obtain ⟨k, x⟩ := kx
    obtain ⟨rfl, h4⟩ := q2 k x hx
    rw [if_neg (by simp), if_neg (by simp)]
    exact ⟨rfl, HP _ _ _ h4⟩
theorem led_balance (h : Led w0 w p T E) (x : Id8) : Calls Try.prog 13 #[.pointer (some ⟨p, 0, none⟩), .agg (bys x.1)] w fun e w' => e = .returned (.int .i64 (acOf T x).bal) ∧ Below w.heap.size w w' := by
  obtain ⟨b, v, h1, h2, h3⟩ := h
  exact balance_any x h1
theorem led_entries (h : Led w0 w p T E) (hlen : E.length ≤ 4398046511104) : Calls Try.prog 12 #[.pointer (some ⟨p, 0, none⟩)] w fun e w' => ∃ A c, e = .returned (.slice A E.length c) ∧ RowsAt 17 enE w' A E ∧ (∀ g o, A = some ⟨g, o, none⟩ → w.heap.size ≤ g) ∧ Below w.heap.size w w' := by
  obtain ⟨b, v, h1, h2, h3⟩ := h
  refine (entries_any h1 hlen).mono ?_
  rintro e w' ⟨v', rfl, q1, q2⟩
  obtain ⟨A, c, rfl, hr⟩ := Row.rows enE_size rfl (Row.of_owns q1)
  exact ⟨A, c, rfl, hr, fun g o e => own_base q1 (by rw [e]; rfl), q2⟩
theorem led_accounts (h : Led w0 w p T E) (hlen : T.length ≤ 8796093022208) : Calls Try.prog 11 #[.pointer (some ⟨p, 0, none⟩)] w fun e w' => ∃ A c, e = .returned (.slice A (sortI (Keys T)).length c) ∧ RowsAt 8 idE w' A (sortI (Keys T)) ∧ (∀ g o, A = some ⟨g, o, none⟩ → w.heap.size ≤ g) ∧ Below w.heap.size w w' := by
  obtain ⟨b, v, h1, h2, h3⟩ := h
  refine (accounts_any h1 hlen).mono ?_
  rintro e w' ⟨v', rfl, q1, q2⟩
  obtain ⟨A, c, rfl, hr⟩ := Row.rows idE_size rfl (Row.of_owns q1)
  exact ⟨A, c, rfl, hr, fun g o e => own_base q1 (by rw [e]; rfl), q2⟩
theorem led_settle (h : Led w0 w p T E) (hok : OkT T) (hlen : T.length ≤ 1099511627776) : Calls Try.prog 17 #[.pointer (some ⟨p, 0, none⟩)] w fun e w' => ∃ A c, e = .returned (.slice A (settleF T).length c) ∧ RowsAt 17 enE w' A (settleF T) ∧ (∀ g o, A = some ⟨g, o, none⟩ → w.heap.size ≤ g) ∧ Below w.heap.size w w' := by
  obtain ⟨b, v, h1, h2, h3⟩ := h
  refine (settle_any h1 hok hlen).mono ?_
  rintro e w' ⟨v', rfl, q1, q2⟩
  obtain ⟨A, c, rfl, hr⟩ := Row.rows enE_size rfl (Row.of_owns q1)
  exact ⟨A, c, rfl, hr, fun g o e => own_base q1 (by rw [e]; rfl), q2⟩
end
theorem credT_ok {T : List (Id8 × Ac)} (h : OkT T) (x : Id8) (n : Int) : OkT (credT T x n) := by
  unfold credT
  by_cases h0 : credE T x n = 0
  · rw [if_pos h0]
    unfold credE at h0
    have hx := h x
    by_cases h1 : n < 0 ∨ 4611686018427387903 < n
    · rw [if_pos h1] at h0; omega
    rw [if_neg h1] at h0
    by_cases h2 : (acOf T x).bal < -n
    · rw [if_pos h2] at h0; omega
    unfold AcOk at hx
    refine OkT.put h x ?_
    unfold AcOk
    dsimp only
    omega
  · rw [if_neg h0]; exact h
theorem allT2_ok {T : List (Id8 × Ac)} (h : OkT T) (l : List En) : OkT (allT2 T l) := by
  unfold allT2
  split
  · exact allT_ok h l
  · exact h
/-! ### The laws' accounts -/
def i1 : Id8 := ⟨[0, 0, 0, 0, 0, 0, 0, 1], by unfold B8; decide⟩
def i2 : Id8 := ⟨[0, 0, 0, 0, 0, 0, 0, 2], by unfold B8; decide⟩
def i3 : Id8 := ⟨[0, 0, 0, 0, 0, 0, 0, 3], by unfold B8; decide⟩
def i4 : Id8 := ⟨[0, 0, 0, 0, 0, 0, 0, 4], by unfold B8; decide⟩
set_option maxRecDepth 100000 in
set_option maxHeartbeats 2000000 in
theorem id_any (x : Id8) (n : Int) (hx : x.1 = [0, 0, 0, 0, 0, 0, 0, n]) (w : World) : Calls Try.prog 26 #[.int .u8 n] w fun e w' => e = .returned (.agg (bys x.1)) ∧ Below w.heap.size w w' := by
  have HI := hid (idV_info x)
  rw [hx] at HI ⊢
  clear hx
  go_enter Try.func26, Try.ntmps26
  go_wp2
  refine bodyPost_ret (results_cell_row rfl _ _ _ 33 _ _ _ rfl (heap_alloc_new _ _) Try.underlying33 rfl HI.out) rfl ⟨rfl, (Below.refl _ _).alloc (Nat.le_refl _) _⟩
set_option maxRecDepth 100000 in
set_option maxHeartbeats 4000000 in
theorem entry_any (x y : Id8) (a b n : Int) (hx : x.1 = [0, 0, 0, 0, 0, 0, 0, a]) (hy : y.1 = [0, 0, 0, 0, 0, 0, 0, b]) (w : World) : Calls Try.prog 28 #[.int .u8 a, .int .u8 b, .int .i64 n] w fun e w' => e = .returned (.agg (enE ⟨x, y, n⟩)) ∧ Below w.heap.size w w' := by
  have HX := hid hx
  have HY := hid hy
  have HS : Hid ((enE ⟨x, y, n⟩).size = 17) := hid (enE_size _)
  clear hx hy
  go_enter Try.func28, Try.ntmps28
  have Ua := hid trivial
  go_wp2_with (first | (go_at_call 26; clear Ua; refine (id_any x a HX.out _).mono ?_; rintro e w2 ⟨rfl, hb2⟩; have HN2 := hid (below_keep hb2 (heap_alloc_new w _)); have HB2 := hid (((Below.refl w.heap.size w).alloc (Nat.le_refl _) _).trans (hb2.mono (by simp))); clear hb2) | (go_at_call 26; refine (id_any y b HY.out _).mono ?_; rintro e w3 ⟨rfl, hb3⟩; have HN3 := hid (below_keep hb3 HN2.out); have HB3 := hid (HB2.out.trans (hb3.mono HB2.out.size)); clear hb3) | (refine wpList_build_run rfl 35 _ rfl (.agg (enE ⟨x, y, n⟩)) (by simp only [List.map_toArray, List.map_cons, List.map_nil]; exact build_entry x y n _) ?_) | (refine wpList_store_row rfl 35 _ _ rfl _ rfl _ rfl _ _ HN3.out (by rw [HS.out]; rfl) (enE_ones _) (enE_info _) _ rfl ?_))
  refine bodyPost_ret (results_cell_row rfl _ _ _ 35 _ _ _ rfl (setRow_at HN3.out _) Try.underlying35 rfl (enE_info _)) rfl ⟨rfl, below_setRow' HB3.out (Nat.le_refl _) _⟩
end Go.Proofs.Ytnapfjgokeloeaa
