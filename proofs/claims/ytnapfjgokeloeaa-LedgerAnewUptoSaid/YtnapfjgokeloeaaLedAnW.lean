/- The walk of LedgerAnew: it returns true, and lays new blocks only. -/
import Derived.Test.YtnapfjgokeloeaaLedDu
import Derived.Test.YtnapfjgokeloeaaLvW
import Derived.Test.YtnapfjgokeloeaaLedIn
namespace Go.Proofs.Ytnapfjgokeloeaa
open Go.RowKit

/-- Behind the limits of all accounts of a list. -/
def crF (l : List Id8) : List (Id8 × Ac) := l.foldl (fun T x => credT T x 4611686018427387903) []
theorem crF_snoc (l : List Id8) (x : Id8) : crF (l ++ [x]) = credT (crF l) x 4611686018427387903 := by unfold crF; rw [List.foldl_append]; rfl
theorem crF_ok (l : List Id8) : (∀ x, (acOf (crF l) x).bal = 0) ∧ (∀ x ∈ l, (acOf (crF l) x).lim = 4611686018427387903) ∧ (∀ x, x ∈ Keys (crF l) ↔ x ∈ l) ∧ (Keys (crF l)).Nodup ∧ OkT (crF l) ∧ (crF l).length ≤ l.length := by
  refine snoc_ind (P := fun l => (∀ x, (acOf (crF l) x).bal = 0) ∧ (∀ x ∈ l, (acOf (crF l) x).lim = 4611686018427387903) ∧ (∀ x, x ∈ Keys (crF l) ↔ x ∈ l) ∧ (Keys (crF l)).Nodup ∧ OkT (crF l) ∧ (crF l).length ≤ l.length)
    ⟨fun _ => rfl, fun _ h => (by cases h), fun _ => Iff.rfl, List.nodup_nil, OkT.nil, Nat.le_refl _⟩ (fun l x ⟨h1, h2, h3, h4, h5, h6⟩ => ?_) l
  have h0 : credE (crF l) x 4611686018427387903 = 0 := by
    unfold credE
    rw [if_neg (by omega), if_neg (by rw [h1]; omega)]
  rw [crF_snoc]
  refine ⟨fun y => by rw [credT_at h0]; exact h1 y, fun y hy => ?_, fun y => ?_, credT_nodup h4 _ _, credT_ok h5 _ _, ?_⟩
  · rw [credT_at h0]
    dsimp only
    by_cases e : x = y
    · rw [if_pos e]
    · rw [if_neg e]
      rcases List.mem_append.1 hy with hy | hy
      · exact h2 y hy
      · exact absurd (List.mem_singleton.1 hy).symm e
  · rw [credT_keys h0, h3, List.mem_append, List.mem_singleton]; exact Or.comm
  · have := credT_len (crF l) x 4611686018427387903
    rw [List.length_append, List.length_singleton]; omega
theorem crF_zero (l : List Id8) (x : Id8) : credE (crF l) x 4611686018427387903 = 0 := by
  unfold credE
  rw [if_neg (by omega), if_neg (by rw [(crF_ok l).1]; omega)]
theorem sortI_congr {l k : List Id8} (h : l.Perm k) : sortI l = sortI k := by
  have h1 : (sortI l).map Subtype.val = (sortI k).map Subtype.val := by
    rw [sortI_vals, sortI_vals]
    exact sortB_eq (h.map _) fun x hx => by obtain ⟨y, _, rfl⟩ := List.mem_map.1 hx; exact y.2
  exact (List.map_inj_right (fun a b h => Subtype.ext h)).1 h1
/-- What is known of the second ledger. -/
theorem anew_all {s : LSt} (h : Inv s) {ids : List Id8} (hi : ids = sortI (Keys s.T)) : allX (crF ids) 0 s.E = none ∧ allR (crF ids) s.E = (0, 0) ∧ allT2 (crF ids) s.E = allT (crF ids) s.E ∧ allE2 (crF ids) [] s.E = s.E ∧ (∀ x, (acOf (allT (crF ids) s.E) x).bal = (acOf s.T x).bal) ∧ sortI (Keys (allT (crF ids) s.E)) = ids := by
  obtain ⟨c1, c2, c3, c4, c5, c6⟩ := crF_ok ids
  have hk : ∀ e ∈ s.E, e.fr ∈ ids ∧ e.to ∈ ids := fun e he => by
    rw [hi, sortI_mem, sortI_mem]; exact h.keys e he
  obtain ⟨g1, g2, g3⟩ := good_all h.good c1 (fun e he => c2 _ (hk e he).1)
  have hn : ∀ (E : List En) (T : List (Id8 × Ac)), (Keys T).Nodup → (Keys (allT T E)).Nodup := by
    intro E
    induction E with
    | nil => exact fun T h => h
    | cons e E ih => exact fun T h => ih _ (payT_nodup h _ _ _)
  refine ⟨g1, by unfold allR; rw [g1], by unfold allT2; rw [if_pos g1], by unfold allE2; rw [if_pos g1]; rfl, fun x => by rw [g2, h.bal], ?_⟩
  have hp : (Keys (allT (crF ids) s.E)).Perm (Keys s.T) := (List.perm_ext_iff_of_nodup (hn _ _ c4) h.nodup).2 fun x => by
    rw [g3, c3]
    constructor
    · rintro (h1 | ⟨e, he, rfl | rfl⟩)
      · rw [hi, sortI_mem] at h1; exact h1
      · exact (h.keys e he).1
      · exact (h.keys e he).2
    · intro h1
      exact .inl (by rw [hi, sortI_mem]; exact h1)
  rw [sortI_congr hp, hi]
set_option maxRecDepth 100000 in
set_option maxHeartbeats 8000000 in
theorem ledgerAnew_any (S : List LOp) (A : Option Addr) (cap : Nat) (hl : S.length ≤ 9223372036854775807) (hin : ∀ o ∈ S, o.l.length ≤ 9223372036854775807) (w : World) (hr : ScAt w A S) :
    Calls Try.prog 6 #[.slice A S.length cap] w fun e w' => e = .returned (.bool true) ∧ Below w.heap.size w w' := by
  have KH := hid (heavy_any S A cap hl hin w hr.rows)
  have HSC := hid hr
  by_cases h1 : 1048576 < (hvy S : Int)
  · rw [decide_eq_true h1] at KH
    clear hl hin hr h1
    go_enter Try.func6, Try.ntmps6
    go_wp2_with (go_at_call 8; (with_reducible refine KH.out.mono ?_); rintro e w2 ⟨rfl, h2⟩; have HB2 := hid h2; clear h2)
    go_ret
    exact ⟨rfl, HB2.out⟩
  rw [decide_eq_false h1] at KH
  have hsz : sizeL S ≤ 1048576 := by rw [← hvy_size S (by omega)]; omega
  obtain ⟨q1, q2, q3, q4⟩ := play_len S
  have q5 := play_inv S
  obtain ⟨s, hs⟩ : ∃ s, s = playL S := ⟨_, rfl⟩
  have KP := hid (fun w hr => played_any S A cap hsz w hr)
  rw [← hs] at q1 q2 q3 q4 q5
  simp only [← hs] at KP
  have hE : s.E.length ≤ 1048576 := by omega
  have hT : s.T.length ≤ 2097152 := by omega
  obtain ⟨ids, hids⟩ : ∃ ids, ids = sortI (Keys s.T) := ⟨_, rfl⟩
  have hil : ids.length ≤ 2097152 := by rw [hids, sortI_len]; unfold Keys; rw [List.length_map]; exact hT
  obtain ⟨a1, a2, a3, a4, a5, a6⟩ := anew_all q5 hids
  obtain ⟨c1, c2, c3, c4, c5, c6⟩ := crF_ok ids
  have HAL := hid (And.intro a2 (And.intro a3 a4))
  have HBA := hid a5
  have HSO := hid a6
  have HC5 := hid c5
  have hT2 : (allT (crF ids) s.E).length ≤ 8388608 := by have := allT_len (crF ids) s.E; omega
  have HID := hid hids
  have HGM : Hid (∀ e ∈ s.E, I64 e.amt) := hid (fun e he => by have := q5.good.mem e he; exact ⟨by omega, by omega⟩)
  have OK := hid q1
  clear hl hin hr h1 hs q1 q2 q3 q4 q5 hsz a1 a2 a3 a4 a5 a6 c1 c2 c3 c4 c5 c6 hids
  go_enter Try.func6, Try.ntmps6
  go_wp2_with (first | (go_at_call 8; (with_reducible refine KH.out.mono ?_); rintro e w2 ⟨rfl, h2⟩; have HB2 := hid h2; clear h2)
                     | (go_at_call 9; (with_reducible refine (KP.out _ (HSC.out.kept HB2.out)).mono ?_); rintro e w4 ⟨p, v, rfl, h2⟩; have HP := hid (h2.led.later HB2.out); clear h2)
                     | (go_at_call 23; (with_reducible refine (led_new w4).mono ?_); rintro e w5 ⟨rfl, h2⟩; generalize w4.heap.size + 1 = q at *; have HD := hid (Duo.mk (HP.out.kept h2.below) (h2.later HP.out.below) (Sep.new HP.out h2)); clear h2 HP)
                     | (go_at_call 10; (with_reducible refine (lives_any _).mono ?_); rintro e w6 ⟨rfl, h2⟩; replace HD := hid (HD.out.kept h2); clear h2)
                     | (go_at_call 11; (with_reducible refine (led_accounts HD.out.one (by omega)).mono ?_); rw [← HID.out]; rintro e w7 ⟨Ai, ci, rfl, h2, h3, h4⟩; have HI := hid (DuoL.new HD.out h2 h3 h4); replace HD := hid (HD.out.kept h4); clear h2 h3 h4))
  have HD0 : Hid (Duo w w7 p q s.T s.E (crF (ids.take 0)) []) := hid HD.out
  clear HD
  go_loopw [7] (fun i wr => ∃ k : Nat, k ≤ ids.length ∧ i = .int .i64 k ∧ Hid (Duo w wr p q s.T s.E (crF (ids.take k)) []) ∧ Hid (DuoL 8 idE wr p q Ai ids)) (fun i _ => ids.length - (intOf i).toNat)
  case atStart => exact ⟨0, by omega, rfl, HD0, HI⟩
  case round =>
    clear HD0 HI
    obtain ⟨k, hk, rfl, HD, HI⟩ := hrel
    by_cases hlt : k < ids.length
    · have hki : (k : Int) < (ids.length : Int) := by omega
      obtain ⟨x, hx⟩ : ∃ x, ids[k]? = some x := ⟨ids[k], by simp [hlt]⟩
      obtain ⟨gg, o, rfl, hgg, hcc⟩ := HI.out.rows.get hx
      have HC : Hid (CellsAt wr gg (o + k * 8) (bys x.1)) := hid (by rw [Nat.mul_comm]; exact hcc)
      have HX := hid (idV_info x)
      have HTK : Hid (crF (ids.take (k + 1)) = credT (crF (ids.take k)) x 4611686018427387903) := hid (by
        obtain ⟨hk', e⟩ := List.getElem?_eq_some_iff.1 hx
        rw [List.take_succ_eq_append_getElem hk', e, crF_snoc])
      have KC := hid (led_credit HD.out.two x 4611686018427387903 (by omega) (crF_ok (ids.take k)).2.2.2.2.1)
      rw [crF_zero, ← HTK.out] at KC
      clear hx hcc hgg
      go_wp2_with (first | (refine wpList_load_cells rfl 33 _ rfl _ _ rfl _ _ HC.out Try.underlying33 rfl HX.out ?_)
                         | (go_at_call 24; (with_reducible refine KC.out.mono ?_); rintro e w3 ⟨rfl, h2, h3⟩; have HI3 := hid (HI.out.right HD.out h3); have HD3 := hid (HD.out.right h2 h3); clear h2 h3))
      refine ⟨⟨k + 1, by omega, by go_num, HD3, HI3⟩, by simp [intOf]; omega⟩
    · have hki : ¬ ((k : Int) < (ids.length : Int)) := by omega
      have htk : ids.take k = ids := List.take_of_length_le (by omega)
      rw [htk] at HD
      clear htk
      obtain ⟨TM, hTM⟩ : ∃ TM, TM = allT (crF ids) s.E := ⟨_, rfl⟩
      have KA := hid (fun (wa : World) (Aa : Option Addr) (ca : Nat) (hd : Duo w wa p q s.T s.E (crF ids) []) (hr : DuoL 17 enE wa p q Aa s.E) (hn : NotOwn wa q Aa) (hi : DuoL 8 idE wa p q Ai ids) =>
        (led_all (A := Aa) (c := ca) hd.two s.E HGM.out hr.rows hn HC5.out (by simp; omega)).mono fun e w' ⟨h1, h2, h3⟩ => (show e = Ending.returned (.tuple #[.int .i64 0, .int .i64 0]) ∧ Duo w w' p q s.T s.E TM s.E ∧ DuoL 8 idE w' p q Ai ids from by
          rw [HAL.out.1] at h1
          rw [HAL.out.2.1, HAL.out.2.2, ← hTM] at h2
          exact ⟨h1, hd.right h2 h3, hi.right hd h3⟩))
      rw [← hTM] at HBA HSO hT2
      clear hTM
      have Ua := hid trivial
      have Ub := hid trivial
      go_wp2_with (first | (go_at_call 12; clear Ua; (with_reducible refine (led_entries HD.out.one (by omega)).mono ?_); rintro e w2 ⟨Ae, ce, rfl, h2, h3, h4⟩; have HEN := hid (DuoL.new HD.out h2 h3 h4); have HNO := hid (notOwn_new HD.out.two h3 h4); have HI2 := hid (HI.out.kept HD.out h4); have HD2 := hid (HD.out.kept h4); clear h2 h3 h4)
                         | (go_at_call 18; (with_reducible refine (KA.out _ _ _ HD2.out HEN.out HNO.out HI2.out).mono ?_); rintro e w3 ⟨rfl, h2, h3⟩; have HD3 := hid h2; have HI3 := hid h3; clear h2 h3)
                         | (go_at_call 12; clear Ub; (with_reducible refine (led_entries HD3.out.one (by omega)).mono ?_); rintro e w4 ⟨A4, c4, rfl, h2, h3, h4⟩; have H4 := hid h2; have HI4 := hid (HI3.out.kept HD3.out h4); have HD4 := hid (HD3.out.kept h4); clear h2 h3 h4)
                         | (go_at_call 12; (with_reducible refine (led_entries HD4.out.two (by omega)).mono ?_); rintro e w5 ⟨A5, c5, rfl, h2, h3, h4⟩; have H5 := hid h2; have H45 := hid (H4.out.kept h4); have HI5 := hid (HI4.out.kept HD4.out h4); have HD5 := hid (HD4.out.kept h4); clear h2 h3 h4)
                         | (go_at_call 22; (with_reducible refine (sameEntries_any s.E s.E _ _ _ _ (by omega) (by omega) _ H45.out H5.out).mono ?_); rintro e w6 ⟨rfl, h2⟩; have HI6 := hid (HI5.out.kept HD5.out h2); have HD6 := hid (HD5.out.kept h2); clear h2)
                         | (go_at_call 11; (with_reducible refine (led_accounts HD6.out.two (by omega)).mono ?_); rw [HSO.out]; rintro e w7 ⟨A7, c7, rfl, h2, h3, h4⟩; have H7 := hid h2; have HI7 := hid (HI6.out.kept HD6.out h4); have HD7 := hid (HD6.out.kept h4); clear h2 h3 h4)
                         | (go_at_call 25; (with_reducible refine (sameIDs_any ids ids _ _ _ _ (by omega) (by omega) _ H7.out HI7.out.rows).mono ?_); rintro e w8 ⟨rfl, h2⟩; have HI8 := hid (HI7.out.kept HD7.out h2); have HD8 := hid (HD7.out.kept h2); clear h2))
      clear KA
      go_loopw [10] (fun i wr => ∃ k : Nat, k ≤ ids.length ∧ i = .int .i64 k ∧ Hid (Duo w wr p q s.T s.E TM s.E) ∧ Hid (DuoL 8 idE wr p q Ai ids)) (fun i _ => ids.length - (intOf i).toNat)
      case atStart => exact ⟨0, by omega, rfl, HD8, HI8⟩
      case round =>
        clear HD8 HI8
        obtain ⟨k, hk, rfl, HD, HI⟩ := hrel
        by_cases hlt : k < ids.length
        · have hki : (k : Int) < (ids.length : Int) := by omega
          obtain ⟨x, hx⟩ : ∃ x, ids[k]? = some x := ⟨ids[k], by simp [hlt]⟩
          obtain ⟨gg, o, rfl, hgg, hcc⟩ := HI.out.rows.get hx
          have HC : Hid (CellsAt wr gg (o + k * 8) (bys x.1)) := hid (by rw [Nat.mul_comm]; exact hcc)
          have HX := hid (idV_info x)
          have HG := hid hgg
          have K1 := hid (fun X : Bw wr => led_balance (HD.out.one.kept X.2) x)
          have K2 := hid (fun X : Bw wr => led_balance (HD.out.two.kept X.2) x)
          rw [HBA.out] at K2
          clear hx hcc hgg
          go_wp2_with fail
          refine wp_region_bw (by kernel_rfl) (by kernel_rfl) ?_
          iterate 4 (first | go_big_quiet_step (fail) | (go_big_quiet_want; go_simp; go_big_quiet_on))
          (go_big_quiet_want; refine quiet_load_cells 33 _ rfl _ _ rfl _ _ (HC.out) (HG.out) Try.underlying33 rfl (HX.out) ?_; simp only [Act.put, List.setIfInBounds_toArray, List.set_cons_zero, List.set_cons_succ]; go_big_quiet_on)
          (go_big_quiet_want; go_big_quiet_op; go_big_quiet_call ((go_at_call 13; exact Calls.bw (K1.out _))))
          iterate 4 (first | go_big_quiet_step (fail) | (go_big_quiet_want; go_simp; go_big_quiet_on))
          (go_big_quiet_want; refine quiet_load_cells 33 _ rfl _ _ rfl _ _ (HC.out) (HG.out) Try.underlying33 rfl (HX.out) ?_; simp only [Act.put, List.setIfInBounds_toArray, List.set_cons_zero, List.set_cons_succ]; go_big_quiet_on)
          (go_big_quiet_want; go_big_quiet_op; go_big_quiet_call ((go_at_call 13; exact Calls.bw (K2.out _))))
          iterate 1 (first | go_big_quiet_step (fail) | (go_big_quiet_want; go_simp; go_big_quiet_on))
          refine wpQuiet_nil ?_; rintro w' ⟨X, rfl⟩
          have HI9 := hid (HI.out.kept HD.out X.2)
          have HD9 := hid (HD.out.kept X.2)
          go_wp2
          refine ⟨⟨k + 1, by omega, by go_num, HD9, HI9⟩, by simp [intOf]; omega⟩
        · have hki : ¬ ((k : Int) < (ids.length : Int)) := by omega
          go_wp2
          go_ret
          exact ⟨rfl, HD.out.one.below⟩
end Go.Proofs.Ytnapfjgokeloeaa
