/- The walk of the reference's Matching. -/
import Derived.Test.YtmddhjoomlhbcaaRefS
namespace Go.Proofs.Ytmddhjoomlhbcaa
open Go.RowKit

/-- The pair at place i goes with the ones ahead of it. -/
def okAt (g : Gr) (l : List (Int × Int)) (i : Nat) : Prop :=
  ∃ p, l[i]? = some p ∧ (∃ x ∈ g.es, x.r = p.1 ∧ x.c = p.2) ∧ (∀ j q, j + 1 = i → l[j]? = some q → q.1 < p.1) ∧ ∀ k q, k < i → l[k]? = some q → q.2 ≠ p.2
def MatPost (w : World) (g : Gr) (l : List (Int × Int)) (e : Ending) (w' : World) : Prop :=
  Below w.heap.size w w' ∧ ((e = .returned (.bool true) ∧ ∀ i, i < l.length → okAt g l i) ∨ (e = .returned (.bool false) ∧ ∃ i, i < l.length ∧ (∀ j, j < i → okAt g l j) ∧ ¬ okAt g l i))
set_option maxRecDepth 100000 in
set_option maxHeartbeats 8000000 in
theorem matching_any (g : Gr) (a : Option Addr) (cap : Nat) (hc : chk g = true) (l : List (Int × Int)) (A : Option Addr) (cl : Nat) (hl : l.length ≤ 1048576) (w : World) (hr : RowsAt 3 edV w a g.es) (hm : RowsAt 2 prV w A l) :
    Calls Try.prog 30 #[grV g a cap, .slice A l.length cl] w (MatPost w g l) := by
  have HR := hid hr
  have HM := hid hm
  have HC := hid hc
  have HES := hid (es_len hc)
  clear hr hm hc
  unfold grV
  go_enter Try.func30, Try.ntmps30
  go_upto_region 1 with fail
  have HS := hid (GBx.start (cap := cap) HR.out)
  generalize w.alloc (.cells #[.int .i64 g.rows, .int .i64 g.cols, .slice a g.es.length cap] 24) = w1 at *
  obtain ⟨gb, hgb⟩ : ∃ gb, gb = w.heap.size := ⟨_, rfl⟩
  rw [← hgb] at HS ⊢
  clear hgb
  go_wp2
  go_loopw [5] (fun i wx => ∃ k : Nat, k ≤ l.length ∧ i = .int .i64 k ∧ Hid (∀ j, j < k → okAt g l j) ∧ Hid (Below w1.heap.size w1 wx)) (fun i _ => l.length - (intOf i).toNat)
  case atStart => exact ⟨0, by omega, rfl, hid (fun j hj => by omega), hid (Below.refl _ _)⟩
  case round =>
    obtain ⟨i, hi, rfl, HO, HX⟩ := hrel
    have hil : (i : Int) ≤ 1048576 := by omega
    by_cases hlt : i < l.length
    · have hki : (i : Int) < (l.length : Int) := by omega
      obtain ⟨⟨p1, p2⟩, hx⟩ : ∃ x, l[i]? = some x := ⟨l[i], by simp [hlt]⟩
      have HP := hid hx
      obtain ⟨pg, po, hA, hpg, hcc⟩ := HM.out.get hx
      have HPC : Hid (w.cell? ⟨pg, po + i * 2, none⟩ = some (.int .i64 p1) ∧ w.cell? ⟨pg, po + i * 2 + 1, none⟩ = some (.int .i64 p2)) := hid (by
        have t1 := hcc 0 (.int .i64 p1) rfl
        have t2 := hcc 1 (.int .i64 p2) rfl
        rw [Nat.mul_comm] at t1 t2
        exact ⟨t1, t2⟩)
      have HPG := hid hpg
      subst hA
      clear hx hcc hpg
      go_wp2
      go_loopw [6, 7] (fun s j wx => ∃ (k : Nat) (b : Bool), k ≤ g.es.length ∧ j = .int .i64 k ∧ s = .bool b ∧ Hid (b = true ↔ ∃ x ∈ g.es.take k, x.r = p1 ∧ x.c = p2) ∧ Hid (Below w1.heap.size w1 wx)) (fun _ j _ => g.es.length - (intOf j).toNat)
      case atStart => exact ⟨0, false, by omega, rfl, rfl, hid (by simp), HX⟩
      case round =>
        clear HX
        obtain ⟨k, b, hk, rfl, rfl, HB, HX⟩ := hrel
        have HSx := hid (HS.out.kept HX.out)
        have c2 := HSx.out.list
        have hkl : (k : Int) ≤ 4096 := by have := HES.out; omega
        have q0 : wr.cell? ⟨pg, po + i * 2, none⟩ = some (.int .i64 p1) := by rw [cell_kept HSx.out.below HPG.out]; exact HPC.out.1
        have q1 : wr.cell? ⟨pg, po + i * 2 + 1, none⟩ = some (.int .i64 p2) := by rw [cell_kept HSx.out.below HPG.out]; exact HPC.out.2
        by_cases hlk : k < g.es.length
        · -- L1
          have hkk : (k : Int) < (g.es.length : Int) := by omega
          obtain ⟨x, hx⟩ : ∃ x, g.es[k]? = some x := ⟨g.es[k], by simp [hlk]⟩
          obtain ⟨eg, eo, haa, _, hcc⟩ := HSx.out.es.get hx
          rw [Nat.mul_comm] at hcc
          obtain ⟨xr, hxr⟩ : ∃ v, v = x.r := ⟨_, rfl⟩
          obtain ⟨xc, hxc⟩ : ∃ v, v = x.c := ⟨_, rfl⟩
          have x0 : wr.cell? ⟨eg, eo + k * 3, none⟩ = some (.int .i64 xr) := by rw [hxr]; exact hcc 0 _ rfl
          have x1 : wr.cell? ⟨eg, eo + k * 3 + 1, none⟩ = some (.int .i64 xc) := by rw [hxc]; exact hcc 1 _ rfl
          have HBN : Hid (((b || ((xr == p1) && (xc == p2))) = true) ↔ ∃ x ∈ g.es.take (k + 1), x.r = p1 ∧ x.c = p2) := hid (by
            obtain ⟨t1, t2⟩ := List.getElem?_eq_some_iff.1 hx
            rw [List.take_succ_eq_append_getElem t1, t2, Bool.or_eq_true, HB.out, Bool.and_eq_true, beq_iff_eq, beq_iff_eq, hxr, hxc]
            constructor
            · rintro (⟨v, h1, h2⟩ | h2)
              · exact ⟨v, List.mem_append.2 (.inl h1), h2⟩
              · exact ⟨x, List.mem_append.2 (.inr (by simp)), h2⟩
            · rintro ⟨v, h1, h2⟩
              rcases List.mem_append.1 h1 with h1 | h1
              · exact .inl ⟨v, h1, h2⟩
              · obtain rfl : v = x := by simpa using h1
                exact .inr h2)
          subst haa
          clear hx hcc hxr hxc
          cases b with
          | true =>
            have HB1 := hid (HBN.out.1 (Bool.true_or _))
            clear HBN
            go_wp2
            go_quiet (fail)
            go_wp2
            exact ⟨⟨k + 1, true, by omega, by go_num, rfl, hid ⟨fun _ => HB1.out, fun _ => rfl⟩, hid (below_tr HX.out (below_dn _ _))⟩, by simp [intOf]; omega⟩
          | false =>
            rw [Bool.false_or] at HBN
            by_cases h1 : xr = p1
            · have h2 : (xr == p1) = true := by simpa using h1
              rw [h2, Bool.true_and] at HBN
              clear h1
              go_wp2
              go_quiet (fail)
              go_wp2
              exact ⟨⟨k + 1, _, by omega, by go_num, rfl, HBN, hid (below_tr HX.out (below_dn _ _))⟩, by simp [intOf]; omega⟩
            · have h2 : (xr == p1) = false := by simpa using h1
              rw [h2, Bool.false_and] at HBN
              clear h1
              go_wp2
              go_quiet (fail)
              go_wp2
              exact ⟨⟨k + 1, _, by omega, by go_num, rfl, HBN, hid (below_tr HX.out (below_dn _ _))⟩, by simp [intOf]; omega⟩
          -- /L1
        · -- L2
          obtain rfl : k = g.es.length := by omega
          have hkr : ¬ ((g.es.length : Int) < (g.es.length : Int)) := by omega
          rw [List.take_length] at HB
          clear hk hlk
          cases b with
          | false =>
            have HNO : Hid (¬ okAt g l i) := hid (by
              rintro ⟨p, h1, h2, _⟩
              rw [HP.out] at h1
              cases h1
              have := HB.out.2 h2
              cases this)
            go_wp2
            go_quiet (fail)
            go_wp2
            go_ret
            exact ⟨HSx.out.below.trans (Below.mono (below_dn _ _) HSx.out.below.size), .inr ⟨rfl, i, hlt, HO.out, HNO.out⟩⟩
          | true =>
            have HED := hid (HB.out.1 rfl)
            clear HB
            have hex : i = 0 ∨ ∃ m, i = m + 1 := by
              cases i with
              | zero => exact .inl rfl
              | succ m => exact .inr ⟨m, rfl⟩
            have HUP : Hid (∃ f : Bool, (f = true → ∀ j q, j + 1 = i → l[j]? = some q → q.1 < p1) ∧ (f = false → ¬ okAt g l i) ∧ (i = 0 → f = true) ∧ ∀ m, i = m + 1 → ∃ q1 q2, wr.cell? ⟨pg, po + m * 2, none⟩ = some (.int .i64 q1) ∧ wr.cell? ⟨pg, po + m * 2 + 1, none⟩ = some (.int .i64 q2) ∧ decide (p1 ≤ q1) = !f) := hid (by
              rcases hex with h0 | ⟨m, hm⟩
              · exact ⟨true, fun _ j q hj => by omega, (fun h => by cases h), fun _ => rfl, fun m hm => by omega⟩
              · obtain ⟨⟨q1, q2⟩, hq⟩ : ∃ x, l[m]? = some x := ⟨l[m]'(by omega), by simp⟩
                obtain ⟨pg', po', hA, hpg, hcc⟩ := (HM.out.kept HSx.out.below).get hq
                cases hA
                have t1 := hcc 0 (.int .i64 q1) rfl
                have t2 := hcc 1 (.int .i64 q2) rfl
                rw [Nat.mul_comm] at t1 t2
                refine ⟨decide (q1 < p1), fun hf j q hj hjq => ?_, fun hf => ?_, fun h => by omega, fun m' hm' => ⟨q1, q2, ?_, ?_, ?_⟩⟩
                · have : j = m := by omega
                  subst this
                  rw [hq] at hjq
                  cases hjq
                  simpa using hf
                · rintro ⟨p, h1, _, h3, _⟩
                  rw [HP.out] at h1
                  cases h1
                  have := h3 m (q1, q2) hm.symm hq
                  simp at hf this
                  omega
                · have : m' = m := by omega
                  subst this; exact t1
                · have : m' = m := by omega
                  subst this; exact t2
                · rw [← decide_not]; exact decide_eq_decide.2 (by omega))
            obtain ⟨f, hf1, hf2, hf3, hf4⟩ := HUP.out
            have HF1 := hid hf1
            have HF2 := hid hf2
            have HF3 := hid hf3
            have HF4 := hid hf4
            clear HUP hf1 hf2 hf3 hf4
            rcases hex with h0 | ⟨m, hm⟩
            · subst h0
              have HFT := hid (HF1.out (HF3.out rfl))
              have g0 : ¬ ((0 : Int) < ((0 : Nat) : Int)) := by omega
              have g1 : decide ((0 : Int) < ((0 : Nat) : Int)) = false := by decide
              clear HF1 HF2 HF3 HF4
              go_wp2
              go_quiet (fail)
              have HXq := hid (below_tr HX.out (below_dn wr nq))
              clear HX c2 q0 q1
              go_wp2
              go_loopw [8] (fun j wx => ∃ k : Nat, k ≤ 0 ∧ j = .int .i64 k ∧ Hid (∀ j q, j < k → l[j]? = some q → q.2 ≠ p2) ∧ Hid (Below w1.heap.size w1 wx)) (fun j _ => 0 - (intOf j).toNat)
              case atStart => exact ⟨0, by omega, rfl, hid (fun j q hj => by omega), HXq⟩
              case round =>
                clear HXq
                obtain ⟨k, hk, rfl, HQ, HX⟩ := hrel
                have HSy := hid (HS.out.kept HX.out)
                have hkl : (k : Int) ≤ 1048576 := by omega
                by_cases hlk : k < 0
                · exact absurd hlk (by omega)
                · have hkr : ¬ (k : Int) < ((0 : Nat) : Int) := by omega
                  have HOK : Hid (∀ j, j < 0 + 1 → okAt g l j) := hid (fun j hj => by
                    by_cases e : j = 0
                    · rw [e]; exact ⟨_, HP.out, HED.out, HFT.out, fun k' q hk' hq => HQ.out k' q (by omega) hq⟩
                    · exact HO.out j (by omega))
                  clear hlk hk
                  go_wp2
                  exact ⟨⟨0 + 1, by omega, by go_num, HOK, HX⟩, by simp [intOf]; omega⟩
            · subst hm
              obtain ⟨d1, d2, e1, e2, e3⟩ := HF4.out m rfl
              have g0 : (0 : Int) < (m : Int) + 1 := by omega
              have g1 : decide ((0 : Int) < (m : Int) + 1) = true := decide_eq_true g0
              have hm1 : (m : Int) < (l.length : Int) := by omega
              have hm2 : (m : Int) ≤ 1048576 := by omega
              have hmm : ((m + 1 : Nat) : Int) = (m : Int) + 1 := by omega
              cases f with
              | false =>
                have e4 : decide (p1 ≤ d1) = true := e3
                have HNO := hid (HF2.out rfl)
                clear HF1 HF2 HF3 HF4 e3
                go_wp2
                go_quiet (fail)
                go_wp2
                go_ret
                exact ⟨HSx.out.below.trans (Below.mono (below_dn _ _) HSx.out.below.size), .inr ⟨rfl, m + 1, hlt, HO.out, HNO.out⟩⟩
              | true =>
                have e4 : decide (p1 ≤ d1) = false := e3
                have HFT := hid (HF1.out rfl)
                clear HF1 HF2 HF3 HF4 e3
                go_wp2
                go_quiet (fail)
                have HXq := hid (below_tr HX.out (below_dn wr nq))
                clear HX c2 q0 q1 e1 e2 e4
                go_wp2
                go_loopw [8] (fun j wx => ∃ k : Nat, k ≤ m + 1 ∧ j = .int .i64 k ∧ Hid (∀ j q, j < k → l[j]? = some q → q.2 ≠ p2) ∧ Hid (Below w1.heap.size w1 wx)) (fun j _ => (m + 1) - (intOf j).toNat)
                case atStart => exact ⟨0, by omega, rfl, hid (fun j q hj => by omega), HXq⟩
                case round =>
                  clear HXq
                  obtain ⟨k, hk, rfl, HQ, HX⟩ := hrel
                  have HSy := hid (HS.out.kept HX.out)
                  have hkl : (k : Int) ≤ 1048576 := by omega
                  by_cases hlk : k < m + 1
                  · have hkk : (k : Int) < (m : Int) + 1 := by omega
                    have hkn : (k : Int) < (l.length : Int) := by omega
                    obtain ⟨⟨c1, c2⟩, hq⟩ : ∃ x, l[k]? = some x := ⟨l[k]'(by omega), by simp⟩
                    obtain ⟨pg', po', hA, hpg, hcc⟩ := (HM.out.kept HSy.out.below).get hq
                    cases hA
                    have t1 : wr.cell? ⟨pg, po + k * 2 + 1, none⟩ = some (.int .i64 c2) := by
                      have t2 := hcc 1 (.int .i64 c2) rfl
                      rw [Nat.mul_comm] at t2; exact t2
                    have q1 : wr.cell? ⟨pg, po + (m + 1) * 2 + 1, none⟩ = some (.int .i64 p2) := by rw [cell_kept HSy.out.below HPG.out]; exact HPC.out.2
                    have HQN : Hid (c2 ≠ p2 → ∀ j q, j < k + 1 → l[j]? = some q → q.2 ≠ p2) := hid (fun hne j q hj hjq => by
                      by_cases e : j = k
                      · subst e; rw [hq] at hjq; cases hjq; exact hne
                      · exact HQ.out j q (by omega) hjq)
                    have HNO : Hid (c2 = p2 → ¬ okAt g l (m + 1)) := hid (by
                      rintro e ⟨p, h1, _, _, h4⟩
                      rw [HP.out] at h1
                      cases h1
                      exact h4 k (c1, c2) hlk hq e)
                    clear hq hcc hpg
                    by_cases he : c2 = p2
                    · have HNN := hid (HNO.out he)
                      have he2 : (c2 == p2) = true := by simpa using he
                      clear he HNO HQN
                      go_wp2
                      go_quiet (fail)
                      go_wp2
                      go_ret
                      exact ⟨HSy.out.below.trans (Below.mono (below_dn _ _) HSy.out.below.size), .inr ⟨rfl, m + 1, hlt, HO.out, HNN.out⟩⟩
                    · have HQ2 := hid (HQN.out he)
                      have he2 : (c2 == p2) = false := by simpa using he
                      clear he HNO HQN
                      go_wp2
                      go_quiet (fail)
                      go_wp2
                      exact ⟨⟨k + 1, by omega, by go_num, HQ2, hid (below_tr HX.out (below_dn _ _))⟩, by simp [intOf]; omega⟩
                  · have hkr : ¬ (k : Int) < (m : Int) + 1 := by omega
                    have HOK : Hid (∀ j, j < m + 1 + 1 → okAt g l j) := hid (fun j hj => by
                      by_cases e : j = m + 1
                      · rw [e]; exact ⟨_, HP.out, HED.out, HFT.out, fun k' q hk' hq => HQ.out k' q (by omega) hq⟩
                      · exact HO.out j (by omega))
                    clear hlk hk
                    go_wp2
                    exact ⟨⟨m + 1 + 1, by omega, by go_num, HOK, HX⟩, by simp [intOf]; omega⟩
          -- /L2
    · -- L3
      obtain rfl : i = l.length := by omega
      have hkr : ¬ ((l.length : Int) < (l.length : Int)) := by omega
      clear hi hlt
      go_wp2
      go_ret
      exact ⟨(HS.out.kept HX.out).below, .inl ⟨rfl, HO.out⟩⟩
      -- /L3
end Go.Proofs.Ytmddhjoomlhbcaa
