/- The two examples of 'lives': what Best answers for them. -/
import Derived.Test.YtmddhjoomlhbcaaAsWo
namespace Go.Proofs.Ytmddhjoomlhbcaa
open Go.RowKit

def lg1 : Gr := ⟨2, 1, [⟨0, 0, 13⟩, ⟨1, 0, 18⟩]⟩
def lg2 : Gr := ⟨2, 2, [⟨0, 0, 3⟩, ⟨0, 1, 2⟩, ⟨1, 0, 2⟩]⟩
theorem lg1_chk : chk lg1 = true := by decide +kernel
theorem lg2_chk : chk lg2 = true := by decide +kernel
theorem lg1_00 : wG lg1 0 0 = 13 := wG_edge lg1_chk (x := ⟨0, 0, 13⟩) (by simp [lg1]) rfl rfl
theorem lg1_10 : wG lg1 1 0 = 18 := wG_edge lg1_chk (x := ⟨1, 0, 18⟩) (by simp [lg1]) rfl rfl
theorem lg2_00 : wG lg2 0 0 = 3 := wG_edge lg2_chk (x := ⟨0, 0, 3⟩) (by simp [lg2]) rfl rfl
theorem lg2_01 : wG lg2 0 1 = 2 := wG_edge lg2_chk (x := ⟨0, 1, 2⟩) (by simp [lg2]) rfl rfl
theorem lg2_10 : wG lg2 1 0 = 2 := wG_edge lg2_chk (x := ⟨1, 0, 2⟩) (by simp [lg2]) rfl rfl
theorem lg2_11 : wG lg2 1 1 = 0 := by
  by_cases e : wG lg2 1 1 = 0
  · exact e
  · obtain ⟨x, h1, h2, h3, _⟩ := wG_some lg2_chk e
    simp [lg2] at h1
    rcases h1 with rfl | rfl | rfl <;> simp at h2 h3
theorem lg1_worth : worthF lg1 [(0, 0)] = (13, 0) := by
  unfold worthF
  rw [if_pos lg1_chk]
  have e : badP (wG lg1) 2 1 (List.replicate 64 false) (-1) (0, 0) = false := by
    unfold badP
    have e0 : getB (List.replicate 64 false) 0 = false := by decide
    show (decide _ || getB (List.replicate 64 false) 0 || decide (wG lg1 0 0 = 0)) = false
    rw [e0, lg1_00]
    decide
  show worthL (wG lg1) 2 1 [(0, 0)] (-1) (List.replicate 64 false) 0 = (13, 0)
  unfold worthL
  rw [e]
  simp [worthL, lg1_00]
theorem two_take {y : List Int} {a b : Int} (hl : y.length = 64) (h0 : getI y 0 = a) (h1 : getI y 1 = b) : y.take 2 = [a, b] := by
  match y, hl with
  | c :: d :: l, _ => simp [getI] at h0 h1; simp [h0, h1]
theorem one_take {y : List Int} {a : Int} (hl : y.length = 64) (h0 : getI y 0 = a) : y.take 1 = [a] := by
  match y, hl with
  | c :: l, _ => simp [getI] at h0; simp [h0]

theorem lg1_ans {tt y z : List Int} (h : BestAns lg1 tt y z) : prsTo tt 2 = [(1, 0)] ∧ y.take 2 = [0, 5] ∧ z.take 1 = [13] := by
  have hb := h.best
  have hv := h.val
  have hR : lg1.rows.toNat = 2 := rfl
  have hC : lg1.cols.toNat = 1 := rfl
  rw [hR, hC] at hb
  rw [hR, hC] at hv
  let fs : Nat → Int := fun x => if x = 1 then 0 else -1
  let ys : Nat → Int := fun x => if x = 1 then 5 else 0
  let zs : Nat → Int := fun _ => 13
  have r2 : ∀ r : Nat, r < 2 → r = 0 ∨ r = 1 := fun r hr => by omega
  have m : IsM (wG lg1) 2 1 fs := by
    refine ⟨fun x hx => ?_, fun _ _ => rfl, fun x y hx he => ?_⟩
    · by_cases e : x = 1
      · subst e; exact ⟨0, rfl, ⟨by omega, by omega, by rw [lg1_10]; omega⟩, rfl⟩
      · simp only [fs, if_neg e] at hx; omega
    · simp only [fs] at hx he
      split at hx <;> split at he <;> omega
  have d : Dual (wG lg1) 2 1 ys zs := by
    refine ⟨fun r _ => ?_, fun _ _ => by simp only [zs]; omega, fun r c hr hc => ?_⟩
    · simp only [ys]; split <;> omega
    · obtain rfl : c = 0 := by omega
      rcases r2 r hr with rfl | rfl
      · rw [lg1_00]; simp only [ys, zs]; decide
      · rw [lg1_10]; simp only [ys, zs]; decide
  have s : Slack (wG lg1) 2 1 fs ys zs := by
    refine ⟨fun r c hr hc he => ?_, fun r hr he => ?_, fun c hc he => ?_⟩
    · obtain rfl : c = 0 := by omega
      rcases r2 r hr with rfl | rfl
      · simp [fs] at he
      · rw [lg1_10]; simp only [ys, zs]; decide
    · rcases r2 r hr with rfl | rfl
      · rfl
      · simp [fs] at he
    · exact absurd (by obtain rfl : c = 0 := by omega
                       rfl) (he 1 (by omega))
  obtain ⟨s1, s2⟩ := hb.any m d s
  have e1 := s2.pair 1 0 (by omega) (by omega) rfl
  have e2 := s2.row 0 (by omega) (by simp [fs])
  have e3 := hb.dual.feas 0 0 (by omega) (by omega)
  have e4 := hb.ends ys zs d s1 0 (by omega)
  rw [lg1_10] at e1
  rw [lg1_00] at e3
  simp only [zs] at e4
  have f1 : upTo 2 tt 1 = 0 := by
    by_cases e : upTo 2 tt 1 < 0
    · have := s1.row 1 (by omega) e
      simp [ys] at this
    · obtain ⟨c, h1, ⟨_, h2, _⟩, _⟩ := hb.mat.edge 1 (by omega)
      omega
  have f0 : upTo 2 tt 0 < 0 := by
    by_cases e : upTo 2 tt 0 < 0
    · exact e
    · obtain ⟨c, h1, ⟨_, h2, _⟩, _⟩ := hb.mat.edge 0 (by omega)
      have := hb.mat.one 0 1 (by omega) (by omega)
      omega
  rw [upTo, if_pos (by omega)] at f0 f1
  refine ⟨?_, two_take h.ly (by omega) (by omega), one_take h.lz (by omega)⟩
  rw [prsTo_succ, prsTo_succ, if_pos f0, f1]
  rfl

theorem lg2_ans {tt y z : List Int} (h : BestAns lg2 tt y z) : prsTo tt 2 = [(0, 1), (1, 0)] ∧ y.take 2 = [2, 1] ∧ z.take 2 = [1, 0] := by
  have hb := h.best
  have hR : lg2.rows.toNat = 2 := rfl
  have hC : lg2.cols.toNat = 2 := rfl
  rw [hR, hC] at hb
  let fs : Nat → Int := fun x => if x = 0 then 1 else if x = 1 then 0 else -1
  let ys : Nat → Int := fun x => if x = 0 then 2 else 1
  let zs : Nat → Int := fun x => if x = 0 then 1 else 0
  have r2 : ∀ r : Nat, r < 2 → r = 0 ∨ r = 1 := fun r hr => by omega
  have m : IsM (wG lg2) 2 2 fs := by
    refine ⟨fun x hx => ?_, fun _ _ => rfl, fun x y hx he => ?_⟩
    · by_cases e : x = 0
      · subst e; exact ⟨1, rfl, ⟨by omega, by omega, by rw [lg2_01]; omega⟩, rfl⟩
      · by_cases e2 : x = 1
        · subst e2; exact ⟨0, rfl, ⟨by omega, by omega, by rw [lg2_10]; omega⟩, rfl⟩
        · simp only [fs, if_neg e, if_neg e2] at hx; omega
    · simp only [fs] at hx he
      split at he <;> split at he <;> (try split at he) <;> (try split at hx) <;> (try split at hx) <;> omega
  have d : Dual (wG lg2) 2 2 ys zs := by
    refine ⟨fun r _ => ?_, fun c _ => ?_, fun r c hr hc => ?_⟩
    · simp only [ys]; split <;> omega
    · simp only [zs]; split <;> omega
    · rcases r2 r hr with rfl | rfl <;> rcases r2 c hc with rfl | rfl
      · rw [lg2_00]; simp only [ys, zs]; decide
      · rw [lg2_01]; simp only [ys, zs]; decide
      · rw [lg2_10]; simp only [ys, zs]; decide
      · rw [lg2_11]; simp only [ys, zs]; decide
  have s : Slack (wG lg2) 2 2 fs ys zs := by
    refine ⟨fun r c hr hc he => ?_, fun r hr he => ?_, fun c hc he => ?_⟩
    · rcases r2 r hr with rfl | rfl <;> rcases r2 c hc with rfl | rfl
      · simp [fs] at he
      · rw [lg2_01]; simp only [ys, zs]; decide
      · rw [lg2_10]; simp only [ys, zs]; decide
      · simp [fs] at he
    · rcases r2 r hr with rfl | rfl <;> simp [fs] at he
    · rcases r2 c hc with rfl | rfl
      · exact absurd rfl (he 1 (by omega))
      · rfl
  obtain ⟨s1, s2⟩ := hb.any m d s
  have e1 := s2.pair 0 1 (by omega) (by omega) rfl
  have e2 := s2.pair 1 0 (by omega) (by omega) rfl
  have e3 := hb.dual.feas 0 0 (by omega) (by omega)
  have e4 := hb.ends ys zs d s1 0 (by omega)
  have e5 := hb.ends ys zs d s1 1 (by omega)
  have e6 := hb.dual.z0 1 (by omega)
  rw [lg2_01] at e1
  rw [lg2_10] at e2
  rw [lg2_00] at e3
  simp only [zs] at e4 e5
  simp at e4 e5
  have f1 : upTo 2 tt 1 = 0 := by
    by_cases e : upTo 2 tt 1 < 0
    · have := s1.row 1 (by omega) e
      simp [ys] at this
    · obtain ⟨c, h1, ⟨_, h2, h3⟩, _⟩ := hb.mat.edge 1 (by omega)
      rcases r2 c h2 with rfl | rfl
      · exact h1
      · rw [lg2_11] at h3; omega
  have f0 : upTo 2 tt 0 = 1 := by
    by_cases e : upTo 2 tt 0 < 0
    · have := s1.row 0 (by omega) e
      simp [ys] at this
    · obtain ⟨c, h1, ⟨_, h2, _⟩, _⟩ := hb.mat.edge 0 (by omega)
      have := hb.mat.one 0 1 (by omega)
      omega
  rw [upTo, if_pos (by omega)] at f0 f1
  refine ⟨?_, two_take h.ly (by omega) (by omega), two_take h.lz (by omega) (by omega)⟩
  rw [prsTo_succ, prsTo_succ, f0, f1]
  rfl
end Go.Proofs.Ytmddhjoomlhbcaa
