/- Prices of graphs that are made of a graph, in plain Lean. -/
import Derived.Test.YtmddhjoomlhbcaaAsGm
import Derived.Test.YtmddhjoomlhbcaaAsHv
namespace Go.Proofs.Ytmddhjoomlhbcaa
open Go.RowKit

theorem calls_some {P : Program} {f : FuncId} {args : Array Value} {w : World} {R : Ending → World → Prop} (h : Calls P f args w R) : ∃ e w', R e w' := by
  obtain ⟨e, w', _, hR, _⟩ := h []
  exact ⟨e, w', hR⟩
/-- Any table has a matching that is worth the most: the program itself finds one. -/
theorem top_any (w : World) {W : Nat → Nat → Int} {R C : Nat} (hW : WOk W) (hR : R ≤ 64) (hC : C ≤ 64) (hout : ∀ r c, ¬ (r < R ∧ c < C) → W r c = 0) : ∃ f, Top W R C f := by
  obtain ⟨T, hT⟩ : ∃ T, T = (List.range 4096).map fun i => W (i / 64) (i % 64) := ⟨_, rfl⟩
  have hl : T.length = 4096 := by rw [hT]; simp
  have he : wOf T = W := by
    funext r c
    unfold wOf
    by_cases h : r < 64 ∧ c < 64
    · rw [if_pos h]
      have : T[64 * r + c]? = some (W r c) := by
        rw [hT, List.getElem?_map, List.getElem?_range (by omega)]
        simp only [Option.map_some]
        rw [show (64 * r + c) / 64 = r by omega, show (64 * r + c) % 64 = c by omega]
      unfold getI; rw [this]; rfl
    · rw [if_neg h, hout r c (by omega)]
  have hc := heaviest_any w.heap.size R C T hR hC (by rw [he]; exact hW) (by rw [he]; exact hout) (w.alloc (.cells (tblL R C T).toArray 67)) ⟨heap_alloc_new _ _, hl⟩
  obtain ⟨e, w', tt, _, _, h, _⟩ := calls_some hc
  rw [he] at h
  exact ⟨_, h⟩

section
variable {W W' : Nat → Nat → Int} {R C : Nat} {f y z f' y' z' : Nat → Int}
theorem sumN_put (g : Nat → Int) (k : Nat) (v : Int) {n : Nat} (hk : k < n) : sumN (fun i => if i = k then v else g i) n = sumN g n - g k + v := by
  have h1 := sumN_strike (fun i => if i = k then v else g i) k n hk
  have h2 := sumN_strike g k n hk
  rw [if_pos rfl] at h1
  have h3 : sumN (fun i => if i = k then 0 else if i = k then v else g i) n = sumN (fun i => if i = k then 0 else g i) n := sumN_congr fun i _ => by by_cases e : i = k <;> simp [e]
  omega
/-- A row's price: what all are worth, less what they are worth without the row's edges. -/
theorem without_price (w : World) {r : Nat} (hW : WOk W) (hR : R ≤ 64) (hC : C ≤ 64) (hout : ∀ r c, ¬ (r < R ∧ c < C) → W r c = 0) (h : BestW W R C f y z) (h' : BestW W' R C f' y' z') (hr : r < R) (e : ∀ x c, W' x c = if x = r then 0 else W x c) : y r = val W f R - val W' f' R := by
  have hm' : ∀ f0, IsM W' R C f0 → IsM W R C f0 ∧ val W f0 R = val W' f0 R := fun f0 hm => by
    have hpos : ∀ x c, 0 < W' x c → x ≠ r ∧ W' x c = W x c := fun x c hp => by
      rw [e] at hp ⊢
      by_cases ex : x = r
      · rw [if_pos ex] at hp; omega
      · exact ⟨ex, if_neg ex⟩
    refine ⟨⟨fun x hx => ?_, fun _ _ => rfl, hm.one⟩, sumN_congr fun x hx => ?_⟩
    · obtain ⟨c, h1, ⟨h2, h3, h4⟩, _⟩ := hm.edge x hx
      exact ⟨c, h1, ⟨h2, h3, by rw [← (hpos x c h4).2]; exact h4⟩, rfl⟩
    · show (if f0 x < 0 then 0 else W x (f0 x).toNat) = if f0 x < 0 then 0 else W' x (f0 x).toNat
      by_cases hn : f0 x < 0
      · rw [if_pos hn, if_pos hn]
      · rw [if_neg hn, if_neg hn]
        obtain ⟨c, h1, _, _, h4⟩ := hm.at (Int.not_lt.1 hn)
        rw [h1, Int.toNat_natCast, (hpos x c h4).2]
  obtain ⟨m1, m2⟩ := hm' f' h'.mat
  have hle := h.most m1
  rw [m2] at hle
  have hv := val_eq h.mat h.slack
  -- not more
  have d' : Dual W' R C (fun x => if x = r then 0 else y x) z := by
    refine ⟨fun x hx => ?_, h.dual.z0, fun x c hx hc => ?_⟩
    · show 0 ≤ if x = r then 0 else y x
      have := h.dual.y0 x hx
      split <;> omega
    · show W' x c ≤ (if x = r then 0 else y x) + z c
      rw [e]
      have := h.dual.z0 c hc
      have := h.dual.feas x c hx hc
      split <;> omega
  have u1 := (val_le h'.mat d').1
  rw [sumN_put y r 0 hr] at u1
  -- not less
  obtain ⟨t, ht⟩ : ∃ t, t = val W f R - val W' f' R := ⟨_, rfl⟩
  have ht0 : 0 ≤ t := by omega
  let W2 : Nat → Nat → Int := fun x c => if x = r then (if W x c - t < 0 then 0 else W x c - t) else W x c
  have hW2 : WOk W2 := by
    refine ⟨fun x c => ?_, fun x c => ?_⟩
    · show 0 ≤ if x = r then (if W x c - t < 0 then 0 else W x c - t) else W x c
      have := hW.lo x c
      split <;> (try split) <;> omega
    · show (if x = r then (if W x c - t < 0 then 0 else W x c - t) else W x c) ≤ _
      have := hW.hi x c
      split <;> (try split) <;> omega
  have hout2 : ∀ x c, ¬ (x < R ∧ c < C) → W2 x c = 0 := fun x c hn => by
    show (if x = r then (if W x c - t < 0 then 0 else W x c - t) else W x c) = 0
    have := hout x c hn
    split <;> (try split) <;> omega
  obtain ⟨f2, h2⟩ := top_any w hW2 hR hC hout2
  obtain ⟨y2, z2, d2, s2, _, _⟩ := h2.shown
  have hv2 := val_eq h2.mat s2
  have e2 : ∀ x c, x ≠ r → W2 x c = W x c := fun x c hx => if_neg hx
  have e3 : ∀ c, 0 < W2 r c → W r c = W2 r c + t := fun c hp => by
    have h9 : W2 r c = if W r c - t < 0 then 0 else W r c - t := if_pos rfl
    rw [h9] at hp ⊢
    split at hp
    · omega
    · rw [if_neg (by assumption)]; omega
  have hM2 : IsM W R C f2 := by
    refine ⟨fun x hx => ?_, fun _ _ => rfl, h2.mat.one⟩
    obtain ⟨c, h1, ⟨h3, h4, h5⟩, _⟩ := h2.mat.edge x hx
    refine ⟨c, h1, ⟨h3, h4, ?_⟩, rfl⟩
    by_cases ex : x = r
    · subst ex; have := e3 c h5; omega
    · rw [e2 x c ex] at h5; exact h5
  have hbound : val W2 f2 R ≤ val W' f' R := by
    by_cases hn : f2 r < 0
    · have hq : IsM W' R C f2 := by
        refine ⟨fun x hx => ?_, fun _ _ => rfl, h2.mat.one⟩
        obtain ⟨c, h1, ⟨h3, h4, h5⟩, _⟩ := h2.mat.edge x hx
        have ex : x ≠ r := by rintro rfl; omega
        refine ⟨c, h1, ⟨h3, h4, ?_⟩, rfl⟩
        rw [e, if_neg ex]; rw [e2 x c ex] at h5; exact h5
      have hs : val W2 f2 R = val W' f2 R := sumN_congr fun x hx => by
        show (if f2 x < 0 then 0 else W2 x (f2 x).toNat) = if f2 x < 0 then 0 else W' x (f2 x).toNat
        by_cases ex : x = r
        · subst ex; rw [if_pos hn, if_pos hn]
        · rw [e2 _ _ ex, e, if_neg ex]
      rw [hs]; exact h'.most hq
    · have hmost := h.most hM2
      obtain ⟨c, h1, _, _, h5⟩ := h2.mat.at (Int.not_lt.1 hn)
      have k1 : val W f2 R = val W2 f2 R + t := by
        have hq : val W f2 R = sumN (fun x => if x = r then (W2 r c + t) else (if f2 x < 0 then 0 else W2 x (f2 x).toNat)) R := sumN_congr fun x hx => by
          show (if f2 x < 0 then 0 else W x (f2 x).toNat) = _
          by_cases ex : x = r
          · subst ex; rw [if_pos rfl, if_neg hn, h1, Int.toNat_natCast, e3 c h5]
          · rw [if_neg ex, e2 _ _ ex]
        rw [hq, sumN_put _ r _ hr]
        show val W2 f2 R - (if f2 r < 0 then 0 else W2 r (f2 r).toNat) + (W2 r c + t) = _
        rw [if_neg hn, h1, Int.toNat_natCast]; omega
      omega
  have d3 : Dual W R C (fun x => if x = r then y2 r + t else y2 x) z2 := by
    refine ⟨fun x hx => ?_, d2.z0, fun x c hx hc => ?_⟩
    · show 0 ≤ if x = r then y2 r + t else y2 x
      have := d2.y0 x hx
      have := d2.y0 r hr
      split <;> omega
    · show W x c ≤ (if x = r then y2 r + t else y2 x) + z2 c
      have h3 := d2.feas x c hx hc
      by_cases ex : x = r
      · subst ex
        rw [if_pos rfl]
        by_cases hp : 0 < W2 x c
        · have := e3 c hp; omega
        · have h9 : W2 x c = if W x c - t < 0 then 0 else W x c - t := if_pos rfl
          rw [h9] at hp h3
          have := d2.y0 x hx
          have := d2.z0 c hc
          split at hp <;> omega
      · rw [if_neg ex, ← e2 x c ex]; exact h3
  have hs3 : sumN (fun x => if x = r then y2 r + t else y2 x) R + sumN z2 C ≤ val W f R := by
    rw [sumN_put y2 r _ hr]; omega
  have k2 := (h.le_prices d3 (h.shows d3 hs3)).2 r hr
  have k3 : (if r = r then y2 r + t else y2 r) ≤ y r := k2
  rw [if_pos rfl] at k3
  have := d2.y0 r hr
  omega

/-- One column more: no row's price is less, no column's is greater. -/
theorem column_more (h : BestW W R C f y z) (h' : BestW W' R (C + 1) f' y' z') (e : ∀ r c, r < R → c < C → W' r c = W r c) : (∀ r, r < R → y r ≤ y' r) ∧ ∀ c, c < C → z' c ≤ z c := by
  have d1 : Dual W' R (C + 1) (fun r => max (y r) (y' r)) (fun c => if c < C then min (z c) (z' c) else z' c) := by
    refine ⟨fun r hr => ?_, fun c hc => ?_, fun r c hr hc => ?_⟩
    · have := h.dual.y0 r hr; show 0 ≤ max (y r) (y' r); omega
    · have h1 := h'.dual.z0 c hc
      show 0 ≤ if c < C then min (z c) (z' c) else z' c
      split
      · have := h.dual.z0 c (by assumption); omega
      · exact h1
    · show W' r c ≤ max (y r) (y' r) + if c < C then min (z c) (z' c) else z' c
      have h1 := h'.dual.feas r c hr hc
      split
      · have h2 := h.dual.feas r c hr (by assumption)
        rw [← e r c hr (by assumption)] at h2
        omega
      · omega
  have d2 : Dual W R C (fun r => min (y r) (y' r)) (fun c => max (z c) (z' c)) := by
    refine ⟨fun r hr => ?_, fun c hc => ?_, fun r c hr hc => ?_⟩
    · have := h.dual.y0 r hr; have := h'.dual.y0 r hr; show 0 ≤ min (y r) (y' r); omega
    · have := h.dual.z0 c hc; show 0 ≤ max (z c) (z' c); omega
    · show W r c ≤ min (y r) (y' r) + max (z c) (z' c)
      have h1 := h'.dual.feas r c hr (by omega)
      have h2 := h.dual.feas r c hr hc
      rw [e r c hr hc] at h1
      omega
  have s1 := (val_le h'.mat d1).1
  have s2 := (val_le h.mat d2).1
  have v1 := val_eq h.mat h.slack
  have v2 := val_eq h'.mat h'.slack
  have q1 := sumN_add (fun r => max (y r) (y' r)) (fun r => min (y r) (y' r)) R
  have q2 := sumN_add y y' R
  have q3 : sumN (fun r => max (y r) (y' r) + min (y r) (y' r)) R = sumN (fun r => y r + y' r) R := sumN_congr fun r _ => by omega
  have q4 := sumN_add (fun c => min (z c) (z' c)) (fun c => max (z c) (z' c)) C
  have q5 := sumN_add z z' C
  have q6 : sumN (fun c => min (z c) (z' c) + max (z c) (z' c)) C = sumN (fun c => z c + z' c) C := sumN_congr fun c _ => by omega
  have q7 : sumN (fun c => if c < C then min (z c) (z' c) else z' c) (C + 1) = sumN (fun c => min (z c) (z' c)) C + z' C := by
    rw [sumN, if_neg (by omega), sumN_congr (h := fun c => min (z c) (z' c)) fun c hc => if_pos hc]
  have q8 : sumN z' (C + 1) = sumN z' C + z' C := rfl
  have sl := h'.shows d1 (by omega)
  obtain ⟨a1, a2⟩ := h'.le_prices d1 sl
  refine ⟨fun r hr => ?_, fun c hc => ?_⟩
  · have : max (y r) (y' r) ≤ y' r := a2 r hr
    omega
  · have : z' c ≤ if c < C then min (z c) (z' c) else z' c := a1 c (by omega)
    rw [if_pos hc] at this
    omega
/-- One row more: no row's price is greater, no column's is less. -/
theorem row_more (h : BestW W R C f y z) (h' : BestW W' (R + 1) C f' y' z') (e : ∀ r c, r < R → c < C → W' r c = W r c) : (∀ r, r < R → y' r ≤ y r) ∧ ∀ c, c < C → z c ≤ z' c := by
  have d1 : Dual W' (R + 1) C (fun r => if r < R then min (y r) (y' r) else y' r) (fun c => max (z c) (z' c)) := by
    refine ⟨fun r hr => ?_, fun c hc => ?_, fun r c hr hc => ?_⟩
    · have h1 := h'.dual.y0 r hr
      show 0 ≤ if r < R then min (y r) (y' r) else y' r
      split
      · have := h.dual.y0 r (by assumption); omega
      · exact h1
    · have := h.dual.z0 c hc; show 0 ≤ max (z c) (z' c); omega
    · show W' r c ≤ (if r < R then min (y r) (y' r) else y' r) + max (z c) (z' c)
      have h1 := h'.dual.feas r c hr hc
      split
      · have h2 := h.dual.feas r c (by assumption) hc
        rw [← e r c (by assumption) hc] at h2
        omega
      · omega
  have d2 : Dual W R C (fun r => max (y r) (y' r)) (fun c => min (z c) (z' c)) := by
    refine ⟨fun r hr => ?_, fun c hc => ?_, fun r c hr hc => ?_⟩
    · have := h.dual.y0 r hr; show 0 ≤ max (y r) (y' r); omega
    · have := h.dual.z0 c hc; have := h'.dual.z0 c hc; show 0 ≤ min (z c) (z' c); omega
    · show W r c ≤ max (y r) (y' r) + min (z c) (z' c)
      have h1 := h'.dual.feas r c (by omega) hc
      have h2 := h.dual.feas r c hr hc
      rw [e r c hr hc] at h1
      omega
  have s1 := (val_le h'.mat d1).1
  have s2 := (val_le h.mat d2).1
  have v1 := val_eq h.mat h.slack
  have v2 := val_eq h'.mat h'.slack
  have q1 := sumN_add (fun c => max (z c) (z' c)) (fun c => min (z c) (z' c)) C
  have q2 := sumN_add z z' C
  have q3 : sumN (fun c => max (z c) (z' c) + min (z c) (z' c)) C = sumN (fun c => z c + z' c) C := sumN_congr fun c _ => by omega
  have q4 := sumN_add (fun r => min (y r) (y' r)) (fun r => max (y r) (y' r)) R
  have q5 := sumN_add y y' R
  have q6 : sumN (fun r => min (y r) (y' r) + max (y r) (y' r)) R = sumN (fun r => y r + y' r) R := sumN_congr fun r _ => by omega
  have q7 : sumN (fun r => if r < R then min (y r) (y' r) else y' r) (R + 1) = sumN (fun r => min (y r) (y' r)) R + y' R := by
    rw [sumN, if_neg (by omega), sumN_congr (h := fun r => min (y r) (y' r)) fun r hr => if_pos hr]
  have q8 : sumN y' (R + 1) = sumN y' R + y' R := rfl
  have sl := h.shows d2 (by omega)
  obtain ⟨a1, a2⟩ := h.le_prices d2 sl
  refine ⟨fun r hr => ?_, fun c hc => ?_⟩
  · have : max (y r) (y' r) ≤ y r := a2 r hr
    omega
  · have : z c ≤ min (z c) (z' c) := a1 c hc
    omega
/-- All weights k times as great. -/
theorem scaled_best {k : Int} (hk : 1 ≤ k) (h : BestW W R C f y z) (e : ∀ r c, W' r c = k * W r c) : BestW W' R C f (fun r => k * y r) (fun c => k * z c) := by
  have hpos : ∀ r c, 0 < W' r c ↔ 0 < W r c := fun r c => by
    rw [e]
    constructor
    · intro h1
      refine Classical.byContradiction fun h2 => ?_
      have : k * W r c ≤ k * 0 := Int.mul_le_mul_of_nonneg_left (by omega) (by omega)
      omega
    · intro h1; exact Int.mul_pos (by omega) h1
  have hM : ∀ f0, IsM W' R C f0 → IsM W R C f0 := fun f0 hm => by
    refine ⟨fun x hx => ?_, fun _ _ => rfl, hm.one⟩
    obtain ⟨c, h1, ⟨h2, h3, h4⟩, _⟩ := hm.edge x hx
    exact ⟨c, h1, ⟨h2, h3, (hpos _ _).1 h4⟩, rfl⟩
  have hk0 : ∀ a b : Int, k * a = k * b → a = b := fun a b h1 => Int.eq_of_mul_eq_mul_left (by omega) h1
  refine ⟨⟨fun x hx => ?_, fun _ _ => rfl, h.mat.one⟩, ⟨fun r hr => Int.mul_nonneg (by omega) (h.dual.y0 r hr), fun c hc => Int.mul_nonneg (by omega) (h.dual.z0 c hc), fun r c hr hc => ?_⟩, ⟨fun r c hr hc hf => ?_, fun r hr hf => ?_, fun c hc hn => ?_⟩, fun y' z' d s c hc => ?_, fun f' hm s => ?_⟩
  · obtain ⟨c, h1, ⟨h2, h3, h4⟩, _⟩ := h.mat.edge x hx
    exact ⟨c, h1, ⟨h2, h3, (hpos _ _).2 h4⟩, rfl⟩
  · show W' r c ≤ k * y r + k * z c
    rw [e, ← Int.mul_add]
    exact Int.mul_le_mul_of_nonneg_left (h.dual.feas r c hr hc) (by omega)
  · show k * y r + k * z c = W' r c
    rw [e, ← Int.mul_add, h.slack.pair r c hr hc hf]
  · show k * y r = 0
    rw [h.slack.row r hr hf]; simp
  · show k * z c = 0
    rw [h.slack.col c hc hn]; simp
  · -- the prices of the greater weights, divided
    have hz : ∀ c, z' c = k * (z' c / k) + z' c % k := fun c => by have := Int.mul_ediv_add_emod (z' c) k; omega
    have hzb : ∀ c, 0 ≤ z' c % k ∧ z' c % k < k := fun c => ⟨Int.emod_nonneg _ (by omega), Int.emod_lt_of_pos _ (by omega)⟩
    have hy : ∀ r, y' r + (k - 1) = k * ((y' r + (k - 1)) / k) + (y' r + (k - 1)) % k := fun r => by have := Int.mul_ediv_add_emod (y' r + (k - 1)) k; omega
    have hyb : ∀ r, 0 ≤ (y' r + (k - 1)) % k ∧ (y' r + (k - 1)) % k < k := fun c => ⟨Int.emod_nonneg _ (by omega), Int.emod_lt_of_pos _ (by omega)⟩
    have lt_of : ∀ a b : Int, k * a < k * b + k → a ≤ b := fun a b h1 => by
      refine Classical.byContradiction fun h2 => ?_
      have : k * (b + 1) ≤ k * a := Int.mul_le_mul_of_nonneg_left (by omega) (by omega)
      rw [Int.mul_add, Int.mul_one] at this
      omega
    have hfe : ∀ r c, k * W r c ≤ y' r + z' c → W r c ≤ (y' r + (k - 1)) / k + z' c / k := fun r c h1 => by
      refine lt_of _ _ ?_
      rw [Int.mul_add]
      have := hz c; have := hzb c; have := hy r; have := hyb r
      omega
    have d' : Dual W R C (fun r => (y' r + (k - 1)) / k) (fun c => z' c / k) := by
      refine ⟨fun r hr => Int.ediv_nonneg (by have := d.y0 r hr; omega) (by omega), fun c hc => Int.ediv_nonneg (d.z0 c hc) (by omega), fun r c hr hc => hfe r c ?_⟩
      rw [← e]; exact d.feas r c hr hc
    have s' : Slack W R C f (fun r => (y' r + (k - 1)) / k) (fun c => z' c / k) := by
      refine ⟨fun r c hr hc hf => ?_, fun r hr hf => ?_, fun c hc hn => ?_⟩
      · have h1 := s.pair r c hr hc hf
        rw [e] at h1
        have h2 := hfe r c (by omega)
        show (y' r + (k - 1)) / k + z' c / k = W r c
        have h3 : (y' r + (k - 1)) / k + z' c / k ≤ W r c := by
          refine lt_of _ _ ?_
          rw [Int.mul_add]
          have := hz c; have := hzb c; have := hy r; have := hyb r
          omega
        omega
      · show (y' r + (k - 1)) / k = 0
        rw [s.row r hr hf]
        exact Int.ediv_eq_zero_of_lt (by omega) (by omega)
      · show z' c / k = 0
        rw [s.col c hc hn]; simp
    have h1 := h.ends _ _ d' s' c hc
    have h2 : k * z c ≤ k * (z' c / k) := Int.mul_le_mul_of_nonneg_left h1 (by omega)
    have := hz c; have := hzb c
    show k * z c ≤ z' c
    omega
  · refine h.lex f' (hM f' hm) ⟨fun r c hr hc hf => ?_, fun r hr hf => ?_, fun c hc hn => ?_⟩
    · have h1 : k * y r + k * z c = W' r c := s.pair r c hr hc hf
      rw [e, ← Int.mul_add] at h1
      exact hk0 _ _ h1
    · have h1 : k * y r = 0 := s.row r hr hf
      exact hk0 _ _ (by rw [h1]; simp)
    · have h1 : k * z c = 0 := s.col c hc hn
      exact hk0 _ _ (by rw [h1]; simp)
end
end Go.Proofs.Ytmddhjoomlhbcaa
