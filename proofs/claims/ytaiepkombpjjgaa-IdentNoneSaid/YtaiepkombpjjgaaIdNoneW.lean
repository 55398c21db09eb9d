/- The walk of IdentNone: it returns true, and lays new blocks only. -/
import Derived.Test.YtaiepkombpjjgaaIdAlive
import Derived.Test.YtaiepkombpjjgaaSetOps
import Derived.Test.YtaiepkombpjjgaaGath
import Derived.Test.YtaiepkombpjjgaaQx
namespace Go.Proofs.Ytaiepkombpjjgaa
open Go.RowKit

theorem add_none (x : List Int) {w : World} {pp : Option Addr} (h : SetAt w pp []) (hb : ∀ p b, ¬ SetIs w p b []) :
    Calls Try.prog 35 #[.pointer pp, .agg (bys x)] w fun e w' => e = .returned (.bool false) ∧ Below w.heap.size w w' := by
  rcases h with ⟨rfl, _⟩ | ⟨p, rfl, ⟨h, _⟩ | ⟨b, h⟩⟩
  · exact add_nil x w
  · exact add_bare x h
  · exact absurd h (hb p b)

/-- A set that is not there, or that no call made. -/
def NoSet (w : World) (pp : Option Addr) : Prop := pp = none ∨ ∃ p, pp = some ⟨p, 0, none⟩ ∧ w.heap[p]? = some (.cells #[.map none] 67 (0, 0))
theorem NoSet.kept {w w' : World} {pp : Option Addr} (h : NoSet w pp) (hb : Below w.heap.size w w') : NoSet w' pp := by
  rcases h with h | ⟨p, rfl, h⟩
  · exact .inl h
  · exact .inr ⟨p, rfl, below_keep hb h⟩
theorem NoSet.at {w : World} {pp : Option Addr} (h : NoSet w pp) : SetAt w pp [] := by
  rcases h with h | ⟨p, rfl, h⟩
  · exact .inl ⟨h, rfl⟩
  · exact .inr ⟨p, rfl, .inl ⟨h, rfl⟩⟩
theorem NoSet.iter {w : World} {pp : Option Addr} {bx : Nat} (h : NoSet w pp) (hb : w.heap[bx]? = some (.cells #[.pointer pp] 40 (0, 0))) : IterAt w bx [] := by
  rcases h with h | ⟨p, rfl, h⟩
  · exact ⟨pp, hb, .inl ⟨h, rfl⟩⟩
  · exact ⟨_, hb, .inr ⟨p, rfl, .inl ⟨h, rfl⟩⟩⟩
theorem NoSet.add {w : World} {pp : Option Addr} (h : NoSet w pp) (x : List Int) : Calls Try.prog 35 #[.pointer pp, .agg (bys x)] w fun e w' => e = .returned (.bool false) ∧ Below w.heap.size w w' := by
  rcases h with rfl | ⟨p, rfl, h⟩
  · exact add_nil x w
  · exact add_bare x h
theorem NoSet.has {w : World} {pp : Option Addr} (h : NoSet w pp) (x : List Int) (hx : B8 x) : Calls Try.prog 32 #[.pointer pp, .agg (bys x)] w fun e w' => e = .returned (.bool false) ∧ Below w.heap.size w w' :=
  (has_any x hx h.at).mono fun e w' h => by simpa using h
theorem NoSet.drop {w : World} {pp : Option Addr} (h : NoSet w pp) (x : List Int) (hx : B8 x) : Calls Try.prog 34 #[.pointer pp, .agg (bys x)] w fun e w' => e = .returned (.bool false) ∧ Below w.heap.size w w' :=
  drop_none x hx h.at (by simp)
theorem NoSet.len {w : World} {pp : Option Addr} (h : NoSet w pp) : Calls Try.prog 31 #[.pointer pp] w fun e w' => e = .returned (.int .i64 0) ∧ Below w.heap.size w w' :=
  (len_any h.at).mono fun _ _ ⟨h1, h2⟩ => ⟨h1, h2 ▸ Below.refl _ _⟩
theorem NoSet.gather {w : World} {pp : Option Addr} {bx : Nat} (h : NoSet w pp) (hb : w.heap[bx]? = some (.cells #[.pointer pp] 40 (0, 0))) :
    Calls Try.prog 30 #[.func (.func 50) #[] #[.pointer (some ⟨bx, 0, none⟩)], .int .i64 1] w fun e w' => e = .returned (.slice none 0 0) ∧ Below w.heap.size w w' :=
  (gather_any (h.iter hb) (by simp) 1 (by omega)).mono fun _ _ ⟨v, h1, _, h3, h4⟩ => ⟨by rw [h1, h3 (by simp)], h4⟩

set_option maxRecDepth 100000 in
set_option maxHeartbeats 2000000 in
theorem identNone_any (x : List Int) (hx : B8 x) (w : World) :
    Calls Try.prog 9 #[.agg (bys x)] w fun e w' => e = .returned (.bool true) ∧ Below w.heap.size w w' := by
  have HI := hid (info_id x hx)
  have HX := hid hx
  have hseq := eq_seq
  have KV := hid (fun w => alive_any w)
  clear hx
  go_enter Try.func9, Try.ntmps9
  go_wp2_with fail
  go_loopw [5] (fun i wr => ∃ k : Nat, k ≤ 2 ∧ i = .int .i64 k ∧ Hid (wr.heap[w.heap.size]? = some (.cells (bys x) 23 (0, 0))) ∧ Hid (wr.heap[w.heap.size + 1]? = some (.cells #[.map none] 67 (0, 0))) ∧
    Hid (wr.heap[w.heap.size + 1 + 1]? = some (.cells #[.pointer none, .pointer (some ⟨w.heap.size + 1, 0, none⟩)] 41 (0, 0))) ∧ Hid (Below w.heap.size w wr)) (fun i _ => 2 - (intOf i).toNat)
  case atStart => exact ⟨0, by omega, rfl, hid (alloc_keep (heap2_old _ _ _ _) _), hid (alloc_keep (heap2_new _ _ _ _) _), hid (by simpa using heap_alloc_new ((w.alloc (.cells (bys x) 23)).alloc (.cells #[.map none] 67)) (.cells #[.pointer none, .pointer (some ⟨w.heap.size + 1, 0, none⟩)] 41)), hid ((((Below.refl _ w).alloc (Nat.le_refl _) _).alloc (by simp) _).alloc (by simp; omega) _)⟩
  case round =>
    obtain ⟨k, hk, rfl, H1, H2, H3, HB⟩ := hrel
    by_cases hlt : k < 2
    · obtain ⟨pp, hpp⟩ : ∃ pp : Option Addr, pp = if k = 0 then none else some ⟨w.heap.size + 1, 0, none⟩ := ⟨_, rfl⟩
      have hcell0 : wr.cell? ⟨w.heap.size + 1 + 1, k, none⟩ = some (.pointer pp) := by
        rw [cell_of_row _ _ _ _ _ _ H3.out, hpp]
        have : k = 0 ∨ k = 1 := by omega
        rcases this with rfl | rfl <;> rfl
      have HN : Hid (NoSet wr pp) := hid (by
        rw [hpp]
        by_cases h0 : k = 0
        · exact .inl (by rw [if_pos h0])
        · exact .inr ⟨_, by rw [if_neg h0], H2.out⟩)
      clear hpp
      have HC := hid (fun w => all_any pp w)
      go_wp2_with (go_at_call 29; refine (HC.out _).mono ?_; rintro e' w3 ⟨rfl, rfl⟩)
      obtain ⟨wz, hwz⟩ : ∃ wz, wz = wr.alloc (.cells #[.pointer pp] 40) := ⟨_, rfl⟩
      have hz := (Below.refl wr.heap.size wr).alloc (Nat.le_refl _) (.cells #[.pointer pp] 40)
      rw [← hwz] at hz ⊢
      have hbx : wz.heap[wr.heap.size]? = some (.cells #[.pointer pp] 40 (0, 0)) := by rw [hwz]; exact heap_alloc_new _ _
      have hcell : wz.cell? ⟨w.heap.size + 1 + 1, k, none⟩ = some (.pointer pp) := (hz.cell (p := ⟨w.heap.size + 1 + 1, k, none⟩) (heap_lt H3.out)).trans hcell0
      have HZ1 := hid (below_keep hz H1.out)
      have HZ2 := hid (below_keep hz H2.out)
      have HZ3 := hid (below_keep hz H3.out)
      have HN2 := hid (HN.out.kept hz)
      have HBZ : Hid (Below w.heap.size w wz) := hid (HB.out.trans (hz.mono HB.out.size))
      have KA := hid (fun X : Bw wz => (HN2.out.kept X.2).add x)
      have KH := hid (fun X : Bw wz => (HN2.out.kept X.2).has x HX.out)
      have KD := hid (fun X : Bw wz => (HN2.out.kept X.2).drop x HX.out)
      have KL := hid (fun X : Bw wz => (HN2.out.kept X.2).len)
      have KG := hid (fun X : Bw wz => (HN2.out.kept X.2).gather (below_keep X.2 hbx))
      clear hz hwz hcell0 hbx HN
      generalize wr.heap.size = bx at *
      refine wp_region_bw (by kernel_rfl) (by kernel_rfl) ?_
      iterate 2 (first | go_big_quiet_step (fail) | (go_big_quiet_want; go_simp; go_big_quiet_on))
      (go_big_quiet_want; refine quiet_load_cell 40 _ rfl _ _ rfl _ (hcell) (fun w h => by go_simp) ?_; simp only [Act.put, List.setIfInBounds_toArray, List.set_cons_zero, List.set_cons_succ]; go_big_quiet_on)
      (go_big_quiet_want; refine quiet_load_row 23 _ rfl _ rfl _ _ _ _ (HZ1.out) Try.underlying23 rfl (HI.out) ?_; simp only [Act.put, List.setIfInBounds_toArray, List.set_cons_zero, List.set_cons_succ]; go_big_quiet_on)
      (go_big_quiet_want; go_big_quiet_op; go_big_quiet_call ((go_at_call 35; exact Calls.bw (KA.out _))))
      iterate 3 (first | go_big_quiet_step (fail) | (go_big_quiet_want; go_simp; go_big_quiet_on))
      (go_big_quiet_want; refine quiet_load_cell 40 _ rfl _ _ rfl _ (hcell) (fun w h => by go_simp) ?_; simp only [Act.put, List.setIfInBounds_toArray, List.set_cons_zero, List.set_cons_succ]; go_big_quiet_on)
      (go_big_quiet_want; refine quiet_load_row 23 _ rfl _ rfl _ _ _ _ (HZ1.out) Try.underlying23 rfl (HI.out) ?_; simp only [Act.put, List.setIfInBounds_toArray, List.set_cons_zero, List.set_cons_succ]; go_big_quiet_on)
      (go_big_quiet_want; go_big_quiet_op; go_big_quiet_call ((go_at_call 32; exact Calls.bw (KH.out _))))
      iterate 4 (first | go_big_quiet_step (fail) | (go_big_quiet_want; go_simp; go_big_quiet_on))
      (go_big_quiet_want; refine quiet_load_cell 40 _ rfl _ _ rfl _ (hcell) (fun w h => by go_simp) ?_; simp only [Act.put, List.setIfInBounds_toArray, List.set_cons_zero, List.set_cons_succ]; go_big_quiet_on)
      (go_big_quiet_want; refine quiet_load_row 23 _ rfl _ rfl _ _ _ _ (HZ1.out) Try.underlying23 rfl (HI.out) ?_; simp only [Act.put, List.setIfInBounds_toArray, List.set_cons_zero, List.set_cons_succ]; go_big_quiet_on)
      (go_big_quiet_want; go_big_quiet_op; go_big_quiet_call ((go_at_call 34; exact Calls.bw (KD.out _))))
      iterate 4 (first | go_big_quiet_step (fail) | (go_big_quiet_want; go_simp; go_big_quiet_on))
      (go_big_quiet_want; refine quiet_load_cell 40 _ rfl _ _ rfl _ (hcell) (fun w h => by go_simp) ?_; simp only [Act.put, List.setIfInBounds_toArray, List.set_cons_zero, List.set_cons_succ]; go_big_quiet_on)
      (go_big_quiet_want; go_big_quiet_op; go_big_quiet_call ((go_at_call 31; exact Calls.bw (KL.out _))))
      iterate 8 (first | go_big_quiet_step (fail) | (go_big_quiet_want; go_simp; go_big_quiet_on))
      (go_big_quiet_want; go_big_quiet_op; go_big_quiet_call ((go_at_call 30; exact Calls.bw (KG.out _))))
      iterate 3 (first | go_big_quiet_step (fail) | (go_big_quiet_want; go_simp; go_big_quiet_on))
      refine wpQuiet_nil ?_; rintro w' ⟨X, rfl⟩
      go_wp2
      refine ⟨⟨k + 1, by omega, by go_num, hid (below_keep X.2 HZ1.out), hid (below_keep X.2 HZ2.out), hid (below_keep X.2 HZ3.out), hid (HBZ.out.trans (X.2.mono HBZ.out.size))⟩, ?_⟩
      simp [intOf]; omega
    · go_wp2_with (go_at_call 22; refine (KV.out _).mono ?_; rintro e' w3 ⟨rfl, hb3⟩)
      go_ret
      exact ⟨rfl, HB.out.trans (hb3.mono HB.out.size)⟩
end Go.Proofs.Ytaiepkombpjjgaa
