/- The walk of IdentSets: it returns true, and lays new blocks only. -/
import Derived.Test.YtaiepkombpjjgaaSetsSt
import Derived.IntWalk
namespace Go.Proofs.Ytaiepkombpjjgaa
open Go.RowKit

set_option maxRecDepth 100000 in
set_option maxHeartbeats 4000000 in
theorem identSets_any (l : List Id8) (a : Option Addr) (cap : Nat) (x : Id8) (hl : l.length * 8 ≤ 140737488351232) (w : World) (hr : RowsAt 8 idE w a l) :
    Calls Try.prog 8 #[.slice a l.length cap, .agg (idE x)] w fun e w' => e = .returned (.bool true) ∧ Below w.heap.size w w' := by
  have HR := hid hr
  have HX8 : Hid ((idE x).size = 8) := hid (idE_size x)
  have hseq := eq_seq
  have KV := hid (fun w => alive_any w)
  have KB := hid (beyond_one (l.length : Int) (by omega) ((w.alloc (.cells (idE x) 23)).alloc (.cells #[.int .i64 (l.length : Int)] 3)) (w.heap.size + 1) (heap2_new _ _ _ _))
  clear hr
  go_enter Try.func8, Try.ntmps8
  by_cases hbig : 1048576 < (l.length : Int)
  · rw [show decide (1048576 < (l.length : Int)) = true from decide_eq_true hbig] at KB
    go_wp2_with (first | (go_at_call 25; refine KB.out.mono ?_; rintro e w2 ⟨rfl, hb2⟩; have HB2 := hid hb2; clear hb2) | (go_at_call 22; refine (KV.out _).mono ?_; rintro e w3 ⟨rfl, hb3⟩; have HB3 := hid hb3; clear hb3))
    go_ret
    have h2 := (((Below.refl _ w).alloc (Nat.le_refl _) (.cells (idE x) 23)).alloc (by simp) (.cells #[.int .i64 (l.length : Int)] 3)).trans (HB2.out.mono (by simp; omega))
    exact ⟨rfl, h2.trans (HB3.out.mono h2.size)⟩
  · rw [show decide (1048576 < (l.length : Int)) = false from decide_eq_false hbig] at KB
    have hl2 : l.length ≤ 1048576 := by omega
    clear hbig
    have KT := hid (fun w hr => twinIDs_any l a cap hl2 w hr)
    have KN := hid (fun (w : World) (g : Nat) (h : FlAt w g 23 idE (l ++ [idM])) => newSet_any (some ⟨g, 0, none⟩) (l.length + 1) (vals l) vals_B8 (by unfold vals; rw [List.length_map]; omega) w (idsAt_of_rows h))
    rw [show (vals l).length = l.length by unfold vals; rw [List.length_map]] at KN
    go_wp2_with (first | (go_at_call 25; refine KB.out.mono ?_; rintro e w2 ⟨rfl, hb2⟩; have HB2 := hid ((((Below.refl _ w).alloc (Nat.le_refl _) (.cells (idE x) 23)).alloc (by simp) (.cells #[.int .i64 (l.length : Int)] 3)).trans (hb2.mono (by simp; omega))); have HX2 := hid (below_keep hb2 (heap2_old _ _ _ _)); clear hb2)
                                | (go_at_call 28; refine (KT.out _ (HR.out.kept HB2.out)).mono ?_; rintro e w3 ⟨gt, rfl, hgt, hft, hb3⟩; have HFT := hid hft; have HB3 := hid (HB2.out.trans (hb3.mono HB2.out.size)); have HX3 := hid (below_keep hb3 HX2.out); clear hft hb3 hgt)
                                | (go_at_call 23; refine (KN.out _ _ HFT.out).mono ?_; rintro e w4 ⟨p, b, rfl, hset, hp, hb, hb4⟩; have HS4 := hid hset; have HB4 := hid (HB3.out.trans (hb4.mono HB3.out.size)); have HX4 := hid (below_keep hb4 HX3.out); have HPB := hid (Nat.le_trans HB3.out.size hb); clear hset hp hb hb4)
                                | (go_at_call 22; refine (KV.out _).mono ?_; rintro e w5 ⟨rfl, hb5⟩; have HS5 := hid (HS4.out.kept hb5); have HB5 := hid (HB4.out.trans (hb5.mono HB4.out.size)); have HX5 := hid (below_keep hb5 HX4.out); clear hb5)
                                | (go_at_call 29; refine (all_any _ _).mono ?_; rintro e w6 ⟨rfl, hw6⟩; have hb6 := hw6 ▸ (Below.refl w5.heap.size w5).alloc (Nat.le_refl _) (.cells #[.pointer (some ⟨p, 0, none⟩)] 40); have HBX6 := hid (show w6.heap[w5.heap.size]? = some (.cells #[.pointer (some ⟨p, 0, none⟩)] 40 (0, 0)) by rw [hw6]; exact heap_alloc_new _ _); have HS6 := hid (HS5.out.kept hb6); have HB6 := hid (HB5.out.trans (hb6.mono HB5.out.size)); have HX6 := hid (below_keep hb6 HX5.out); clear hw6 hb6)
                                | (go_at_call 30; refine (gather_any (L := idsOf _ HS6.out.b8) ⟨_, HBX6.out, .inr ⟨p, rfl, .inr ⟨b, _, HS6.out, idsOf_val _ _⟩⟩⟩ (by rw [idsOf_len]; have h8 := insAll_len (vals l) []; rw [show (vals l).length = l.length by unfold vals; rw [List.length_map]] at h8; simp at h8; omega) _ (by omega)).mono ?_; refine stopper ?_))
    refine hid ?_
    have hSB := HS6.out.b8
    have hSN := HS6.out.nodup
    have hSM : ∀ y : Id8, y.1 ∈ insAll [] (vals l) ↔ y ∈ l := fun y => by rw [mem_insAll, vals_mem]; simp
    have hSL : (insAll [] (vals l)).length ≤ l.length := by
      have h8 := insAll_len (vals l) []
      rw [show (vals l).length = l.length by unfold vals; rw [List.length_map]] at h8
      simpa using h8
    generalize insAll [] (vals l) = S at *
    generalize w5.heap.size = bx at *
    obtain ⟨L, hLL⟩ : ∃ L, L = idsOf S hSB := ⟨_, rfl⟩
    rw [← hLL]
    have hLS : L.length = S.length := by rw [hLL, idsOf_len]
    have HTK : Hid (L.take ((l.length : Int) + 1).toNat = L) := hid (List.take_of_length_le (by omega))
    rw [HTK.out]
    rintro e w7 ⟨v, rfl, ho7, _, hb7⟩
    obtain ⟨va, cp, rfl, hrw⟩ := own_rows rfl ho7
    have HS := hid (show SAt w w7 x p b bx va L S from ⟨HS6.out.kept hb7, below_keep hb7 HBX6.out, below_keep hb7 HX6.out, hrw, HB6.out.trans (hb7.mono HB6.out.size), HPB.out⟩)
    have HLM := hid (fun y : Id8 => (show y ∈ L ↔ y ∈ l by rw [hLL, idsOf_mem, hSM]))
    have HLN := hid (show L.Nodup by rw [hLL]; exact idsOf_nodup hSB hSN)
    have HLT := hid (show L.Pairwise (fun x y => num x.1 < num y.1) by rw [hLL]; exact idsOf_lt hSB hSN)
    have HSM := hid hSM
    have HSN := hid hSN
    have HSB := hid hSB
    have HLL : Hid (L = idsOf S HSB.out) := hid hLL
    have HLS := hid hLS
    have hLl : L.length ≤ l.length := by omega
    clear hSB hSN hSM hSL ho7 hb7 hrw hLL hLS HTK KN KT KB HFT HS4 HS5 HS6 HB2 HB3 HB4 HB5 HB6 HX2 HX3 HX4 HX5 HX6 HBX6
    go_wp2_with fail
    have KL := hid (fun X : Bw w7 => (len_any (HS.out.kept X.2).set.at).mono (fun e w' h => (show e = .returned (.int .i64 L.length) ∧ Below X.1.heap.size X.1 w' from ⟨by rw [h.1, HLS.out], h.2 ▸ Below.refl _ _⟩)))
    have KH := hid (fun X : Bw w7 => has_any x.1 x.2 (HS.out.kept X.2).set.at)
    have KC := hid (fun X : Bw w7 => counts_any l a cap x (by omega) X.1 (HR.out.kept ((HS.out.kept X.2).below)))
    obtain ⟨c, hc⟩ : ∃ c, c = cnt x l := ⟨_, rfl⟩
    obtain ⟨β, hβ⟩ : ∃ β, β = decide (x.1 ∈ S) := ⟨_, rfl⟩
    have hcb : decide (0 < (c : Int)) = β := by
      rw [hβ, hc, decide_eq_decide, HSM.out, ← cnt_pos]; omega
    have hcb2 : decide (0 < c) = β := by
      rw [hβ, hc, decide_eq_decide, HSM.out, ← cnt_pos]
    rw [← hβ] at KH
    rw [← hc] at KC
    clear hc hβ
    refine wp_region_bw (by kernel_rfl) (by kernel_rfl) ?_
    iterate 1 (first | go_big_quiet_step (fail) | (go_big_quiet_want; go_simp; go_big_quiet_on))
    (go_big_quiet_want; go_big_quiet_op; go_big_quiet_call ((go_at_call 31; exact Calls.bw (KL.out _))))
    iterate 5 (first | go_big_quiet_step (fail) | (go_big_quiet_want; go_simp; go_big_quiet_on))
    (go_big_quiet_want; refine quiet_load_row 23 _ rfl _ rfl _ _ _ _ (HS.out.idc) Try.underlying23 rfl (idE_info x) ?_; simp only [Act.put, List.setIfInBounds_toArray, List.set_cons_zero, List.set_cons_succ]; go_big_quiet_on)
    (go_big_quiet_want; go_big_quiet_op; go_big_quiet_call ((go_at_call 32; exact Calls.bw (KH.out _))))
    iterate 1 (first | go_big_quiet_step (fail) | (go_big_quiet_want; go_simp; go_big_quiet_on))
    (go_big_quiet_want; refine quiet_load_row 23 _ rfl _ rfl _ _ _ _ (HS.out.idc) Try.underlying23 rfl (idE_info x) ?_; simp only [Act.put, List.setIfInBounds_toArray, List.set_cons_zero, List.set_cons_succ]; go_big_quiet_on)
    (go_big_quiet_want; go_big_quiet_op; go_big_quiet_call ((go_at_call 33; exact Calls.bw (KC.out _))))
    iterate 3 (first | go_big_quiet_step (fail) | (go_big_quiet_want; go_simp; go_big_quiet_on))
    refine wpQuiet_nil ?_; rintro w' ⟨X, rfl⟩
    have HS8 := hid (HS.out.kept X.2)
    clear KL KH KC HS hcb hcb2
    go_wp2_with fail
    go_loopw [8] (fun i wr => ∃ k : Nat, k ≤ L.length ∧ i = .int .i64 k ∧ Hid (SAt w wr x p b bx va L S)) (fun i _ => L.length - (intOf i).toNat)
    case atStart => exact ⟨0, by omega, rfl, HS8⟩
    case round =>
      obtain ⟨k, hk, rfl, HS⟩ := hrel
      by_cases hlt : k < L.length
      · have hki : (k : Int) < (L.length : Int) := by omega
        obtain ⟨y, hy⟩ : ∃ y, L[k]? = some y := ⟨L[k], by simp [hlt]⟩
        have HYL := hid (HLM.out y |>.1 (List.mem_of_getElem? hy))
        obtain ⟨gg, o, rfl, hgg, hcc⟩ := HS.out.all.get hy
        have HC : Hid (CellsAt wr gg (o + k * 8) (idE y)) := hid (by rw [Nat.mul_comm]; exact hcc)
        have HG := hid hgg
        have KH := hid (fun X : Bw wr => has_any y.1 y.2 (HS.out.kept X.2).set.at)
        have KC := hid (fun X : Bw wr => counts_any l a cap y (by omega) X.1 (HR.out.kept ((HS.out.kept X.2).below)))
        rw [show decide (y.1 ∈ S) = true from decide_eq_true ((HSM.out y).2 HYL.out)] at KH
        obtain ⟨c, hc⟩ : ∃ c, c = cnt y l := ⟨_, rfl⟩
        have hc0 : 0 < c := by rw [hc]; exact cnt_pos.2 HYL.out
        rw [← hc] at KC
        have hc1 : ¬ c = 0 := by omega
        have hc2 : ¬ (c : Int) = 0 := by omega
        clear hc hcc hgg
        have hne : ((c : Int) == 0) = false := by simp; omega
        have hne2 : (c == 0) = false := by simp; omega
        by_cases hk0 : k = 0
        · subst hk0
          go_wp2_with fail
          refine wp_region_bw (by kernel_rfl) (by kernel_rfl) ?_
          iterate 4 (first | go_big_quiet_step (fail) | (go_big_quiet_want; go_simp; go_big_quiet_on))
          (go_big_quiet_want; refine quiet_load_cells 23 _ rfl _ _ rfl _ _ (HC.out) (HG.out) Try.underlying23 rfl (idE_info y) ?_; simp only [Act.put, List.setIfInBounds_toArray, List.set_cons_zero, List.set_cons_succ]; go_big_quiet_on)
          (go_big_quiet_want; go_big_quiet_op; go_big_quiet_call ((go_at_call 33; exact Calls.bw (KC.out _))))
          iterate 6 (first | go_big_quiet_step (fail) | (go_big_quiet_want; go_simp; go_big_quiet_on))
          (go_big_quiet_want; refine quiet_load_cells 23 _ rfl _ _ rfl _ _ (HC.out) (HG.out) Try.underlying23 rfl (idE_info y) ?_; simp only [Act.put, List.setIfInBounds_toArray, List.set_cons_zero, List.set_cons_succ]; go_big_quiet_on)
          (go_big_quiet_want; go_big_quiet_op; go_big_quiet_call ((go_at_call 32; exact Calls.bw (KH.out _))))
          iterate 5 (first | go_big_quiet_step (fail) | (go_big_quiet_want; go_simp; go_big_quiet_on))
          iterate 14 (first | go_big_quiet_step (fail) | (go_big_quiet_want; go_simp; go_big_quiet_on))
          refine wpQuiet_nil ?_; rintro w' ⟨X, rfl⟩
          have HS9 := hid (HS.out.kept X.2)
          clear hne hne2 hc1 hc2 hc0
          go_wp2
          refine ⟨⟨1, by omega, by go_num, HS9⟩, ?_⟩
          simp [intOf]; omega
  
        · obtain ⟨j, rfl⟩ : ∃ j, k = j + 1 := ⟨k - 1, by omega⟩
          obtain ⟨z, hz⟩ : ∃ z, L[j]? = some z := ⟨L[j], by simp [show j < L.length by omega]⟩
          have hzy : num z.1 < num y.1 := by
            obtain ⟨h1, rfl⟩ := List.getElem?_eq_some_iff.1 hz
            obtain ⟨h2, rfl⟩ := List.getElem?_eq_some_iff.1 hy
            exact List.pairwise_iff_getElem.1 HLT.out j (j + 1) h1 h2 (by omega)
          have KM := hid (fun X : Bw wr => cmp_any z.1 y.1 z.2 y.2 X.1)
          rw [show cmpN (num z.1) (num y.1) = -1 by unfold cmpN; rw [if_pos hzy]] at KM
          have HZ : Hid (CellsAt wr gg (o + j * 8) (idE z)) := hid (by
            obtain ⟨g2, o2, e2, _, hcz⟩ := HS.out.all.get hz
            cases e2
            rw [Nat.mul_comm]; exact hcz)
          have hjw : IntKind.i64.wrap ((j : Int) + 1 - 1) = (j : Int) := IntWalk.i64_in _ (by omega) |>.trans (by omega)
          have hj2 : (j : Int) < (L.length : Int) := by omega
          have hj3 : j < L.length := by omega
          clear hzy hz
          have HSX := hid (HS.out)
          go_wp2_with fail
          refine wp_region_bw (by kernel_rfl) (by kernel_rfl) ?_
          iterate 4 (first | go_big_quiet_step (fail) | (go_big_quiet_want; go_simp; go_big_quiet_on))
          (go_big_quiet_want; refine quiet_load_cells 23 _ rfl _ _ rfl _ _ (HC.out) (HG.out) Try.underlying23 rfl (idE_info y) ?_; simp only [Act.put, List.setIfInBounds_toArray, List.set_cons_zero, List.set_cons_succ]; go_big_quiet_on)
          (go_big_quiet_want; go_big_quiet_op; go_big_quiet_call ((go_at_call 33; exact Calls.bw (KC.out _))))
          iterate 6 (first | go_big_quiet_step (fail) | (go_big_quiet_want; go_simp; go_big_quiet_on))
          (go_big_quiet_want; refine quiet_load_cells 23 _ rfl _ _ rfl _ _ (HC.out) (HG.out) Try.underlying23 rfl (idE_info y) ?_; simp only [Act.put, List.setIfInBounds_toArray, List.set_cons_zero, List.set_cons_succ]; go_big_quiet_on)
          (go_big_quiet_want; go_big_quiet_op; go_big_quiet_call ((go_at_call 32; exact Calls.bw (KH.out _))))
          iterate 10 (first | go_big_quiet_step (fail) | (go_big_quiet_want; go_simp; go_big_quiet_on))
          (go_big_quiet_want; refine quiet_load_cells 23 _ rfl _ _ rfl _ _ (HZ.out) (HG.out) Try.underlying23 rfl (idE_info z) ?_; simp only [Act.put, List.setIfInBounds_toArray, List.set_cons_zero, List.set_cons_succ]; go_big_quiet_on)
          iterate 3 (first | go_big_quiet_step (fail) | (go_big_quiet_want; go_simp; go_big_quiet_on))
          (go_big_quiet_want; refine quiet_load_cells 23 _ rfl _ _ rfl _ _ (HC.out) (HG.out) Try.underlying23 rfl (idE_info y) ?_; simp only [Act.put, List.setIfInBounds_toArray, List.set_cons_zero, List.set_cons_succ]; go_big_quiet_on)
          (go_big_quiet_want; go_big_quiet_op; go_big_quiet_call ((go_at_call 16; exact Calls.bw (KM.out _))))
          iterate 3 (first | go_big_quiet_step (fail) | (go_big_quiet_want; go_simp; go_big_quiet_on))
          refine wpQuiet_nil ?_; rintro w' ⟨X, rfl⟩
          have HS9 := hid (HS.out.kept X.2)
          clear hne hne2 hc1 hc2 hc0 hjw
          go_wp2
          refine ⟨⟨j + 1 + 1, by omega, by go_num, HS9⟩, ?_⟩
          simp [intOf]; omega
      · have hki : ¬ ((k : Int) < (L.length : Int)) := by omega
        clear HS8
        go_wp2_with fail
        clear hlt hk hki
        go_loopw [9] (fun i wr => ∃ k : Nat, k ≤ l.length ∧ i = .int .i64 k ∧ Hid (SAt w wr x p b bx va L S)) (fun i _ => l.length - (intOf i).toNat)
        case atStart => exact ⟨0, by omega, rfl, HS⟩
        case round =>
          clear HS
          obtain ⟨k, hk, rfl, HS⟩ := hrel
          by_cases hlt : k < l.length
          · have hki : (k : Int) < (l.length : Int) := by omega
            obtain ⟨y, hy⟩ : ∃ y, l[k]? = some y := ⟨l[k], by simp [hlt]⟩
            have HYL := hid (HLM.out y |>.2 (List.mem_of_getElem? hy))
            obtain ⟨gg, o, rfl, hgg, hcc⟩ := (HR.out.kept HS.out.below).get hy
            have HC : Hid (CellsAt wr gg (o + k * 8) (idE y)) := hid (by rw [Nat.mul_comm]; exact hcc)
            have KC := hid (counts_any L va cp y (by omega) wr HS.out.all)
            rw [cnt_one HLN.out HYL.out] at KC
            clear hcc hgg hy
            go_wp2_with (first | (refine wpList_load_cells rfl 23 _ rfl _ _ rfl _ _ HC.out Try.underlying23 rfl (idE_info y) ?_) | (go_at_call 33; refine KC.out.mono ?_; rintro e w2 ⟨rfl, hb2⟩; have HS9 := hid (HS.out.kept hb2); clear hb2))
            refine ⟨⟨k + 1, by omega, by go_num, HS9⟩, ?_⟩
            simp [intOf]; omega
          · have hki : ¬ ((k : Int) < (l.length : Int)) := by omega
            go_wp2_with fail
            clear hlt hk hki
            have HS0 : Hid (SAt w wr x p b bx va L (dropTo S L 0)) := hid (by unfold dropTo; exact HS.out)
            clear HS
            go_loopw [10] (fun i wr => ∃ k : Nat, k ≤ L.length ∧ i = .int .i64 k ∧ Hid (SAt w wr x p b bx va L (dropTo S L k))) (fun i _ => L.length - (intOf i).toNat)
            case atStart => exact ⟨0, by omega, rfl, HS0⟩
            case round =>
              clear HS0
              obtain ⟨k, hk, rfl, HS⟩ := hrel
              by_cases hlt : k < L.length
              · have hki : (k : Int) < (L.length : Int) := by omega
                obtain ⟨y, hy⟩ : ∃ y, L[k]? = some y := ⟨L[k], by simp [hlt]⟩
                obtain ⟨gg, o, rfl, hgg, hcc⟩ := HS.out.all.get hy
                have HCf := hid (fun (w2 : World) (h : SAt w w2 x p b bx (some ⟨gg, o, none⟩) L (dropTo S L (k + 1))) => show CellsAt w2 gg (o + k * 8) (idE y) by
                  obtain ⟨g2, o2, e2, _, hcz⟩ := h.all.get hy
                  cases e2
                  rw [Nat.mul_comm]; exact hcz)
                have HC : Hid (CellsAt wr gg (o + k * 8) (idE y)) := hid (by rw [Nat.mul_comm]; exact hcc)
                have HYM : Hid (y.1 ∈ dropTo S L k ∧ y.1 ∉ dropTo S L (k + 1)) := hid (by rw [HLL.out] at hy ⊢; exact dropTo_mem HSB.out HSN.out hy)
                have HDS := hid (dropTo_succ S hy)
                have HDL : Hid ((dropTo S L (k + 1)).length = L.length - (k + 1)) := hid (by have h1 := HLS.out; rw [HLL.out, dropTo_len HSB.out HSN.out (by omega), idsOf_len])
                have K1 := hid (drop_set y.1 y.2 HS.out.set)
                rw [show decide (y.1 ∈ dropTo S L k) = true from decide_eq_true HYM.out.1, ← HDS.out] at K1
                have K2 := hid (fun (w2 : World) (h : SAt w w2 x p b bx (some ⟨gg, o, none⟩) L (dropTo S L (k + 1))) => drop_none y.1 y.2 h.set.at HYM.out.2)
                have K3 := hid (fun (w2 : World) (h : SAt w w2 x p b bx (some ⟨gg, o, none⟩) L (dropTo S L (k + 1))) => has_any y.1 y.2 h.set.at)
                rw [show decide (y.1 ∈ dropTo S L (k + 1)) = false from decide_eq_false HYM.out.2] at K3
                have K4 := hid (fun (w2 : World) (h : SAt w w2 x p b bx (some ⟨gg, o, none⟩) L (dropTo S L (k + 1))) => len_any h.set.at)
                rw [HDL.out] at K4
                have hsub : ((L.length - (k + 1) : Nat) : Int) = (L.length : Int) - (k : Int) - 1 := by omega
                rw [hsub] at K4
                have Ua := hid trivial
                have Ub := hid trivial
                clear hcc hgg hy hsub
                go_wp2_with (first | (refine wpList_load_cells rfl 23 _ rfl _ _ rfl _ _ HC.out Try.underlying23 rfl (idE_info y) ?_)
                                   | (go_at_call 34; clear Ua; refine K1.out.mono ?_; rintro e w2 ⟨rfl, hs2, hk2⟩; have HS2 := hid (HS.out.turn hk2 hs2); clear hs2 hk2 HC; have HC := hid (HCf.out w2 HS2.out))
                                   | (go_at_call 34; clear Ub; refine (K2.out w2 HS2.out).mono ?_; rintro e w3 ⟨rfl, hb3⟩; have HS3 := hid (HS2.out.kept hb3); clear hb3 HC; have HC := hid (HCf.out w3 HS3.out))
                                   | (go_at_call 32; refine (K3.out w3 HS3.out).mono ?_; rintro e w4 ⟨rfl, hb4⟩; have HS4 := hid (HS3.out.kept hb4); clear hb4)
                                   | (go_at_call 31; refine (K4.out w4 HS4.out).mono ?_; rintro e w5 ⟨rfl, rfl⟩))
                refine ⟨⟨k + 1, by omega, by go_num, HS4⟩, ?_⟩
                simp [intOf]; omega
              · have hki : ¬ ((k : Int) < (L.length : Int)) := by omega
                have HS0 : Hid (SAt w wr x p b bx va L []) := hid (by
                  have h1 := HS.out
                  have h2 : (dropTo S L k).length = 0 := by have h1 := HLS.out; rw [HLL.out, dropTo_len HSB.out HSN.out (by omega)]; omega
                  rwa [List.eq_nil_of_length_eq_zero h2] at h1)
                clear HS
                have G1 := hid (gather_any (L := []) ⟨_, HS0.out.box, .inr ⟨p, rfl, .inr ⟨b, [], HS0.out.set, by simp [sortB]⟩⟩⟩ (by simp) 2 (by omega))
                have Ua := hid trivial
                have Ub := hid trivial
                have A1 := hid (fun (w2 : World) (h : SAt w w2 x p b bx va L []) => add_set x.1 x.2 h.set)
                have A2 := hid (fun (w2 : World) (h : SAt w w2 x p b bx va L [x.1]) => add_set x.1 x.2 h.set)
                have e1 : ins [] x.1 = [x.1] := by unfold ins; simp
                have e2 : ins [x.1] x.1 = [x.1] := by unfold ins; simp
                have e3 : decide (x.1 ∉ ([] : List (List Int))) = true := by simp
                have e4 : decide (x.1 ∉ [x.1]) = false := by simp
                rw [e1, e3] at A1
                rw [e2, e4] at A2
                have G2 := hid (fun (w2 : World) (h : SAt w w2 x p b bx va L [x.1]) => gather_any (L := [x]) ⟨_, h.box, .inr ⟨p, rfl, .inr ⟨b, [x.1], h.set, by simp [sortB]⟩⟩⟩ (by simp) 2 (by omega))
                clear e1 e2 e3 e4
                go_wp2_with (first | (refine wpList_load_w rfl 23 _ rfl _ rfl _ _ _ _ HS1.out.idc Try.underlying23 rfl (idE_info x) ?_)
                                   | (refine wpList_load_w rfl 23 _ rfl _ rfl _ _ _ _ HS2.out.idc Try.underlying23 rfl (idE_info x) ?_)
                                   | (go_at_call 30; clear Ua; refine G1.out.mono ?_; rintro e w2 ⟨v2, rfl, _, hv2, hb2⟩; obtain rfl := hv2 (by simp); have HS1 := hid (HS0.out.kept hb2); clear hb2 hv2)
                                   | (go_at_call 35; clear Ub; refine (A1.out w2 HS1.out).mono ?_; rintro e w3 ⟨rfl, hs3, hk3⟩; have HS2 := hid (HS1.out.turn hk3 hs3); clear hs3 hk3 HS1)
                                   | (go_at_call 35; refine (A2.out w3 HS2.out).mono ?_; rintro e w4 ⟨rfl, hs4, hk4⟩; have HS3 := hid (HS2.out.turn hk4 hs4); clear hs4 hk4)
                                   | (go_at_call 30; refine (G2.out w4 HS3.out).mono ?_; rintro e w5 ⟨v5, rfl, ho5, _, hb5⟩; obtain ⟨a5, c5, rfl⟩ := ownsRow_shape ho5; have HB5 := hid (HS3.out.below.trans (hb5.mono HS3.out.below.size)); clear ho5 hb5))
                go_ret
                exact ⟨rfl, HB5.out⟩
end Go.Proofs.Ytaiepkombpjjgaa
