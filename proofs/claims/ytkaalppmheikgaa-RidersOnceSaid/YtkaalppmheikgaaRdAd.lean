/- Riders: Admit. -/
import Derived.Test.YtkaalppmheikgaaRdPu
import Derived.Test.YtkaalppmheikgaaRdFt
namespace Go.Proofs.Ytkaalppmheikgaa
open Go.RowKit

theorem build_wt (x : Rq) (a b : Int) (w : World) : (Instr.build 48 #[(0, .agg (rqE x)), (1, .int .i64 a), (2, .int .i64 b)]).run Try.prog w = .ok (.agg (wtE ⟨x, a, b⟩)) w := by
  obtain ⟨c1, c2, c3, c4, c5, c6, c7, c8, hx⟩ := id8_list x.id
  unfold wtE rqE
  simp only [hx]
  kernel_rfl
/-- While Admit walks. -/
structure AdS (w u : World) (p : Nat) (B : RB) (R : RS) (H : List (Id8 × Int)) (l : List It) (came : Int) (x : Rq) : Prop where
  rd : RdAt u p B R H l came
  box : u.heap[w.heap.size]? = some (.cells (rqE x) 37 (0, 0))
  below : Below w.heap.size w u
section
variable {w u u' : World} {p : Nat} {B : RB} {R : RS} {H : List (Id8 × Int)} {l : List It} {came : Int} {x : Rq}
theorem AdS.start (h : RdAt w p B R H l came) (x : Rq) : AdS w (w.alloc (.cells (rqE x) 37)) p B R H l came x := ⟨h.kept ((Below.refl _ w).alloc (Nat.le_refl _) _), heap_alloc_new _ _, (Below.refl _ w).alloc (Nat.le_refl _) _⟩
theorem AdS.call (h : AdS w u p B R H l came x) (hb : Below u.heap.size u u') : AdS w u' p B R H l came x := ⟨h.rd.kept hb, (hb.block _ (heap_lt h.box)).trans h.box, h.below.trans (hb.mono h.below.size)⟩
theorem AdS.drew (h : AdS w u p B R H l came x) : AdS w u.drew p B R H l came x := h.call (Below.refl _ _).drew
theorem AdS.id (h : AdS w u p B R H l came x) : CellsAt u w.heap.size 0 (bys x.id.1) := rq_id (box_cells h.box)
end
/-- Behind what may be refused: the riders as they lie, some of it written. -/
structure AdT (w u : World) (p : Nat) (B B2 : RB) (R : RS) (H : List (Id8 × Int)) (l : List It) (came : Int) (x : Rq) : Prop where
  rd : RdM u p B2 R H l came
  box : u.heap[w.heap.size]? = some (.cells (rqE x) 37 (0, 0))
  kp : Kp (ROwn p B) w u
  lt : ∀ k, ROwn p B k → k < w.heap.size
section
variable {w u u' : World} {p : Nat} {B B2 B3 : RB} {R R2 : RS} {H H2 : List (Id8 × Int)} {l l2 : List It} {came came2 : Int} {x : Rq}
theorem AdS.done (h : AdS w u p B R H l came x) (h0 : RdAt w p B R H l came) : AdT w u p B B R H l came x := ⟨h.rd.toRdM, h.box, (Kp.refl _ w).below h.below, fun _ q => h0.lt q⟩
theorem AdT.step (h : AdT w u p B B2 R H l came x) (hr : RdM u' p B3 R2 H2 l2 came2) (hk : Kp (ROwn p B) u u') : AdT w u' p B B3 R2 H2 l2 came2 x :=
  ⟨hr, (hk.block _ (heap_lt h.box) (fun q => by have := h.lt _ q; omega)).trans h.box, h.kp.trans hk (fun _ _ q => q), h.lt⟩
theorem AdT.drew (h : AdT w u p B B2 R H l came x) : AdT w u.drew p B B2 R H l came x := ⟨h.rd.kept (Below.refl _ _).drew, h.box, h.kp.drew, h.lt⟩
theorem AdT.id (h : AdT w u p B B2 R H l came x) : CellsAt u w.heap.size 0 (bys x.id.1) := rq_id (box_cells h.box)
end
section
variable {w : World} {p : Nat} {B : RB} {R : RS} {H : List (Id8 × Int)} {l : List It} {came : Int}
set_option maxRecDepth 100000 in
set_option maxHeartbeats 16000000 in
theorem admit_any (h : RdAt w p B R H l came) (hcf : cfOk R.cf = true) (hro : (R.T.length : Int) ≤ R.cf.q) (hkn : ∀ q ∈ R.T, q.1 ∈ R.S) (hnx : R.next = R.S.length) (now : Int) (x : Rq) (hS : R.S.length ≤ 1152921504606846976) :
    Calls Try.prog 14 #[.pointer (some ⟨p, 0, none⟩), .int .i64 now, .agg (rqE x)] w fun e w' => e = .returned (.int .i64 (admE R now x)) ∧ RdPost w w' p B (admR R now x) := by
  have HS0 := hid (AdS.start h x)
  have HR := hid h
  have HKI := hid (idV_info x.id)
  have HRI := hid (rqE_info x)
  have HCI := hid (cfE_info R.cf)
  have HCF := hid hcf
  have HTI := hid (fun u => tick_any now u)
  rw [show (decide (0 ≤ now) && decide (now ≤ 1099511627776)) = tickOk now from rfl] at HTI
  have HKN := hid hkn
  have HNX := hid hnx
  have hq64 : R.cf.q ≤ 64 := by
    unfold cfOk at hcf
    simp only [Bool.and_eq_true] at hcf
    exact (amg_iff.1 hcf.1.1.1.1).2
  clear h hcf hkn hnx
  by_cases ht : tickOk now = false
  · have HE : Hid (admE R now x = 1) := hid (by unfold admE; rw [if_pos ht])
    have HD : Hid (admR R now x = R) := hid (by unfold admR; rw [if_neg (by rw [HE.out]; decide)])
    rw [ht] at HTI
    clear ht
    go_enter Try.func14, Try.ntmps14
    go_wp2_with (first | (go_at_call 25; (with_reducible refine (there_any HS0.out.rd).mono ?_); rintro e w2 ⟨rfl, hw2⟩; rw [hw2]; clear hw2) | (go_at_call 30; (with_reducible refine (HTI.out _).mono ?_); rintro e w3 ⟨rfl, hb3⟩; have HS1 := hid (HS0.out.call hb3); have hc5 := HS1.out.rd.c5; clear hb3))
    go_ret
    exact ⟨by rw [HE.out]; rfl, by rw [HD.out]; exact HR.out.none HS1.out.below⟩
  have HT : Hid (tickOk now = true) := hid (by simpa using ht)
  by_cases hlt : now < R.now
  · have HE : Hid (admE R now x = 4) := hid (by unfold admE; rw [if_neg ht, if_pos hlt])
    have HD : Hid (admR R now x = R) := hid (by unfold admR; rw [if_neg (by rw [HE.out]; decide)])
    rw [HT.out] at HTI
    clear ht HT
    go_enter Try.func14, Try.ntmps14
    go_wp2_with (first | (go_at_call 25; (with_reducible refine (there_any HS0.out.rd).mono ?_); rintro e w2 ⟨rfl, hw2⟩; rw [hw2]; clear hw2) | (go_at_call 30; (with_reducible refine (HTI.out _).mono ?_); rintro e w3 ⟨rfl, hb3⟩; have HS1 := hid (HS0.out.call hb3); have hc5 := HS1.out.rd.c5; clear hb3))
    go_ret
    exact ⟨by rw [HE.out]; rfl, by rw [HD.out]; exact HR.out.none HS1.out.below⟩
  by_cases hin : x.id ∈ R.S
  · have HE : Hid (admE R now x = 130) := hid (by unfold admE; rw [if_neg ht, if_neg hlt, if_pos hin])
    have HD : Hid (admR R now x = R) := hid (by unfold admR; rw [if_neg (by rw [HE.out]; decide)])
    have HIN : Hid (decide (x.id ∈ R.S) = true) := hid (decide_eq_true hin)
    rw [HT.out] at HTI
    clear ht HT hin
    go_enter Try.func14, Try.ntmps14
    go_wp2_with (first | (go_at_call 25; (with_reducible refine (there_any HS0.out.rd).mono ?_); rintro e w2 ⟨rfl, hw2⟩; rw [hw2]; clear hw2) | (go_at_call 30; (with_reducible refine (HTI.out _).mono ?_); rintro e w3 ⟨rfl, hb3⟩; have HS1 := hid (HS0.out.call hb3); have hc5 := HS1.out.rd.c5; clear hb3))
    obtain ⟨W1, hW1⟩ : ∃ W', W' = w3.drew := ⟨_, rfl⟩
    have HS2 := hid (show AdS w W1 p B R H l came x by rw [hW1]; exact HS1.out.drew)
    have HW1 := hid hW1
    clear hW1 HS1
    have hc7 := HS2.out.rd.c7
    refine wp_region_tail 6 (by kernel_rfl) (by kernel_rfl) W1 HW1.out ?_
    simp only [List.take_succ_cons, List.take_zero, List.drop_succ_cons, List.drop_zero]
    iterate 5 still_step
    refine still_exec rfl (exec_load_cells 31 _ rfl _ _ rfl HS2.out.id Try.underlying31 rfl HKI.out) ?_
    simp only [Act.put, List.setIfInBounds_toArray, List.set_cons_zero, List.set_cons_succ]
    refine wpStill_nil ?_
    have HHA := hid (HS2.out.rd.has x.id)
    rw [HIN.out] at HHA
    clear hc7 hc5
    go_wp2_with (go_at_call 29; (with_reducible refine HHA.out.mono ?_); rintro e w4 ⟨rfl, hb4⟩; have HS3 := hid (HS2.out.call hb4); clear hb4)
    go_ret
    exact ⟨by rw [HE.out]; rfl, by rw [HD.out]; exact HR.out.none HS3.out.below⟩
  have HIN : Hid (decide (x.id ∈ R.S) = false) := hid (decide_eq_false hin)
  by_cases hok : reqOk R.cf x = false
  · have HE : Hid (admE R now x = 1) := hid (by unfold admE; rw [if_neg ht, if_neg hlt, if_neg hin, if_pos hok])
    have HD : Hid (admR R now x = R) := hid (by unfold admR; rw [if_neg (by rw [HE.out]; decide)])
    have HOK := hid hok
    rw [HT.out] at HTI
    clear ht HT hin hok
    go_enter Try.func14, Try.ntmps14
    go_wp2_with (first | (go_at_call 25; (with_reducible refine (there_any HS0.out.rd).mono ?_); rintro e w2 ⟨rfl, hw2⟩; rw [hw2]; clear hw2) | (go_at_call 30; (with_reducible refine (HTI.out _).mono ?_); rintro e w3 ⟨rfl, hb3⟩; have HS1 := hid (HS0.out.call hb3); have hc5 := HS1.out.rd.c5; clear hb3))
    obtain ⟨W1, hW1⟩ : ∃ W', W' = w3.drew := ⟨_, rfl⟩
    have HS2 := hid (show AdS w W1 p B R H l came x by rw [hW1]; exact HS1.out.drew)
    have HW1 := hid hW1
    clear hW1 HS1
    have hc7 := HS2.out.rd.c7
    refine wp_region_tail 6 (by kernel_rfl) (by kernel_rfl) W1 HW1.out ?_
    simp only [List.take_succ_cons, List.take_zero, List.drop_succ_cons, List.drop_zero]
    iterate 5 still_step
    refine still_exec rfl (exec_load_cells 31 _ rfl _ _ rfl HS2.out.id Try.underlying31 rfl HKI.out) ?_
    simp only [Act.put, List.setIfInBounds_toArray, List.set_cons_zero, List.set_cons_succ]
    refine wpStill_nil ?_
    have HHA := hid (HS2.out.rd.has x.id)
    rw [HIN.out] at HHA
    clear hc7 hc5
    go_wp2_with (go_at_call 29; (with_reducible refine HHA.out.mono ?_); rintro e w4 ⟨rfl, hb4⟩; have HS3 := hid (HS2.out.call hb4); clear hb4)
    obtain ⟨W2, hW2⟩ : ∃ W', W' = w4.drew := ⟨_, rfl⟩
    have HS4 := hid (show AdS w W2 p B R H l came x by rw [hW2]; exact HS3.out.drew)
    have HW2 := hid hW2
    clear hW2 HS3
    refine wp_region_tail 5 (by kernel_rfl) (by kernel_rfl) W2 HW2.out ?_
    simp only [List.take_succ_cons, List.take_zero, List.drop_succ_cons, List.drop_zero]
    iterate 3 still_step
    refine still_exec rfl (exec_load_cells 23 _ rfl _ _ rfl HS4.out.rd.cfg Try.underlying23 rfl HCI.out) ?_
    simp only [Act.put, List.setIfInBounds_toArray, List.set_cons_zero, List.set_cons_succ]
    refine still_exec rfl (exec_load 37 _ rfl _ rfl HS4.out.box Try.underlying37 rfl HRI.out) ?_
    simp only [Act.put, List.setIfInBounds_toArray, List.set_cons_zero, List.set_cons_succ]
    refine wpStill_nil ?_
    have HCK := hid (check_any R.cf x HCF.out W2)
    rw [HOK.out] at HCK
    clear HS2 HHA
    go_wp2_with (go_at_call 31; (with_reducible refine HCK.out.mono ?_); rintro e w5 ⟨rfl, hb5⟩; have HS5 := hid (HS4.out.call hb5); clear hb5)
    go_ret
    exact ⟨by rw [HE.out]; rfl, by rw [HD.out]; exact HR.out.none HS5.out.below⟩
  have HOK : Hid (reqOk R.cf x = true) := hid (by simpa using hok)
  by_cases hfu : (R.T.length : Int) = R.cf.q
  · have HE : Hid (admE R now x = 132) := hid (by unfold admE; rw [if_neg ht, if_neg hlt, if_neg hin, if_neg hok, if_pos hfu])
    have HD : Hid (admR R now x = R) := hid (by unfold admR; rw [if_neg (by rw [HE.out]; decide)])
    have hfb : ((R.T.length : Int) == R.cf.q) = true := by rw [hfu]; simp
    rw [HT.out] at HTI
    clear ht HT hin hok hfu
    go_enter Try.func14, Try.ntmps14
    go_wp2_with (first | (go_at_call 25; (with_reducible refine (there_any HS0.out.rd).mono ?_); rintro e w2 ⟨rfl, hw2⟩; rw [hw2]; clear hw2) | (go_at_call 30; (with_reducible refine (HTI.out _).mono ?_); rintro e w3 ⟨rfl, hb3⟩; have HS1 := hid (HS0.out.call hb3); have hc5 := HS1.out.rd.c5; clear hb3))
    obtain ⟨W1, hW1⟩ : ∃ W', W' = w3.drew := ⟨_, rfl⟩
    have HS2 := hid (show AdS w W1 p B R H l came x by rw [hW1]; exact HS1.out.drew)
    have HW1 := hid hW1
    clear hW1 HS1
    have hc7 := HS2.out.rd.c7
    refine wp_region_tail 6 (by kernel_rfl) (by kernel_rfl) W1 HW1.out ?_
    simp only [List.take_succ_cons, List.take_zero, List.drop_succ_cons, List.drop_zero]
    iterate 5 still_step
    refine still_exec rfl (exec_load_cells 31 _ rfl _ _ rfl HS2.out.id Try.underlying31 rfl HKI.out) ?_
    simp only [Act.put, List.setIfInBounds_toArray, List.set_cons_zero, List.set_cons_succ]
    refine wpStill_nil ?_
    have HHA := hid (HS2.out.rd.has x.id)
    rw [HIN.out] at HHA
    clear hc7 hc5
    go_wp2_with (go_at_call 29; (with_reducible refine HHA.out.mono ?_); rintro e w4 ⟨rfl, hb4⟩; have HS3 := hid (HS2.out.call hb4); clear hb4)
    obtain ⟨W2, hW2⟩ : ∃ W', W' = w4.drew := ⟨_, rfl⟩
    have HS4 := hid (show AdS w W2 p B R H l came x by rw [hW2]; exact HS3.out.drew)
    have HW2 := hid hW2
    clear hW2 HS3
    refine wp_region_tail 5 (by kernel_rfl) (by kernel_rfl) W2 HW2.out ?_
    simp only [List.take_succ_cons, List.take_zero, List.drop_succ_cons, List.drop_zero]
    iterate 3 still_step
    refine still_exec rfl (exec_load_cells 23 _ rfl _ _ rfl HS4.out.rd.cfg Try.underlying23 rfl HCI.out) ?_
    simp only [Act.put, List.setIfInBounds_toArray, List.set_cons_zero, List.set_cons_succ]
    refine still_exec rfl (exec_load 37 _ rfl _ rfl HS4.out.box Try.underlying37 rfl HRI.out) ?_
    simp only [Act.put, List.setIfInBounds_toArray, List.set_cons_zero, List.set_cons_succ]
    refine wpStill_nil ?_
    have HCK := hid (check_any R.cf x HCF.out W2)
    rw [HOK.out] at HCK
    clear HS2 HHA
    go_wp2_with (go_at_call 31; (with_reducible refine HCK.out.mono ?_); rintro e w5 ⟨rfl, hb5⟩; have HS5 := hid (HS4.out.call hb5); clear hb5)
    obtain ⟨W3, hW3⟩ : ∃ W', W' = w5.drew := ⟨_, rfl⟩
    have HS6 := hid (show AdS w W3 p B R H l came x by rw [hW3]; exact HS5.out.drew)
    have HW3 := hid hW3
    clear hW3 HS5
    have hc8 := HS6.out.rd.c8
    have hc0 := HS6.out.rd.c0
    have hlen := fun ty => MapIs.len Try.underlying66 HS6.out.rd.wm ty
    refine wp_region_tail 10 (by kernel_rfl) (by kernel_rfl) W3 HW3.out ?_
    simp only [List.take_succ_cons, List.take_zero, List.drop_succ_cons, List.drop_zero]
    iterate 10 still_step
    refine wpStill_nil ?_
    clear HS4 HCK
    go_wp2_with fail
    go_ret
    exact ⟨by rw [HE.out]; rfl, by rw [HD.out]; exact HR.out.none HS6.out.below⟩
  have HE : Hid (admE R now x = 0) := hid (by unfold admE; rw [if_neg ht, if_neg hlt, if_neg hin, if_neg hok, if_neg hfu])
  have HD : Hid (admR R now x = ⟨R.cf, now, R.next + 1, R.S ++ [x.id], (x.id, ⟨x, now, R.next⟩) :: R.T⟩) := hid (by unfold admR; rw [if_pos HE.out])
  have hfb : ((R.T.length : Int) == R.cf.q) = false := by simpa using hfu
  have hfu2 := hfu
  have HTK : Hid (0 ≤ now ∧ now ≤ 1099511627776) := hid (by have := HT.out; unfold tickOk at this; simpa using this)
  have HTL : Hid (1 ≤ x.ttl ∧ x.ttl ≤ 1048576) := hid (by
    have h4 := HOK.out
    unfold reqOk at h4
    simp only [Bool.and_eq_true] at h4
    have h6 := amg_iff.1 h4.2
    have h7 := HCF.out
    unfold cfOk at h7
    simp only [Bool.and_eq_true] at h7
    have h8 := amg_iff.1 h7.1.2
    omega)
  have HNI := hid hin
  have HNK : Hid (x.id ∉ Keys R.T) := hid (fun hk => by obtain ⟨q, hq, e⟩ := List.mem_map.1 hk; exact hin (by rw [← e]; exact HKN.out q hq))
  rw [HT.out] at HTI
  clear ht HT hin hok hfu
  go_enter Try.func14, Try.ntmps14
  go_wp2_with (first | (go_at_call 25; (with_reducible refine (there_any HS0.out.rd).mono ?_); rintro e w2 ⟨rfl, hw2⟩; rw [hw2]; clear hw2) | (go_at_call 30; (with_reducible refine (HTI.out _).mono ?_); rintro e w3 ⟨rfl, hb3⟩; have HS1 := hid (HS0.out.call hb3); have hc5 := HS1.out.rd.c5; clear hb3))
  obtain ⟨W1, hW1⟩ : ∃ W', W' = w3.drew := ⟨_, rfl⟩
  have HS2 := hid (show AdS w W1 p B R H l came x by rw [hW1]; exact HS1.out.drew)
  have HW1 := hid hW1
  clear hW1 HS1
  have hc7 := HS2.out.rd.c7
  refine wp_region_tail 6 (by kernel_rfl) (by kernel_rfl) W1 HW1.out ?_
  simp only [List.take_succ_cons, List.take_zero, List.drop_succ_cons, List.drop_zero]
  iterate 5 still_step
  refine still_exec rfl (exec_load_cells 31 _ rfl _ _ rfl HS2.out.id Try.underlying31 rfl HKI.out) ?_
  simp only [Act.put, List.setIfInBounds_toArray, List.set_cons_zero, List.set_cons_succ]
  refine wpStill_nil ?_
  have HHA := hid (HS2.out.rd.has x.id)
  rw [HIN.out] at HHA
  clear hc7 hc5
  go_wp2_with (go_at_call 29; (with_reducible refine HHA.out.mono ?_); rintro e w4 ⟨rfl, hb4⟩; have HS3 := hid (HS2.out.call hb4); clear hb4)
  obtain ⟨W2, hW2⟩ : ∃ W', W' = w4.drew := ⟨_, rfl⟩
  have HS4 := hid (show AdS w W2 p B R H l came x by rw [hW2]; exact HS3.out.drew)
  have HW2 := hid hW2
  clear hW2 HS3
  refine wp_region_tail 5 (by kernel_rfl) (by kernel_rfl) W2 HW2.out ?_
  simp only [List.take_succ_cons, List.take_zero, List.drop_succ_cons, List.drop_zero]
  iterate 3 still_step
  refine still_exec rfl (exec_load_cells 23 _ rfl _ _ rfl HS4.out.rd.cfg Try.underlying23 rfl HCI.out) ?_
  simp only [Act.put, List.setIfInBounds_toArray, List.set_cons_zero, List.set_cons_succ]
  refine still_exec rfl (exec_load 37 _ rfl _ rfl HS4.out.box Try.underlying37 rfl HRI.out) ?_
  simp only [Act.put, List.setIfInBounds_toArray, List.set_cons_zero, List.set_cons_succ]
  refine wpStill_nil ?_
  have HCK := hid (check_any R.cf x HCF.out W2)
  rw [HOK.out] at HCK
  clear HS2 HHA
  go_wp2_with (go_at_call 31; (with_reducible refine HCK.out.mono ?_); rintro e w5 ⟨rfl, hb5⟩; have HS5 := hid (HS4.out.call hb5); clear hb5)
  obtain ⟨W3, hW3⟩ : ∃ W', W' = w5.drew := ⟨_, rfl⟩
  have HS6 := hid (show AdS w W3 p B R H l came x by rw [hW3]; exact HS5.out.drew)
  have HW3 := hid hW3
  clear hW3 HS5
  have hc8 := HS6.out.rd.c8
  have hc0 := HS6.out.rd.c0
  have hlen := fun ty => MapIs.len Try.underlying66 HS6.out.rd.wm ty
  refine wp_region_tail 10 (by kernel_rfl) (by kernel_rfl) W3 HW3.out ?_
  simp only [List.take_succ_cons, List.take_zero, List.drop_succ_cons, List.drop_zero]
  iterate 10 still_step
  refine wpStill_nil ?_
  clear HS4 HCK
  have hc5 := HS6.out.rd.c5; have hf5 : W3.frozen? ⟨p, 5, none⟩ = false := free_row HS6.out.rd.blk 5
  go_wp2_with fail
  obtain ⟨W4, hW4⟩ : ∃ W', W' = (W3.setCell ⟨p, 5, none⟩ (.int .i64 now)).drew := ⟨_, rfl⟩
  have HS7 := hid (show AdT w W4 p B B { R with now := now } H l came x by rw [hW4]; obtain ⟨q1, q2⟩ := (HS6.out.done HR.out).rd.setP 5 (.int .i64 now) (R2 := { R with now := now }) rfl rfl rfl; exact ((HS6.out.done HR.out).step q1 q2).drew)
  have HW4 := hid hW4
  clear hW4 hc8 hc0 hlen hf5 hc5 HS6 HW3
  have hc7 := HS7.out.rd.c7
  refine wp_region_tail 6 (by kernel_rfl) (by kernel_rfl) W4 HW4.out ?_
  simp only [List.take_succ_cons, List.take_zero, List.drop_succ_cons, List.drop_zero]
  iterate 5 still_step
  refine still_exec rfl (exec_load_cells 31 _ rfl _ _ rfl HS7.out.id Try.underlying31 rfl HKI.out) ?_
  simp only [Act.put, List.setIfInBounds_toArray, List.set_cons_zero, List.set_cons_succ]
  refine wpStill_nil ?_
  have HAD := hid (add_set x.id.1 x.id.2 HS7.out.rd.set)
  clear hc7
  go_wp2_with (go_at_call 32; (with_reducible refine HAD.out.mono ?_); rintro e w6 ⟨rfl, h6, k6⟩; have H6 := hid h6; have K6 := hid k6; clear h6 k6)
  have hins : ins (vals8 R.S) x.id.1 = vals8 (R.S ++ [x.id]) := by unfold ins; rw [if_neg (fun q => HNI.out (mem_vals.1 q))]; unfold vals8; rw [List.map_append]; rfl
  obtain ⟨W5, hW5⟩ : ∃ W', W' = w6.drew := ⟨_, rfl⟩
  have HS8 := hid (show AdT w W5 p B B { R with now := now, S := R.S ++ [x.id] } H l came x by rw [hW5]; obtain ⟨q1, q2⟩ := HS7.out.rd.turnS (S2 := R.S ++ [x.id]) (by rw [← hins]; exact H6.out) K6.out; exact (HS7.out.step q1 q2).drew)
  have HW5 := hid hW5
  clear hW5 hins H6 K6 HAD HS7 HW4
  have hc6 := HS8.out.rd.c6
  refine wp_region_tail 8 (by kernel_rfl) (by kernel_rfl) W5 HW5.out ?_
  simp only [List.take_succ_cons, List.take_zero, List.drop_succ_cons, List.drop_zero]
  iterate 1 still_step
  refine still_exec rfl (exec_load 37 _ rfl _ rfl HS8.out.box Try.underlying37 rfl HRI.out) ?_
  simp only [Act.put, List.setIfInBounds_toArray, List.set_cons_zero, List.set_cons_succ]
  iterate 5 still_step
  refine still_exec rfl (exec_build _ _ rfl (by simp only [List.map_toArray, List.map_cons, List.map_nil]; exact build_wt x now R.next W5)) ?_
  simp only [Act.put, List.setIfInBounds_toArray, List.set_cons_zero, List.set_cons_succ]
  refine wpStill_nil ?_
  have HR8 : Hid (RdAt W5 p B { R with now := now, S := R.S ++ [x.id] } H l came) := hid ⟨HS8.out.rd, HR.out.hok, HR.out.rel, by have := HR.out.cnt; simp; omega⟩
  have hbd := HTK.out
  have hbt := HTL.out
  have HPU := hid (rput_any HR8.out ⟨x, now, R.next⟩ HNK.out (by dsimp only; omega) (by have := HR.out.cnt; simp; omega) (by simp; omega) (by dsimp only; omega))
  clear hc6 hbd hbt
  go_wp2_with (go_at_call 33; (with_reducible refine HPU.out.mono ?_); rintro e w7 ⟨rfl, h7⟩; have H7 := hid h7; clear h7; refine stopper ?_)
  refine hid ?_
  obtain ⟨B', H', l', h7, k7, o7⟩ := H7.out
  have hc6 := h7.c6
  have hf6 : w7.frozen? ⟨p, 6, none⟩ = false := free_row h7.blk 6
  have hwr := IntWalk.i64_in (R.next + 1) (by have := HNX.out; omega)
  have H8 := hid h7
  have K8 := hid k7
  have O8 := hid o7
  clear h7 k7 o7
  dsimp only at hc6
  go_wp2_with fail
  go_ret
  obtain ⟨q1, q2⟩ := H8.out.toRdM.setP 6 (.int .i64 (R.next + 1)) (R2 := ⟨R.cf, now, R.next + 1, R.S ++ [x.id], (x.id, ⟨x, now, R.next⟩) :: R.T⟩) rfl rfl rfl
  rw [HE.out, HD.out]
  refine ⟨rfl, B', H', l', came + 1, ⟨q1, H8.out.hok, H8.out.rel, H8.out.cnt⟩, (HS8.out.kp.trans K8.out (fun _ _ q => q)).trans q2 (fun k hk q => ?_), fun k hk => (O8.out k hk).imp id fun q => ?_⟩
  · rcases O8.out k q with e | e
    · exact e
    · have := HS8.out.kp.size; omega
  · have := HS8.out.kp.size; omega
end
end Go.Proofs.Ytkaalppmheikgaa
