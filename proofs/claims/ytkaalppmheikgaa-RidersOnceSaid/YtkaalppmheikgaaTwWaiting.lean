/- Copies of lists of Waitings: the mark, Twin.., Same.., Left... -/
import Derived.Test.YtkaalppmheikgaaTwB
import Derived.Test.YtkaalppmheikgaaRdSt
import Derived.Deep.QuietTactic
namespace Go.Proofs.Ytkaalppmheikgaa
open Go.RowKit

set_option maxRecDepth 100000 in
theorem pt_eq (a b c d : Int) (w : World) : (Op.equalIn 9998 35 (.agg #[.int .i16 a, .int .i16 b]) (.agg #[.int .i16 c, .int .i16 d])).run Try.prog w = .ok ((a == c) && (b == d)) w := by
  have hu := Try.underlying35
  have hf : Try.prog.fieldsOf 35 = (match Try.prog.underlying 35 with | some (.struct fs) => fs | _ => #[]) := rfl
  rw [hu] at hf
  have h1 := run_equalIn_struct (P := Try.prog) w 9997 35 #[.int .i16 a, .int .i16 b] #[.int .i16 c, .int .i16 d] (by rw [hf]; exact hu) (by kernel_rfl)
  rw [hf] at h1
  have p1 : ∀ a b : Int, (part 33 #[.int .i16 a, .int .i16 b] 0).run Try.prog w = .ok (.int .i16 a) w := fun a b => by kernel_rfl
  have p2 : ∀ a b : Int, (part 33 #[.int .i16 a, .int .i16 b] 1).run Try.prog w = .ok (.int .i16 b) w := fun a b => by kernel_rfl
  have e1 : ∀ a c : Int, (Op.equalIn 9997 33 (.int .i16 a) (.int .i16 c)).run Try.prog w = .ok (a == c) w := fun a c => run_equalIn_int w 9996 33 .i16 .i16 a c Try.underlying33
  rw [show (9998 : Nat) = 9997 + 1 from rfl, h1]
  simp only [Op.eqFields, p1, p2, Sem.run_bind, Sem.run_ite, Result.andThen_ok, e1, Sem.run_pure]
  generalize (a == c) = p
  generalize (b == d) = q
  cases p <;> cases q <;> rfl
section
variable (x : Rq) (w : World)
set_option maxRecDepth 100000
theorem part_rq0 : (part 31 (rqE x) 0).run Try.prog w = .ok (.agg (bys x.id.1)) w := by
  obtain ⟨a, b, c, d, e, f, g, h, hx⟩ := id8_list x.id
  unfold rqE; simp only [hx]; kernel_rfl
theorem part_rq1 : (part 35 (rqE x) 8).run Try.prog w = .ok (.agg #[.int .i16 x.fx, .int .i16 x.fy]) w := by
  obtain ⟨a, b, c, d, e, f, g, h, hx⟩ := id8_list x.id
  unfold rqE; simp only [hx]; kernel_rfl
theorem part_rq2 : (part 35 (rqE x) 10).run Try.prog w = .ok (.agg #[.int .i16 x.tx, .int .i16 x.ty]) w := by
  obtain ⟨a, b, c, d, e, f, g, h, hx⟩ := id8_list x.id
  unfold rqE; simp only [hx]; kernel_rfl
theorem part_rq3 : (part 5 (rqE x) 12).run Try.prog w = .ok (.int .u8 x.seats) w := by
  obtain ⟨a, b, c, d, e, f, g, h, hx⟩ := id8_list x.id
  unfold rqE; simp only [hx]; kernel_rfl
theorem part_rq4 : (part 5 (rqE x) 13).run Try.prog w = .ok (.int .u8 x.cls) w := by
  obtain ⟨a, b, c, d, e, f, g, h, hx⟩ := id8_list x.id
  unfold rqE; simp only [hx]; kernel_rfl
theorem part_rq5 : (part 3 (rqE x) 14).run Try.prog w = .ok (.int .i64 x.base) w := by
  obtain ⟨a, b, c, d, e, f, g, h, hx⟩ := id8_list x.id
  unfold rqE; simp only [hx]; kernel_rfl
theorem part_rq6 : (part 3 (rqE x) 15).run Try.prog w = .ok (.int .i64 x.ttl) w := by
  obtain ⟨a, b, c, d, e, f, g, h, hx⟩ := id8_list x.id
  unfold rqE; simp only [hx]; kernel_rfl
theorem part_wt0 (x : Wt) : (part 37 (wtE x) 0).run Try.prog w = .ok (.agg (rqE x.rq)) w := by
  obtain ⟨a, b, c, d, e, f, g, h, hx⟩ := id8_list x.rq.id
  unfold wtE rqE; simp only [hx]; kernel_rfl
theorem part_wt1 (x : Wt) : (part 3 (wtE x) 16).run Try.prog w = .ok (.int .i64 x.since) w := by
  obtain ⟨a, b, c, d, e, f, g, h, hx⟩ := id8_list x.rq.id
  unfold wtE rqE; simp only [hx]; kernel_rfl
theorem part_wt2 (x : Wt) : (part 3 (wtE x) 17).run Try.prog w = .ok (.int .i64 x.num) w := by
  obtain ⟨a, b, c, d, e, f, g, h, hx⟩ := id8_list x.rq.id
  unfold wtE rqE; simp only [hx]; kernel_rfl
end
set_option maxRecDepth 100000 in
theorem rqE_eq (x y : Rq) (w : World) : (Op.equalIn 9999 37 (.agg (rqE x)) (.agg (rqE y))).run Try.prog w = .ok (decide (x = y)) w := by
  have hu := Try.underlying37
  have hf : Try.prog.fieldsOf 37 = (match Try.prog.underlying 37 with | some (.struct fs) => fs | _ => #[]) := rfl
  rw [hu] at hf
  have h1 := run_equalIn_struct (P := Try.prog) w 9998 37 (rqE x) (rqE y) (by rw [hf]; exact hu) (by kernel_rfl)
  rw [hf] at h1
  have e1 : (Op.equalIn 9998 31 (.agg (bys x.id.1)) (.agg (bys y.id.1))).run Try.prog w = .ok (decide (x.id.1 = y.id.1)) w := run_equalIn_ints Try.underlying31 Try.underlying5 (by kernel_rfl) (by kernel_rfl) 9996 _ _ x.id.2.1 y.id.2.1 w
  have e2 : ∀ a c : Int, (Op.equalIn 9998 3 (.int .i64 a) (.int .i64 c)).run Try.prog w = .ok (a == c) w := fun a c => run_equalIn_int w 9997 3 .i64 .i64 a c Try.underlying3
  have e3 : ∀ a c : Int, (Op.equalIn 9998 5 (.int .u8 a) (.int .u8 c)).run Try.prog w = .ok (a == c) w := fun a c => run_equalIn_int w 9997 5 .u8 .u8 a c Try.underlying5
  have hd : decide (x = y) = (decide (x.id.1 = y.id.1) && ((x.fx == y.fx) && (x.fy == y.fy)) && ((x.tx == y.tx) && (x.ty == y.ty)) && (x.seats == y.seats) && (x.cls == y.cls) && (x.base == y.base) && (x.ttl == y.ttl)) := by
    obtain ⟨x0, x1, x2, x3, x4, x5, x6, x7, x8⟩ := x
    obtain ⟨y0, y1, y2, y3, y4, y5, y6, y7, y8⟩ := y
    rw [Bool.eq_iff_iff]
    simp only [decide_eq_true_eq, Bool.and_eq_true, beq_iff_eq, Rq.mk.injEq, Subtype.ext_iff, and_assoc]
  rw [show (9999 : Nat) = 9998 + 1 from rfl, h1, hd]
  simp only [Op.eqFields, part_rq0, part_rq1, part_rq2, part_rq3, part_rq4, part_rq5, part_rq6, Sem.run_bind, Sem.run_ite, Result.andThen_ok, e1, e2, e3, pt_eq, Sem.run_pure]
  generalize decide (x.id.1 = y.id.1) = p
  generalize ((x.fx == y.fx) && (x.fy == y.fy)) = q
  generalize ((x.tx == y.tx) && (x.ty == y.ty)) = q2
  generalize (x.seats == y.seats) = q3
  generalize (x.cls == y.cls) = q4
  generalize (x.base == y.base) = q5
  generalize (x.ttl == y.ttl) = q6
  cases p <;> cases q <;> cases q2 <;> cases q3 <;> cases q4 <;> cases q5 <;> cases q6 <;> rfl
set_option maxRecDepth 100000 in
theorem wtE_eq (x y : Wt) (w : World) : (Op.equalIn 10000 48 (.agg (wtE x)) (.agg (wtE y))).run Try.prog w = .ok (decide (x = y)) w := by
  have hu := Try.underlying48
  have hf : Try.prog.fieldsOf 48 = (match Try.prog.underlying 48 with | some (.struct fs) => fs | _ => #[]) := rfl
  rw [hu] at hf
  have h1 := run_equalIn_struct (P := Try.prog) w 9999 48 (wtE x) (wtE y) (by rw [hf]; exact hu) (by kernel_rfl)
  rw [hf] at h1
  have e2 : ∀ a c : Int, (Op.equalIn 9999 3 (.int .i64 a) (.int .i64 c)).run Try.prog w = .ok (a == c) w := fun a c => run_equalIn_int w 9998 3 .i64 .i64 a c Try.underlying3
  have hd : decide (x = y) = (decide (x.rq = y.rq) && (x.since == y.since) && (x.num == y.num)) := by
    obtain ⟨x0, x1, x2⟩ := x
    obtain ⟨y0, y1, y2⟩ := y
    rw [Bool.eq_iff_iff]
    simp only [decide_eq_true_eq, Bool.and_eq_true, beq_iff_eq, Wt.mk.injEq, and_assoc]
  rw [show (10000 : Nat) = 9999 + 1 from rfl, h1, hd]
  simp only [Op.eqFields, part_wt0, part_wt1, part_wt2, Sem.run_bind, Sem.run_ite, Result.andThen_ok, e2, rqE_eq, Sem.run_pure]
  generalize decide (x.rq = y.rq) = p
  generalize (x.since == y.since) = q
  generalize (x.num == y.num) = r
  cases p <;> cases q <;> cases r <;> rfl
theorem wtE_all (x : Wt) : (wtE x).all (·.oneCell') = true := Array.all_eq_true_iff_forall_mem.2 (fun v hv => wtE_ones x v (by simpa using hv))
set_option maxRecDepth 100000 in
set_option maxHeartbeats 2000000 in
theorem sameWaitings_any (a b : List Wt) (A B : Option Addr) (ca cb : Nat) (la : a.length ≤ 4611686018427387904) (_ : b.length ≤ 4611686018427387904) (w : World) (ha : RowsAt 18 wtE w A a) (hb : RowsAt 18 wtE w B b) :
    Calls Try.prog 15 #[.slice A a.length ca, .slice B b.length cb] w fun e w' => e = .returned (.bool (decide (a = b))) ∧ Below w.heap.size w w' := by
  have HA := hid ha
  have HB := hid hb
  clear ha hb
  go_enter Try.func15, Try.ntmps15
  by_cases hl : a.length = b.length
  · have g1 : ((a.length : Int) != (b.length : Int)) = false := by simp [hl]
    have g2 : (a.length != b.length) = false := by simp [hl]
    have HL := hid hl
    clear hl
    go_wp2
    clear g1 g2
    go_loopw [5] (fun i wr => ∃ k : Nat, k ≤ a.length ∧ i = .int .i64 k ∧ Hid (a.take k = b.take k) ∧ Hid (Below w.heap.size w wr)) (fun i _ => a.length - (intOf i).toNat)
    case atStart => exact ⟨0, by omega, rfl, hid rfl, hid (Below.refl _ _)⟩
    case round =>
      obtain ⟨k, hk, rfl, HE, HM⟩ := hrel
      by_cases hlt : k < a.length
      · have hki : (k : Int) < (a.length : Int) := by omega
        obtain ⟨x, hx⟩ : ∃ x, a[k]? = some x := ⟨a[k], by simp [hlt]⟩
        have hkb : k < b.length := by rw [← HL.out]; exact hlt
        have hkbi : (k : Int) < (b.length : Int) := by omega
        obtain ⟨y, hy⟩ : ∃ y, b[k]? = some y := ⟨b[k], by simp [hkb]⟩
        obtain ⟨ga, oa, rfl, hga, hcx⟩ := (HA.out.kept HM.out).get hx
        obtain ⟨gb, ob, rfl, hgb, hcy⟩ := (HB.out.kept HM.out).get hy
        have HCX : Hid (CellsAt wr ga (oa + k * 18) (wtE x)) := hid (by rw [Nat.mul_comm]; exact hcx)
        have HCY : Hid (CellsAt wr gb (ob + k * 18) (wtE y)) := hid (by rw [Nat.mul_comm]; exact hcy)
        have HGA := hid hga
        have HGB := hid hgb
        have heq := fun w => wtE_eq x y w
        have HX := hid hx
        have HY := hid hy
        clear hx hy hcx hcy hga hgb
        by_cases he : x = y
        · have HE2 : Hid (a.take (k + 1) = b.take (k + 1)) := hid (by
            obtain ⟨h1, h2⟩ := List.getElem?_eq_some_iff.1 HX.out
            obtain ⟨h3, h4⟩ := List.getElem?_eq_some_iff.1 HY.out
            rw [List.take_succ_eq_append_getElem h1, List.take_succ_eq_append_getElem h3, HE.out, h2, h4, he])
          have hd : decide (x = y) = true := decide_eq_true he
          rw [hd] at heq
          clear he hd
          go_wp2
          refine wp_region_bw (by kernel_rfl) (by kernel_rfl) ?_
          iterate 3 (first | go_big_quiet_step (fail) | (go_big_quiet_want; go_simp; go_big_quiet_on))
          (go_big_quiet_want; refine quiet_load_cells 48 _ rfl _ _ rfl _ _ (HCX.out) (HGA.out) Try.underlying48 rfl (wtE_info x) ?_; simp only [Act.put, List.setIfInBounds_toArray, List.set_cons_zero, List.set_cons_succ]; go_big_quiet_on)
          iterate 3 (first | go_big_quiet_step (fail) | (go_big_quiet_want; go_simp; go_big_quiet_on))
          (go_big_quiet_want; refine quiet_load_cells 48 _ rfl _ _ rfl _ _ (HCY.out) (HGB.out) Try.underlying48 rfl (wtE_info y) ?_; simp only [Act.put, List.setIfInBounds_toArray, List.set_cons_zero, List.set_cons_succ]; go_big_quiet_on)
          iterate 1 (first | go_big_quiet_step (fail) | (go_big_quiet_want; go_simp; go_big_quiet_on))
          refine wpQuiet_nil ?_; rintro w' ⟨X, rfl⟩
          go_wp2
          refine ⟨⟨k + 1, by omega, by go_num, HE2, hid (HM.out.trans (X.2.mono HM.out.size))⟩, ?_⟩
          simp [intOf]; omega
        · have HN : Hid (decide (a = b) = false) := hid (by
            refine decide_eq_false fun e => he ?_
            have h1 := HX.out
            have h2 := HY.out
            rw [e] at h1
            rw [h1] at h2
            exact Option.some.inj h2)
          have hd : decide (x = y) = false := decide_eq_false he
          rw [hd] at heq
          clear he hd
          go_wp2
          refine wp_region_bw (by kernel_rfl) (by kernel_rfl) ?_
          iterate 3 (first | go_big_quiet_step (fail) | (go_big_quiet_want; go_simp; go_big_quiet_on))
          (go_big_quiet_want; refine quiet_load_cells 48 _ rfl _ _ rfl _ _ (HCX.out) (HGA.out) Try.underlying48 rfl (wtE_info x) ?_; simp only [Act.put, List.setIfInBounds_toArray, List.set_cons_zero, List.set_cons_succ]; go_big_quiet_on)
          iterate 3 (first | go_big_quiet_step (fail) | (go_big_quiet_want; go_simp; go_big_quiet_on))
          (go_big_quiet_want; refine quiet_load_cells 48 _ rfl _ _ rfl _ _ (HCY.out) (HGB.out) Try.underlying48 rfl (wtE_info y) ?_; simp only [Act.put, List.setIfInBounds_toArray, List.set_cons_zero, List.set_cons_succ]; go_big_quiet_on)
          iterate 1 (first | go_big_quiet_step (fail) | (go_big_quiet_want; go_simp; go_big_quiet_on))
          refine wpQuiet_nil ?_; rintro w' ⟨X, rfl⟩
          go_wp2
          go_ret
          exact ⟨by rw [HN.out]; rfl, HM.out.trans (X.2.mono HM.out.size)⟩
      · have HE3 : Hid (decide (a = b) = true) := hid (by
          have h1 : a.take k = a := List.take_of_length_le (by omega)
          have h2 : b.take k = b := List.take_of_length_le (by have := HL.out; omega)
          have h3 := HE.out
          rw [h1, h2] at h3
          exact decide_eq_true h3)
        go_wp2
        go_ret
        exact ⟨by rw [HE3.out]; rfl, HM.out⟩
  · have HN : Hid (decide (a = b) = false) := hid (decide_eq_false fun e => hl (by rw [e]))
    have g1 : ((a.length : Int) != (b.length : Int)) = true := by simp; omega
    have g2 : (a.length != b.length) = true := by simp; omega
    clear hl
    go_wp2
    go_ret
    exact ⟨by rw [HN.out]; rfl, Below.refl _ _⟩
end Go.Proofs.Ytkaalppmheikgaa
