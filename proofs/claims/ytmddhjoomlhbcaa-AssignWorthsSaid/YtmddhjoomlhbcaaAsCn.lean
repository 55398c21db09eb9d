/- The walks of least's function 'can', and of least. -/
import Derived.Test.YtmddhjoomlhbcaaAsLs
namespace Go.Proofs.Ytmddhjoomlhbcaa
open Go.RowKit

/-! ### Lists that the call itself makes -/
def nts (l : List Nat) : List Int := l.map Int.ofNat
theorem nts_snoc (l : List Nat) (n : Nat) : intV (nts (l ++ [n])) = intV (nts l) ++ [.int .i64 n] := by simp [intV, nts]
structure AppAt (w0 w : World) (v : Value) (l : List Nat) : Prop where
  own : w.ownsRow w0.heap.size 3 1 v l.length (intV (nts l))
  below : Below w0.heap.size w0 w
theorem AppAt.start (w : World) : AppAt w w (.slice none 0 0) [] := ⟨by exact ownsRow_nil _ _ _ _, Below.refl _ _⟩
theorem AppAt.grow {w0 wr w2 : World} {v v2 : Value} {l : List Nat} (h : AppAt w0 wr v l) {n : Nat} (o : Obj) (ho : w2.ownsRow w0.heap.size 3 1 v2 (l.length + 1) (intV (nts l) ++ [.int .i64 n])) (hg : (wr.alloc o).grownBy w2 v.ownBlock) : AppAt w0 w2 v2 (l ++ [n]) := by
  have hb := (Below.refl wr.heap.size wr).alloc (Nat.le_refl _) o
  have hown : (wr.alloc o).ownsRow w0.heap.size 3 1 v l.length (intV (nts l)) := ownsRow_other h.own fun g hg => hb.block g (ownsRow_lt h.own hg)
  have hbw := h.below.alloc h.below.size o
  exact ⟨by rw [nts_snoc, List.length_append]; exact ho, hbw.grown hg hbw.size (ownsRow_block hown)⟩
theorem AppAt.rows {w0 w : World} {v : Value} {l : List Nat} (h : AppAt w0 w v l) : ∃ A cap, v = .slice A l.length cap ∧ RowsAt 1 natV w A l := by
  obtain ⟨h1, ⟨h2, h3⟩ | ⟨g, c2, cur, h2, h3, h4, h5, h6, h7, h8⟩⟩ := h.own
  · exact ⟨none, 0, by rw [h2, h3], .inl (List.length_eq_zero_iff.1 h3)⟩
  · refine ⟨some ⟨g, 0, none⟩, c2, h2, .inr ⟨g, 0, rfl, heap_lt h4, fun i x hx j u hj => ?_⟩⟩
    have hil : i < l.length := (List.getElem?_eq_some_iff.1 hx).1
    have hj0 : j = 0 := by
      have := (Array.getElem?_eq_some_iff.1 hj).1
      simp [natV] at this; exact this
    subst hj0
    have hu : u = .int .i64 x := by simp [natV] at hj; exact hj.symm
    subst hu
    refine row_cell h4 _ _ ?_
    have : (cur.toList.take (l.length * 1))[i]? = (intV (nts l))[i]? := by rw [h8]
    rw [List.getElem?_take, if_pos (by omega)] at this
    rw [show 0 + 1 * i + 0 = i by omega, ← Array.getElem?_toList, this]
    simp [intV, nts, hx]
theorem info_intA : (Try.prog.info? 3).map (fun i => (i.zero, i.size, i.bytes)) = some (some (.int .i64 0), 1, 8) := by kernel_rfl
def wTo (y : List Int) (done k : Nat) : List Nat := (List.range k).filter fun r => decide (done ≤ r) && decide (0 < getI y r)
theorem wTo_succ (y : List Int) (done k : Nat) : wTo y done (k + 1) = wTo y done k ++ (if (decide (done ≤ k) && decide (0 < getI y k)) = true then [k] else []) := by
  unfold wTo
  rw [List.range_succ, List.filter_append]
  cases h : (decide (done ≤ k) && decide (0 < getI y k)) <;> simp [h]
theorem wTo_done (y : List Int) (done : Nat) : wTo y done done = [] := by
  unfold wTo
  rw [List.filter_eq_nil_iff]
  intro a ha
  have := List.mem_range.1 ha
  simp; omega
theorem wTo_len (y : List Int) (done k : Nat) : (wTo y done k).length ≤ k := Nat.le_trans (List.length_filter_le _ _) (by simp)
def cTo (z : List Int) (taken : List Bool) (k : Nat) : List Nat := (List.range k).filter fun c => decide (0 < getI z c) && !getB taken c
theorem cTo_succ (z : List Int) (taken : List Bool) (k : Nat) : cTo z taken (k + 1) = cTo z taken k ++ (if (decide (0 < getI z k) && !getB taken k) = true then [k] else []) := by
  unfold cTo
  rw [List.range_succ, List.filter_append]
  cases h : (decide (0 < getI z k) && !getB taken k) <;> simp [h]
theorem cTo_len (z : List Int) (taken : List Bool) (k : Nat) : (cTo z taken k).length ≤ k := Nat.le_trans (List.length_filter_le _ _) (by simp)

section
variable {w0 : World} {tp pb yb zb rb kb db fb R C : Nat} {T y z tt : List Int} {taken : List Bool} {done : Nat}
set_option maxRecDepth 100000 in
theorem tightT_any (hW : WOk (wOf T)) (hy : YzOk y z taken) (w : World) (h : LsAt w0 w tp pb yb zb rb kb db fb R C T y z tt taken done) (r c : Nat) (hr : r < 64) (hc : c < 64) :
    Calls Try.prog 49 #[.int .i64 c, .int .i64 r, .pointer (some ⟨fb, 0, none⟩)] w fun e w' => e = .returned (.bool (tg (wOf T) y z done taken r c)) ∧ ∃ m, w' = w.drewN m := by
  have CT := hid (tight_any hW hy w h r c hr hc)
  have c1 := row_cell h.fbox 0 _ rfl
  clear h hW hy
  go_enter Try.func49, Try.ntmps49
  go_wp2_with (go_at_call 46; refine CT.out.mono ?_; rintro e w9 ⟨rfl, m9, rfl⟩)
  go_ret
  exact ⟨rfl, m9, rfl⟩
theorem enters46 : Enters 46 := enters_of Try.func46 (by kernel_rfl) rfl
theorem enters49 : Enters 49 := enters_of Try.func49 (by kernel_rfl) rfl
theorem tightAt (hW : WOk (wOf T)) (hy : YzOk y z taken) (hC : C ≤ 64) {w : World} (h : LsAt w0 w tp pb yb zb rb kb db fb R C T y z tt taken done) :
    TightAt w 46 #[.pointer (some ⟨db, 0, none⟩), .pointer (some ⟨kb, 0, none⟩), .pointer (some ⟨pb, 0, none⟩), .pointer (some ⟨yb, 0, none⟩), .pointer (some ⟨zb, 0, none⟩)] C (tg (wOf T) y z done taken) :=
  fun w' hb a b ha hbC => tight_any hW hy w' (h.kept hb) a b ha (by omega)
theorem tightAtT (hW : WOk (wOf T)) (hy : YzOk y z taken) (hR : R ≤ 64) {w : World} (h : LsAt w0 w tp pb yb zb rb kb db fb R C T y z tt taken done) :
    TightAt w 49 #[.pointer (some ⟨fb, 0, none⟩)] R (fun c r => tg (wOf T) y z done taken r c) :=
  fun w' hb a b ha hbR => tightT_any hW hy w' (h.kept hb) b a (by omega) ha

set_option maxRecDepth 100000 in
set_option maxHeartbeats 8000000 in
theorem can_any (hW : WOk (wOf T)) (hy : YzOk y z taken) (hR : R ≤ 64) (hC : C ≤ 64) (hd : done ≤ R) (w : World) (h : LsAt w0 w tp pb yb zb rb kb db fb R C T y z tt taken done) :
    Calls Try.prog 47 #[.pointer (some ⟨db, 0, none⟩), .pointer (some ⟨pb, 0, none⟩), .pointer (some ⟨yb, 0, none⟩), .pointer (some ⟨zb, 0, none⟩), .pointer (some ⟨kb, 0, none⟩), .pointer (some ⟨fb, 0, none⟩)] w
      fun e w' => e = .returned (.bool (canF (wOf T) R C y z done taken)) ∧ Below w.heap.size w w' := by
  have HL := hid h
  have HW := hid hW
  have HY := hid hy
  have c1 := row_cell h.done 0 _ rfl
  clear h hW hy
  go_enter Try.func47, Try.ntmps47
  go_wp2
  clear c1
  go_loopw [7, 9] (fun v r wr => ∃ k : Nat, done ≤ k ∧ k ≤ R ∧ r = .int .i64 k ∧ Hid (AppAt w wr v (wTo y done k))) (fun _ r _ => R - (intOf r).toNat)
  case atStart => exact ⟨done, by omega, hd, rfl, hid (by rw [wTo_done]; exact AppAt.start w)⟩
  case round =>
    obtain ⟨k, hdk, hk, rfl, HA⟩ := hrel
    have HLK := hid (HL.out.kept HA.out.below)
    have c1 := row_cell HLK.out.pbox 0 _ rfl
    have c2 := HLK.out.tbl.rows
    by_cases hlt : k < R
    · have hki : (k : Int) < (R : Int) := by omega
      have hk64i : (k : Int) < 64 := by omega
      have c3 := HLK.out.y.cellI (k := k) (by rw [HY.out.ly]; omega)
      by_cases hp : 0 < getI y k
      · have HN : Hid (wTo y done (k + 1) = wTo y done k ++ [k]) := hid (by rw [wTo_succ, decide_eq_true hdk, decide_eq_true hp]; rfl)
        obtain ⟨i1, hi1, hz10, hz11, hz12⟩ := info_parts info_intA
        have HLEN : Hid ((wTo y done k).length ≤ 64) := hid (by have := wTo_len y done k; omega)
        have HSZ : Hid (w.heap.size ≤ wr.heap.size) := hid HA.out.below.size
        have HOWN : Hid ((wr.alloc (.cells #[.int .i64 k] 3)).ownsRow w.heap.size 3 1 u7 (wTo y done k).length (intV (nts (wTo y done k)))) := hid (ownsRow_other HA.out.own fun g hg => ((Below.refl _ _).alloc (Nat.le_refl _) _).block g (ownsRow_lt HA.out.own hg))
        clear HLK
        go_wp2_with (at_builtin; refine wpList_append_own_at _ rfl _ _ 37 rfl w.heap.size 3 i1 (.int .i64 0) 1 8 Try.underlying37 hi1 hz10 hz11 hz12 rfl (by decide) _ _ _ rfl HOWN.out ⟨wr.heap.size, 0, none⟩ 1 1 [.int .i64 k] rfl rfl ?d1 ?d2 ?d3 ?d4 ?d5 ?_)
        try case d1 => exact cells_new _ _ _
        try case d2 => simp [Value.oneCell']
        case d3 => have := HLEN.out; unfold maxLen; omega
        case d4 => have := HLEN.out; omega
        case d5 => have := HSZ.out; first | omega | (simp only [alloc_size]; omega) | (simp; omega)
        intro v5 w5 hown5 hgrow5 _ _
        have HA5 := hid (HA.out.grow _ hown5 hgrow5)
        clear hown5 hgrow5
        go_wp2
        go_roundw
        case rel => exact ⟨k + 1, by omega, by omega, by go_num, hid (by rw [HN.out]; exact HA5.out)⟩
        case measure => simp [intOf]; omega
      · have HN : Hid (wTo y done (k + 1) = wTo y done k) := hid (by rw [wTo_succ, decide_eq_false hp, Bool.and_false, if_neg (by simp), List.append_nil])
        clear HLK
        go_wp2
        go_roundw
        case rel => exact ⟨k + 1, by omega, by omega, by go_num, hid (by rw [HN.out]; exact HA.out)⟩
        case measure => simp [intOf]; omega
    · obtain rfl : R = k := by omega
      have hki : ¬ ((R : Int) < (R : Int)) := by omega
      obtain ⟨A1, cap1, hv1, hr1⟩ := HA.out.rows
      subst hv1
      have HR1 := hid hr1
      have HB1 := hid HA.out.below
      have HA2 := hid (AppAt.start wr)
      obtain ⟨wb, hwb⟩ : ∃ wb, wb = wr := ⟨_, rfl⟩
      rw [← hwb] at HR1 HB1 HA2 HLK
      clear hr1 hk hlt
      go_wp2
      clear c1 c2 hki HA
      rw [← hwb]
      clear hwb
      go_loopw [8, 10] (fun v c wr => ∃ k : Nat, k ≤ C ∧ c = .int .i64 k ∧ Hid (AppAt wb wr v (cTo z taken k))) (fun _ c _ => C - (intOf c).toNat)
      case atStart => exact ⟨0, by omega, rfl, HA2⟩
      case round =>
        clear HA2
        obtain ⟨k, hk, rfl, HA⟩ := hrel
        have HLR := hid (HLK.out.kept HA.out.below)
        have c1 := row_cell HLR.out.pbox 0 _ rfl
        have c2 := HLR.out.tbl.cols
        by_cases hlt : k < C
        · have hki : (k : Int) < (C : Int) := by omega
          have hk64i : (k : Int) < 64 := by omega
          have c3 := HLR.out.z.cellI (k := k) (by rw [HY.out.lz]; omega)
          have c4 := HLR.out.taken.cell (k := k) (by rw [HY.out.lt]; omega)
          by_cases hp : 0 < getI z k
          · have hp2 : decide (0 < getI z k) = true := decide_eq_true hp
            cases ht : getB taken k with
            | false =>
              rw [ht] at c4
              have HN : Hid (cTo z taken (k + 1) = cTo z taken k ++ [k]) := hid (by rw [cTo_succ, hp2, ht]; rfl)
              obtain ⟨i1, hi1, hz10, hz11, hz12⟩ := info_parts info_intA
              have HLEN : Hid ((cTo z taken k).length ≤ 64) := hid (by have := cTo_len z taken k; omega)
              have HSZ : Hid (wb.heap.size ≤ wr.heap.size) := hid HA.out.below.size
              have HOWN : Hid ((wr.alloc (.cells #[.int .i64 k] 3)).ownsRow wb.heap.size 3 1 u8 (cTo z taken k).length (intV (nts (cTo z taken k)))) := hid (ownsRow_other HA.out.own fun g hg => ((Below.refl _ _).alloc (Nat.le_refl _) _).block g (ownsRow_lt HA.out.own hg))
              clear HLR ht
              go_wp2_with (at_builtin; refine wpList_append_own_at _ rfl _ _ 37 rfl wb.heap.size 3 i1 (.int .i64 0) 1 8 Try.underlying37 hi1 hz10 hz11 hz12 rfl (by decide) _ _ _ rfl HOWN.out ⟨wr.heap.size, 0, none⟩ 1 1 [.int .i64 k] rfl rfl ?d1 ?d2 ?d3 ?d4 ?d5 ?_)
              try case d1 => exact cells_new _ _ _
              try case d2 => simp [Value.oneCell']
              case d3 => have := HLEN.out; unfold maxLen; omega
              case d4 => have := HLEN.out; omega
              case d5 => have := HSZ.out; first | omega | (simp only [alloc_size]; omega) | (simp; omega)
              intro v5 w5 hown5 hgrow5 _ _
              have HA5 := hid (HA.out.grow _ hown5 hgrow5)
              clear hown5 hgrow5
              go_wp2
              go_roundw
              case rel => exact ⟨k + 1, by omega, by go_num, hid (by rw [HN.out]; exact HA5.out)⟩
              case measure => simp [intOf]; omega
            | true =>
              rw [ht] at c4
              have HN : Hid (cTo z taken (k + 1) = cTo z taken k) := hid (by rw [cTo_succ, ht]; simp)
              clear HLR ht
              go_wp2
              go_roundw
              case rel => exact ⟨k + 1, by omega, by go_num, hid (by rw [HN.out]; exact HA.out)⟩
              case measure => simp [intOf]; omega
          · have hp2 : decide (0 < getI z k) = false := decide_eq_false hp
            have HN : Hid (cTo z taken (k + 1) = cTo z taken k) := hid (by rw [cTo_succ, hp2]; simp)
            clear HLR
            go_wp2
            go_roundw
            case rel => exact ⟨k + 1, by omega, by go_num, hid (by rw [HN.out]; exact HA.out)⟩
            case measure => simp [intOf]; omega
        · obtain rfl : C = k := by omega
          have hki : ¬ ((C : Int) < (C : Int)) := by omega
          obtain ⟨A2, cap2, hv2, hr2⟩ := HA.out.rows
          subst hv2
          have HR2 := hid hr2
          have HR1' := hid (HR1.out.kept HA.out.below)
          have HBB := hid (HB1.out.trans (HA.out.below.mono HB1.out.size))
          have CC1 := hid (fun X : Bw wr => covers_any X.1 C 46 _ _ hC enters46 (tightAt HW.out HY.out hC (HLR.out.kept X.2)) (wTo y done R) (fun a ha => by
            unfold wTo at ha
            have := List.mem_range.1 (List.mem_filter.1 ha).1
            omega) (by have := wTo_len y done R; omega) A1 cap1 (HR1'.out.kept X.2))
          have CC2 := hid (fun X : Bw wr => covers_any X.1 R 49 _ _ hR enters49 (tightAtT HW.out HY.out hR (HLR.out.kept X.2)) (cTo z taken C) (fun a ha => by
            unfold cTo at ha
            have := List.mem_range.1 (List.mem_filter.1 ha).1
            omega) (by have := cTo_len z taken C; omega) A2 cap2 (HR2.out.kept X.2))
          have HCF : Hid (canF (wOf T) R C y z done taken = (covL (tlOf C (tg (wOf T) y z done taken)) (wTo y done R) none64 none64 && covL (tlOf R (fun c r => tg (wOf T) y z done taken r c)) (cTo z taken C) none64 none64)) := hid rfl
          have c5 := row_cell HLR.out.fbox 0 _ rfl
          clear hr2 hk hlt
          go_wp2
          clear hki
          have c6 := HLR.out.tbl.rows
          generalize covL (tlOf C (tg (wOf T) y z done taken)) (wTo y done R) none64 none64 = b1 at *
          generalize covL (tlOf R fun c r => tg (wOf T) y z done taken r c) (cTo z taken C) none64 none64 = b2 at *
          cases b1 with
          | true =>
            refine wp_region_bw (by kernel_rfl) (by kernel_rfl) ?_
            go_big_quiet_step (fail)
            (go_big_quiet_want; refine quiet_load_cell 61 _ rfl _ _ rfl _ (c1) (fun w h => by go_simp) ?_; simp only [Act.put, List.setIfInBounds_toArray, List.set_cons_zero, List.set_cons_succ]; go_big_quiet_on)
            iterate 2 (go_big_quiet_step (fail))
            (go_big_quiet_want; refine quiet_load_cell 3 _ rfl _ _ rfl _ (c2) (fun w h => by go_simp) ?_; simp only [Act.put, List.setIfInBounds_toArray, List.set_cons_zero, List.set_cons_succ]; go_big_quiet_on)
            (go_big_quiet_want; refine quiet_load_cell 79 _ rfl _ _ rfl _ (c5) (fun w h => by go_simp) ?_; simp only [Act.put, List.setIfInBounds_toArray, List.set_cons_zero, List.set_cons_succ]; go_big_quiet_on)
            (go_big_quiet_want; go_big_quiet_op; go_big_quiet_call ((go_at_call 48; exact Calls.bw (CC1.out _))))
            iterate 2 (go_big_quiet_step (fail))
            (go_big_quiet_want; refine quiet_load_cell 61 _ rfl _ _ rfl _ (c1) (fun w h => by go_simp) ?_; simp only [Act.put, List.setIfInBounds_toArray, List.set_cons_zero, List.set_cons_succ]; go_big_quiet_on)
            iterate 2 (go_big_quiet_step (fail))
            (go_big_quiet_want; refine quiet_load_cell 3 _ rfl _ _ rfl _ (c6) (fun w h => by go_simp) ?_; simp only [Act.put, List.setIfInBounds_toArray, List.set_cons_zero, List.set_cons_succ]; go_big_quiet_on)
            go_big_quiet_step (fail)
            (go_big_quiet_want; go_big_quiet_op; go_big_quiet_call ((go_at_call 48; exact Calls.bw (CC2.out _))))
            iterate 2 (go_big_quiet_step (fail))
            refine wpQuiet_nil ?_; rintro w' ⟨X, rfl⟩
            have HBX := hid (HBB.out.trans (X.2.mono HBB.out.size))
            go_wp2
            go_ret
            exact ⟨by rw [HCF.out]; rfl, HBX.out⟩
          | false =>
            refine wp_region_bw (by kernel_rfl) (by kernel_rfl) ?_
            go_big_quiet_step (fail)
            (go_big_quiet_want; refine quiet_load_cell 61 _ rfl _ _ rfl _ (c1) (fun w h => by go_simp) ?_; simp only [Act.put, List.setIfInBounds_toArray, List.set_cons_zero, List.set_cons_succ]; go_big_quiet_on)
            iterate 2 (go_big_quiet_step (fail))
            (go_big_quiet_want; refine quiet_load_cell 3 _ rfl _ _ rfl _ (c2) (fun w h => by go_simp) ?_; simp only [Act.put, List.setIfInBounds_toArray, List.set_cons_zero, List.set_cons_succ]; go_big_quiet_on)
            (go_big_quiet_want; refine quiet_load_cell 79 _ rfl _ _ rfl _ (c5) (fun w h => by go_simp) ?_; simp only [Act.put, List.setIfInBounds_toArray, List.set_cons_zero, List.set_cons_succ]; go_big_quiet_on)
            (go_big_quiet_want; go_big_quiet_op; go_big_quiet_call ((go_at_call 48; exact Calls.bw (CC1.out _))))
            iterate 10 (go_big_quiet_step (fail))
            refine wpQuiet_nil ?_; rintro w' ⟨X, rfl⟩
            have HBX := hid (HBB.out.trans (X.2.mono HBB.out.size))
            go_wp2
            go_ret
            exact ⟨by rw [HCF.out]; rfl, HBX.out⟩
end
end Go.Proofs.Ytmddhjoomlhbcaa
