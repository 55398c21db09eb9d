/- The ledger's walk: All. -/
import Derived.Test.YtnapfjgokeloeaaLedP
import Derived.Test.YtnapfjgokeloeaaAcc
namespace Go.Proofs.Ytnapfjgokeloeaa
open Go.RowKit

/-- The first entry that is refused. -/
def allX (T : List (Id8 × Ac)) : Nat → List En → Option (Nat × Int)
  | _, [] => none
  | k, e :: l => if payE T e.fr e.to e.amt = 0 then allX (payT T e.fr e.to e.amt) (k + 1) l else some (k, payE T e.fr e.to e.amt)
/-- Behind all of them. -/
def allT (T : List (Id8 × Ac)) : List En → List (Id8 × Ac)
  | [] => T
  | e :: l => allT (payT T e.fr e.to e.amt) l
theorem allT_app (T : List (Id8 × Ac)) (l m : List En) : allT T (l ++ m) = allT (allT T l) m := by
  induction l generalizing T with
  | nil => rfl
  | cons e l ih => exact ih _
theorem allX_app {T : List (Id8 × Ac)} {j : Nat} {l : List En} (h : allX T j l = none) (m : List En) : allX T j (l ++ m) = allX (allT T l) (j + l.length) m := by
  induction l generalizing T j with
  | nil => rfl
  | cons e l ih =>
    unfold allX at h
    by_cases h0 : payE T e.fr e.to e.amt = 0
    · rw [if_pos h0] at h
      rw [List.cons_append]
      show (if payE T e.fr e.to e.amt = 0 then _ else _) = _
      rw [if_pos h0, ih h, List.length_cons, show j + 1 + l.length = j + (l.length + 1) by omega]; rfl
    · rw [if_neg h0] at h; cases h
theorem payT_ok {T : List (Id8 × Ac)} (h : OkT T) (f t : Id8) (n : Int) : OkT (payT T f t n) := by
  unfold payT
  by_cases h0 : payE T f t n = 0
  · rw [if_pos h0]
    unfold payE at h0
    have hf := h f
    have ht := h t
    by_cases h1 : n < 1 ∨ 4611686018427387903 < n ∨ f = t
    · rw [if_pos h1] at h0; omega
    rw [if_neg h1] at h0
    by_cases h2 : (acOf T f).bal - n < -(acOf T f).lim
    · rw [if_pos h2] at h0; omega
    rw [if_neg h2] at h0
    by_cases h3 : 4611686018427387903 < (acOf T t).bal + n
    · rw [if_pos h3] at h0; omega
    unfold AcOk at hf ht
    refine OkT.put (OkT.put h f ?_) t ?_ <;> (unfold AcOk; dsimp only; omega)
  · rw [if_neg h0]; exact h
theorem allT_ok {T : List (Id8 × Ac)} (h : OkT T) (l : List En) : OkT (allT T l) := by
  induction l generalizing T with
  | nil => exact h
  | cons e l ih => exact ih (payT_ok h _ _ _)
theorem setRow_alloc2 (u : World) (cur vs : Array Value) (t : TypeId) (B : Obj) : ((u.alloc (.cells cur t)).alloc B).setRow u.heap.size vs = (u.alloc (.cells vs t)).alloc B := by
  simp only [World.setRow, World.alloc]
  congr 1
  apply Array.ext_getElem?
  intro i
  rw [Array.getElem?_modify, Array.getElem?_push, Array.getElem?_push, Array.getElem?_push, Array.getElem?_push]
  by_cases h : u.heap.size = i
  · subst h
    simp
  · simp [h, Ne.symm h]
theorem setRow_alloc2n (u : World) (cur vs : Array Value) (t : TypeId) (A : Obj) : ((u.alloc A).alloc (.cells cur t)).setRow (u.heap.size + 1) vs = (u.alloc A).alloc (.cells vs t) := by
  have h := setRow_alloc (u.alloc A) cur vs t
  rwa [alloc_size] at h
theorem RowsAt.kp {α : Type} {s : Nat} {f : α → Array Value} {w w' : World} {A : Option Addr} {l : List α} {S : Nat → Prop} (h : RowsAt s f w A l) (hk : Kp S w w') (hA : ∀ g o, A = some ⟨g, o, none⟩ → ¬ S g) : RowsAt s f w' A l := by
  rcases h with h | ⟨g, o, h1, h2, h3⟩
  · exact .inl h
  · refine .inr ⟨g, o, h1, Nat.lt_of_lt_of_le h2 hk.size, fun i x hx j v hj => ?_⟩
    have h4 := h3 i x hx j v hj
    have h5 := hk.block g h2 (hA g o h1)
    unfold World.cell? at h4 ⊢
    rw [h5]; exact h4
theorem enE_get (x : En) : (∀ (j : Nat) v, (bys x.fr.1)[j]? = some v → (enE x)[j]? = some v) ∧ (∀ (j : Nat) v, (bys x.to.1)[j]? = some v → (enE x)[8 + j]? = some v) ∧ (enE x)[16]? = some (.int .i64 x.amt) := by
  have h1 : (bys x.fr.1).size = 8 := by rw [bys_size, x.fr.2.1]
  have h2 : (bys x.to.1).size = 8 := by rw [bys_size, x.to.2.1]
  unfold enE
  refine ⟨fun j v hj => ?_, fun j v hj => ?_, ?_⟩
  · have hl := (Array.getElem?_eq_some_iff.1 hj).1
    rw [Array.getElem?_push, if_neg (by rw [Array.size_append]; omega), Array.getElem?_append_left hl]; exact hj
  · have hl := (Array.getElem?_eq_some_iff.1 hj).1
    rw [Array.getElem?_push, if_neg (by rw [Array.size_append]; omega), Array.getElem?_append_right (by omega), h1, show 8 + j - 8 = j by omega]; exact hj
  · rw [Array.getElem?_push, if_pos (by rw [Array.size_append]; omega)]
/-- An entry in a box: its parts. -/
theorem box_fr {w : World} {g o : Nat} {x : En} (h : CellsAt w g o (enE x)) : CellsAt w g o (bys x.fr.1) := fun j v hj => h j v ((enE_get x).1 j v hj)
theorem box_to {w : World} {g o : Nat} {x : En} (h : CellsAt w g o (enE x)) : CellsAt w g (o + 8) (bys x.to.1) := fun j v hj => by rw [Nat.add_assoc]; exact h (8 + j) v ((enE_get x).2.1 j v hj)
theorem box_amt {w : World} {g o : Nat} {x : En} (h : CellsAt w g o (enE x)) : w.cell? ⟨g, o + 16, none⟩ = some (.int .i64 x.amt) := h 16 _ (enE_get x).2.2
theorem box_cells {w : World} {g : Nat} {cs : Array Value} {t : TypeId} {fr : Nat × Nat} (h : w.heap[g]? = some (.cells cs t fr)) : CellsAt w g 0 cs := fun j v hj => by rw [Nat.zero_add]; exact row_cell h j v hj
theorem acV_ones (a : Ac) : ∀ v ∈ (acV a).toList, v.oneCell' = true := by intro v hv; simp [acV] at hv; rcases hv with rfl | rfl <;> rfl
/-- What All leaves. -/
def AllPost (w w' : World) (p b : Nat) (v : Value) (T2 : List (Id8 × Ac)) (E2 : List En) : Prop :=
  ∃ b' v', LedAt w' p b' T2 v' E2 ∧ Kp (LOwn p b v) w w' ∧ ∀ k, LOwn p b' v' k → LOwn p b v k ∨ w.heap.size ≤ k
set_option maxRecDepth 100000 in
set_option maxHeartbeats 8000000 in
theorem all_none (A : Option Addr) (l : List En) (c : Nat) (w : World) : Calls Try.prog 18 #[.pointer none, .slice A l.length c] w fun e w' => e = .returned (.tuple #[.int .i64 0, .int .i64 2]) ∧ w' = w := by
  go_enter Try.func18, Try.ntmps18
  go_wp2_with (go_at_call 32; refine (there_nil _).mono ?_; rintro e w2 ⟨rfl, rfl⟩)
  refine bodyPost_ret (results_tmp2 rfl _ _ _) rfl ?_
  exact ⟨rfl, rfl⟩
set_option maxRecDepth 100000 in
set_option maxHeartbeats 8000000 in
theorem all_any {w : World} {p b : Nat} {T : List (Id8 × Ac)} {v : Value} {E : List En} (h : LedAt w p b T v E) (hok : OkT T) (l : List En) (hl : ∀ x ∈ l, -9223372036854775808 ≤ x.amt ∧ x.amt ≤ 9223372036854775807) (A : Option Addr) (c : Nat)
    (hr : RowsAt 17 enE w A l) (hA : ∀ g o, A = some ⟨g, o, none⟩ → ¬ LOwn p b v g) (hE : E.length + l.length ≤ 4398046511104) :
    Calls Try.prog 18 #[.pointer (some ⟨p, 0, none⟩), .slice A l.length c] w fun e w' =>
      (allX T 0 l = none → e = .returned (.tuple #[.int .i64 0, .int .i64 0]) ∧ AllPost w w' p b v (allT T l) (E ++ l)) ∧
      ∀ k x, allX T 0 l = some (k, x) → e = .returned (.tuple #[.int .i64 k, .int .i64 x]) ∧ AllPost w w' p b v T E := by
  have HL := hid h
  have KT := hid (there_any h)
  have hpc := h.cell0
  have hmm := @run_makeMap Try.prog
  have HOK := hid hok
  have HLL := hid hl
  have HR := hid hr
  have HA := hid hA
  obtain ⟨m, clk, U, hm, hUT, hid', hval, hnd, hbn, hlt⟩ := h.acc
  have hB : ∀ e ∈ m, ∃ q ∈ T, e.id = q.1.1 ∧ e.val = .agg (acV q.2) := fun e he => by
    obtain ⟨i, hi⟩ := List.mem_iff_getElem?.1 he
    have h1 : (m.map Ent.id)[i]? = some e.id := by rw [List.getElem?_map, hi]; rfl
    have h2 : (m.map Ent.val)[i]? = some e.val := by rw [List.getElem?_map, hi]; rfl
    rw [hid', List.getElem?_map] at h1
    rw [hval, List.getElem?_map] at h2
    cases hq : U[i]? with
    | none => rw [hq] at h1; cases h1
    | some q =>
      rw [hq] at h1 h2
      simp only [Option.map_some, Option.some.injEq] at h1 h2
      exact ⟨q, hUT.mem_iff.1 (List.mem_of_getElem? hq), h1.symm, h2.symm⟩
  have hB2 : ∀ q ∈ T, ∃ e ∈ m, e.id = q.1.1 := fun q hq => by
    have h1 : q.1.1 ∈ U.map (fun p => p.1.1) := List.mem_map.2 ⟨q, hUT.mem_iff.2 hq, rfl⟩
    rw [← hid'] at h1
    obtain ⟨e, he, h2⟩ := List.mem_map.1 h1
    exact ⟨e, he, h2⟩
  have hmid : (m.map Ent.id).Nodup := by
    rw [hid']
    have h1 : ((Keys U).map Subtype.val).Nodup := by
      refine List.pairwise_map.2 (hnd.imp fun h e => h (Subtype.ext e))
    unfold Keys at h1
    rw [List.map_map] at h1; exact h1
  have hTn := h.acc.nodup
  have HHB := hid hB
  have HH2 := hid hB2
  have HMN := hid hmid
  have HTN := hid hTn
  have hpb : p < w.heap.size ∧ b < w.heap.size := ⟨heap_lt h.blk, h.acc.lt⟩
  have HPB := hid hpb
  have HEL := hid hE
  have hll : l.length ≤ 4398046511104 := by omega
  clear h hid' hval hnd hUT hB hB2 hmid hTn hok hl hr hA hpb hE
  go_enter Try.func18, Try.ntmps18
  have hm2 : mapAt (w.alloc (.map #[] 0)) .u8 b m clk := (Below.heap_alloc _ _ _ HPB.out.2).trans hm
  have hpc2 : (w.alloc (.map #[] 0)).cell? ⟨p, 0, none⟩ = some (.map (some b)) := (((Below.refl w.heap.size w).alloc (Nat.le_refl _) (.map #[] 0)).cell (p := ⟨p, 0, none⟩) HPB.out.1).trans hpc
  clear hm hpc
  go_wp2_with (first | (go_at_call 32; refine KT.out.mono ?_; rintro e w2 ⟨rfl, hw⟩; obtain rfl := hw.symm) | (at_range; refine wpList_range_ids rfl _ rfl Try.underlying56 b m clk rfl hm2 hbn hlt ?_))
  intro w2 hrg hg2 hs2
  have B2 : Hid (Below w.heap.size w w2) := hid (((Below.refl _ _).alloc (Nat.le_refl _) _).grown hg2 (by simp) (fun _ e => by cases e))
  have HM2 : Hid (MapIs accV w2 w.heap.size []) := hid ((MapIs.new w).same (hg2.block w.heap.size (by simp) (by simp)))
  have HRg := hid hrg
  clear hrg hg2 hs2 hpc2 hm2 hmm KT
  go_wp2_with fail
  obtain ⟨kr, hkr⟩ : ∃ kr, kr = w.heap.size + 1 := ⟨_, rfl⟩
  rw [← hkr] at HRg ⊢
  obtain ⟨km, hkm⟩ : ∃ km, km = w.heap.size := ⟨_, rfl⟩
  have HKM := hid hkm
  have HKR := hid hkr
  rw [← hkm] at HM2 ⊢
  clear hkm hkr
  go_loopw [7] (fun _ wr => ∃ (got : List Ent) (C : List (Id8 × Ac)), Hid (RgAt wr .u8 b kr m clk got) ∧ Hid (MapIs accV wr km C) ∧ Hid (got.map Ent.id = C.map (fun q => q.1.1) ∧ ∀ q ∈ C, q ∈ T) ∧ Hid (Below w.heap.size w wr)) (fun _ wr => wr.rangeLeft b kr)
  case atStart => exact ⟨[], [], HRg, HM2, hid ⟨rfl, by simp⟩, B2⟩
  case round =>
    obtain ⟨got, C, hR, hC, hGC, hBw⟩ := hrel
    go_wp2_with (at_next; refine wpList_next_ids rfl _ rfl b kr m got clk rfl hR.out ?_ ?_)
    · intro hall
      have hperm := hR.out.all hall
      have HCT : Hid (MapIs accV wr km T) := hid (hC.out.perm (by
        have hgn : (got.map Ent.id).Nodup := (hperm.map _).nodup_iff.2 HMN.out
        have hck : (Keys C).Nodup := by
          rw [hGC.out.1] at hgn
          have h1 : ((Keys C).map Subtype.val).Nodup := by unfold Keys; rw [List.map_map]; exact hgn
          exact nodup_of_map h1
        have hcn : C.Nodup := nodup_of_map hck
        refine (List.perm_ext_iff_of_nodup hcn (nodup_of_map HTN.out)).2 fun q => ⟨hGC.out.2 q, fun hq => ?_⟩
        obtain ⟨e, he, h1⟩ := HH2.out q hq
        have h2 : e.id ∈ got.map Ent.id := List.mem_map_of_mem (hall e he)
        rw [hGC.out.1] at h2
        obtain ⟨q', hq', h3⟩ := List.mem_map.1 h2
        have h4 : q'.1 = q.1 := Subtype.ext (h3.trans h1)
        have h5 : q' = q := inj_of_nodup HTN.out (hGC.out.2 q' hq') hq h4
        exact h5 ▸ hq'))
      clear hperm hall hR hC hGC HHB HH2 HMN HTN
      have HL2 := hid (HL.out.kept hBw.out)
      have hc1 := HL2.out.cell1
      obtain ⟨av, cv, hv⟩ := HL2.out.ent.shape
      rw [hv] at hc1
      have HV := hid hv
      clear hv
      go_wp2_with fail
      obtain ⟨nE, hnE⟩ : ∃ nE, nE = E.length := ⟨_, rfl⟩
      have HNE := hid hnE
      rw [← hnE] at hc1 ⊢
      clear hnE
      go_loopw [37] (fun i wr => ∃ (k : Nat) (v1 : Value), k ≤ l.length ∧ i = .int .i64 k ∧ Hid (LedAt wr p b (allT T (l.take k)) v1 (E ++ l.take k)) ∧ Hid (allX T 0 (l.take k) = none) ∧ Hid (MapIs accV wr km T) ∧ Hid (Kp (LOwn p b v) w wr) ∧ Hid (∀ k, LOwn p b v1 k → LOwn p b v k ∨ w.heap.size ≤ k)) (fun i _ => l.length - (intOf i).toNat)
      case atStart => exact ⟨0, v, by omega, rfl, hid (by rw [List.take_zero, List.append_nil]; exact HL2.out), hid rfl, HCT, hid ((Kp.refl _ _).below hBw.out), hid (fun k h => .inl h)⟩
      case round =>
        clear hc1 HL2 HCT
        obtain ⟨k, v1, hk, rfl, hL, hX, hM, hK, hO⟩ := hrel
        have HKL := hid hk
        by_cases hlt : k < l.length
        · obtain ⟨x, hx⟩ : ∃ x, l[k]? = some x := ⟨l[k], by simp [hlt]⟩
          obtain ⟨gg, o, rfl, hgg, hcc⟩ := (HR.out.kp hK.out HA.out).get hx
          have HC : Hid (CellsAt wr gg (o + k * 17) (enE x)) := hid (by rw [Nat.mul_comm]; exact hcc)
          have HE17 := hid (enE_size x)
          have hbx := (Below.refl wr.heap.size wr).alloc (Nat.le_refl _) (.cells (enE x) 35)
          have HBX := hid hbx
          have hLx := hL.out.kept hbx
          have hbox : CellsAt (wr.alloc (.cells (enE x) 35)) wr.heap.size 0 (enE x) := box_cells (heap_alloc_new _ _)
          have HB1 := hid (box_fr hbox)
          have HB2 : Hid (CellsAt (wr.alloc (.cells (enE x) 35)) wr.heap.size 8 (bys x.to.1)) := hid (by have := box_to hbox; rwa [Nat.zero_add] at this)
          have hb3 : (wr.alloc (.cells (enE x) 35)).cell? ⟨wr.heap.size, 16, none⟩ = some (.int .i64 x.amt) := by have := box_amt hbox; rwa [Nat.zero_add] at this
          have hxm := HLL.out x (List.mem_of_getElem? hx)
          have KP := hid (pay_any x.fr x.to x.amt hxm hLx (allT_ok HOK.out _) (by rw [List.length_append, List.length_take]; have := HEL.out; omega))
          have HKM1 : Hid (km ≠ p ∧ km ≠ b) := hid (by have := HKM.out; have := HPB.out; omega)
          have HM1 : Hid (MapIs accV (wr.alloc (.cells (enE x) 35)) km T) := hid (hM.out.kept hbx)
          have HKx := hid (hK.out.below hbx)
          have HNO : Hid (¬ LOwn p b v1 km) := hid (by
            rintro (h1 | h1 | h1)
            · exact HKM1.out.1 h1
            · exact HKM1.out.2 h1
            · obtain ⟨cur, h2⟩ := hLx.ent.type h1
              obtain ⟨ob, h3, h4⟩ := HM1.out.obj
              rw [h2] at h3; cases h3; cases h4)
          have HX1 := hid hx
          have hxs : l.take (k + 1) = l.take k ++ [x] := by
            obtain ⟨hk', e⟩ := List.getElem?_eq_some_iff.1 hx
            rw [← e, List.take_succ_eq_append_getElem hk']
          have HXS := hid hxs
          clear hx hcc hbox hxm hbx hLx hgg hxs hk
          obtain ⟨be, hbe⟩ : ∃ be, be = payE (allT T (l.take k)) x.fr x.to x.amt := ⟨_, rfl⟩
          rw [← hbe] at KP
          have HBE := hid hbe
          clear hbe
          by_cases h0 : be = 0
          · subst h0
            go_wp2_with (first | (refine wpList_load_cells rfl 35 _ rfl _ _ rfl _ _ HC.out Try.underlying35 rfl (enE_info x) ?_) | (refine wpList_store_row rfl 35 _ _ rfl _ rfl _ rfl _ _ (heap_alloc_new _ _) (by rw [HE17.out]; rfl) (enE_ones x) (enE_info x) _ (setRow_alloc _ _ _ _) ?_) | (refine wpList_load_cells rfl 33 _ rfl _ _ rfl _ _ HB1.out Try.underlying33 rfl (idV_info x.fr) ?_) | (refine wpList_load_cells rfl 33 _ rfl _ _ rfl _ _ HB2.out Try.underlying33 rfl (idV_info x.to) ?_) | (go_at_call 21; refine KP.out.mono ?_; rintro e5 w5 ⟨rfl, hp5⟩; have HP5 := hid hp5; clear hp5))
            have HP6 := HP5.out
            obtain ⟨v2, hl2, hk2, ho2⟩ := HP6
            refine ⟨⟨k + 1, v2, by omega, by go_num, hid ?_, hid ?_, hid (HM1.out.same (hk2.block km HM1.out.lt HNO.out)), hid (HKx.out.trans hk2 (fun j hj h => ?_)), hid (fun j h => ?_)⟩, by simp [intOf]; omega⟩
            · rw [HXS.out, allT_app, ← List.append_assoc]
              have h1 := hl2
              unfold payN at h1
              rw [if_pos HBE.out.symm] at h1
              exact h1
            · rw [HXS.out, allX_app hX.out]
              show (if payE _ x.fr x.to x.amt = 0 then _ else _) = none
              rw [if_pos HBE.out.symm]; rfl
            · rcases hO.out j h with h | h
              · exact h
              · omega
            · rcases ho2 j h with h | h
              · exact hO.out j h
              · right
                have := HKx.out.size; omega
          · have hb0 : (be != 0) = true := by simpa using h0
            have HN0 := hid h0
            clear h0
            go_wp2_with (first | (refine wpList_load_cells rfl 35 _ rfl _ _ rfl _ _ HC.out Try.underlying35 rfl (enE_info x) ?_) | (refine wpList_store_row rfl 35 _ _ rfl _ rfl _ rfl _ _ (heap_alloc_new _ _) (by rw [HE17.out]; rfl) (enE_ones x) (enE_info x) _ (setRow_alloc _ _ _ _) ?_) | (refine wpList_load_cells rfl 33 _ rfl _ _ rfl _ _ HB1.out Try.underlying33 rfl (idV_info x.fr) ?_) | (refine wpList_load_cells rfl 33 _ rfl _ _ rfl _ _ HB2.out Try.underlying33 rfl (idV_info x.to) ?_) | (go_at_call 21; refine KP.out.mono ?_; rintro e5 w5 ⟨rfl, hp5⟩; have HP5 := hid hp5; clear hp5))
            have HPL : Hid (∃ a2 c2, LedAt w5 p b (allT T (l.take k)) (.slice a2 (E.length + k) c2) (E ++ l.take k) ∧ Kp (LOwn p b v1) (wr.alloc (.cells (enE x) 35)) w5 ∧ ∀ j, LOwn p b (.slice a2 (E.length + k) c2) j → LOwn p b v1 j ∨ (wr.alloc (.cells (enE x) 35)).heap.size ≤ j) := hid (by
              obtain ⟨v2, hl2, hk2, ho2⟩ := HP5.out
              have hne : ¬ payE (allT T (l.take k)) x.fr x.to x.amt = 0 := fun e => HN0.out (HBE.out.trans e)
              unfold payT payN at hl2
              rw [if_neg hne, if_neg hne] at hl2
              obtain ⟨a2, c2, hv2⟩ := hl2.ent.shape
              rw [List.length_append, List.length_take, Nat.min_eq_left HKL.out] at hv2
              rw [hv2] at hl2 ho2
              exact ⟨a2, c2, hl2, hk2, ho2⟩)
            obtain ⟨a2, c2, hl2, hk2, ho2⟩ := HPL.out
            obtain ⟨W5, hW5⟩ : ∃ W5, W5 = w5.drew := ⟨_, rfl⟩
            have HL5 := hid (hW5 ▸ hl2.kept (Below.refl _ _).drew)
            have HK5 : Hid (Kp (LOwn p b v1) (wr.alloc (.cells (enE x) 35)) W5) := hid (hW5 ▸ hk2.drew)
            have HM5 : Hid (MapIs accV W5 km T) := hid (HM1.out.same (HK5.out.block km HM1.out.lt HNO.out))
            have HO2 := hid ho2
            have hcap : nE ≤ c2 ∧ (a2 = none → nE = 0) := by
              obtain ⟨_, a', c', e1, h1⟩ := HL5.out.ent
              simp only [Value.slice.injEq] at e1
              obtain ⟨rfl, _, rfl⟩ := e1
              have := HNE.out
              rcases h1 with ⟨rfl, h3, h4⟩ | ⟨g, cur, rfl, _, _, h4, _⟩
              · rw [List.length_append] at h3; exact ⟨by omega, fun _ => by omega⟩
              · rw [List.length_append, List.length_take] at h4; exact ⟨by omega, fun h => by cases h⟩
            have HCA := hid hcap
            have hcp1 := hcap.1
            have hc5 := HL5.out.cell1
            have hz5 : W5.frozen? ⟨p, 0, none⟩ = false := free_row HL5.out.blk 0
            have hc50 := HL5.out.cell0
            have hp6 : (W5.setCell ⟨p, 0, none⟩ (.map (some km))).heap[p]? = some (.cells #[.map (some km), .slice a2 (E.length + k) c2] 58 (0, 0)) := by rw [row_setCell HL5.out.blk]; rfl
            have HP6 := hid hp6
            have hz6 : (W5.setCell ⟨p, 0, none⟩ (.map (some km))).frozen? ⟨p, 1, none⟩ = false := free_row hp6 1
            have hc6 : (W5.setCell ⟨p, 0, none⟩ (.map (some km))).cell? ⟨p, 1, none⟩ = some (.slice a2 (E.length + k) c2) := row_cell hp6 1 _ rfl
            have HFIN : Hid (AllPost w ((W5.setCell ⟨p, 0, none⟩ (.map (some km))).setCell ⟨p, 1, none⟩ (.slice a2 nE nE)) p b v T E) := hid (by
              have hpp : km ≠ p := HKM1.out.1
              have hne2 : ∀ g, (Value.slice a2 (E.length + k) c2).ownBlock = some g → g ≠ p := fun g hg e => HL5.out.ent_ne (.inl rfl) (by rw [hg, e])
              have hcut : Row W5 0 35 17 (.slice a2 nE nE) nE (fl enE E) := by
                have h1 := HL5.out.ent
                rw [List.length_append, List.length_take, Nat.min_eq_left HKL.out] at h1
                have h2 := h1.cut (m := nE) (c := nE) (by have := HNE.out; omega) (Nat.le_refl _) HCA.out.1 HCA.out.2
                have h3 : (fl enE (E ++ l.take k)).take (nE * 17) = fl enE E := by
                  rw [fl_append, List.take_append_of_le_length (by rw [fl_len enE_size, HNE.out]; exact Nat.le_refl _), List.take_of_length_le (by rw [fl_len enE_size, HNE.out]; exact Nat.le_refl _)]
                rw [h3] at h2; exact h2
              refine ⟨km, .slice a2 nE nE, ⟨?_, ?_, ?_⟩, ?_, ?_⟩
              · rw [row_setCell HP6.out]; rfl
              · exact HM5.out.same (by rw [heap_setCell_ne hpp, heap_setCell_ne hpp])
              · rw [← HNE.out]
                exact hcut.other fun g hg => by
                  rw [heap_setCell_ne (hne2 g (by cases a2 <;> exact hg)), heap_setCell_ne (hne2 g (by cases a2 <;> exact hg))]
              · refine (((HKx.out.trans HK5.out (fun j hj h => ?_)).setCell (.inl (.inl rfl)) _ _).setCell (.inl (.inl rfl)) _ _)
                rcases hO.out j h with h | h
                · exact h
                · omega
              · rintro j (h | h | h)
                · exact .inl (.inl h)
                · right; have := HKM.out; omega
                · rcases HO2.out j (.inr (.inr (by cases a2 <;> exact h))) with h | h
                  · exact hO.out j h
                  · right; have := HKx.out.size; omega)
            have HXF : Hid (∀ k' x', allX T 0 l = some (k', x') → k' = k ∧ x' = be) := hid (fun k' x' h => by
              have h1 : l = l.take k ++ l.drop k := (List.take_append_drop k l).symm
              rw [h1, allX_app hX.out, List.length_take, Nat.min_eq_left HKL.out] at h
              obtain ⟨hk', e⟩ := List.getElem?_eq_some_iff.1 HX1.out
              rw [List.drop_eq_getElem_cons hk', e] at h
              have h2 : (if payE (allT T (l.take k)) x.fr x.to x.amt = 0 then allX (payT (allT T (l.take k)) x.fr x.to x.amt) (0 + k + 1) (l.drop (k + 1)) else some (0 + k, payE (allT T (l.take k)) x.fr x.to x.amt)) = some (k', x') := h
              rw [if_neg (fun e => HN0.out (HBE.out.trans e)), ← HBE.out] at h2
              cases h2
              exact ⟨by omega, rfl⟩)
            have HXN : Hid (¬ allX T 0 l = none) := hid (fun h => by
              have h1 : l = l.take k ++ l.drop k := (List.take_append_drop k l).symm
              rw [h1, allX_app hX.out, List.length_take, Nat.min_eq_left HKL.out] at h
              obtain ⟨hk', e⟩ := List.getElem?_eq_some_iff.1 HX1.out
              rw [List.drop_eq_getElem_cons hk', e] at h
              have h2 : (if payE (allT T (l.take k)) x.fr x.to x.amt = 0 then allX (payT (allT T (l.take k)) x.fr x.to x.amt) (0 + k + 1) (l.drop (k + 1)) else some (0 + k, payE (allT T (l.take k)) x.fr x.to x.amt)) = none := h
              rw [if_neg (fun e => HN0.out (HBE.out.trans e)), ← HBE.out] at h2
              cases h2)
            clear hl2 hk2 ho2 hcap hp6 hw
            refine wp_region_held_drew (S := fun _ => True) (by kernel_rfl) trivial ?_
            rw [← hW5]
            intro hHeld
            clear hW5
            refine wpAnyH_take (i := 0) (oi := _) (v := ?_) rfl (by kernel_rfl) (by kernel_rfl) (by kernel_rfl) (fun _ _ _ h => h) (Or.inl ⟨by rfl, ?_⟩) (by assumption) ?_
            rotate_left
            · intro w hSw
              try dsimp only at hSw
              first | (go_simp; done) | (go_simp; with_reducible rfl)
            (try simp only [Act.put, List.getElem_toArray, List.getElem_cons_zero]); (try simp only [List.setIfInBounds_toArray]); (try simp only [List.set_cons_succ]); (try simp only [List.set_cons_zero])
            refine wpAnyH_take (i := 1) (oi := _) (v := ?_) rfl (by kernel_rfl) (by kernel_rfl) (by kernel_rfl) (fun _ _ _ h => h) (Or.inl ⟨by rfl, ?_⟩) (by assumption) ?_
            rotate_left
            · intro w hSw
              try dsimp only at hSw
              first | (go_simp; done) | (go_simp; with_reducible rfl)
            (try simp only [Act.put, List.getElem_toArray, List.getElem_cons_succ, List.getElem_cons_zero]); (try simp only [List.setIfInBounds_toArray]); (try simp only [List.set_cons_succ]); (try simp only [List.set_cons_zero])
            refine wpAnyH_take (i := 2) (oi := _) (v := ?_) rfl (by kernel_rfl) (by kernel_rfl) (by kernel_rfl) (fun _ _ _ h => h) (Or.inl ⟨by rfl, ?_⟩) (by assumption) ?_
            rotate_left
            · intro w hSw
              try dsimp only at hSw
              first | (go_simp; done) | (go_simp; with_reducible rfl)
            (try simp only [Act.put, List.getElem_toArray, List.getElem_cons_succ, List.getElem_cons_zero]); (try simp only [List.setIfInBounds_toArray]); (try simp only [List.set_cons_succ]); (try simp only [List.set_cons_zero])
            refine wpAnyH_take (i := 3) (oi := _) (v := ?_) rfl (by kernel_rfl) (by kernel_rfl) (by kernel_rfl) (fun _ _ _ h => h) (Or.inl ⟨by rfl, ?_⟩) (by assumption) ?_
            rotate_left
            · intro w hSw
              try dsimp only at hSw
              first | (go_simp; done) | (go_simp; with_reducible rfl)
            (try simp only [Act.put, List.getElem_toArray, List.getElem_cons_succ, List.getElem_cons_zero]); (try simp only [List.setIfInBounds_toArray]); (try simp only [List.set_cons_succ]); (try simp only [List.set_cons_zero])
            refine wpAnyH_take (i := 4) (oi := _) (v := ?_) rfl (by kernel_rfl) (by kernel_rfl) (by kernel_rfl) (fun _ _ _ h => h) (Or.inl ⟨by rfl, ?_⟩) (by assumption) ?_
            rotate_left
            · intro w hSw
              try dsimp only at hSw
              first | (go_simp; done) | (go_simp; with_reducible rfl)
            (try simp only [Act.put, List.getElem_toArray, List.getElem_cons_succ, List.getElem_cons_zero]); (try simp only [List.setIfInBounds_toArray]); (try simp only [List.set_cons_succ]); (try simp only [List.set_cons_zero])
            refine wpAnyH_take (i := 5) (oi := _) (v := ?_) rfl (by kernel_rfl) (by kernel_rfl) (by kernel_rfl) (fun _ _ _ h => h) (Or.inl ⟨by rfl, ?_⟩) (by assumption) ?_
            rotate_left
            · intro w hSw
              try dsimp only at hSw
              first | (go_simp; done) | (go_simp; with_reducible rfl)
            (try simp only [Act.put, List.getElem_toArray, List.getElem_cons_succ, List.getElem_cons_zero]); (try simp only [List.setIfInBounds_toArray]); (try simp only [List.set_cons_succ]); (try simp only [List.set_cons_zero])
            refine wpAnyH_take (i := 7) (oi := _) (v := ?_) rfl (by kernel_rfl) (by kernel_rfl) (by kernel_rfl) (fun _ _ _ h => h) (Or.inl ⟨by rfl, ?_⟩) (by assumption) ?_
            rotate_left
            · intro w hSw
              try dsimp only at hSw
              first | (go_simp; done) | (go_simp; with_reducible rfl)
            (try simp only [Act.put, List.getElem_toArray, List.getElem_cons_succ, List.getElem_cons_zero]); (try simp only [List.setIfInBounds_toArray]); (try simp only [List.set_cons_succ]); (try simp only [List.set_cons_zero])
            refine wpAnyH_take (i := 8) (oi := _) (v := ?_) rfl (by kernel_rfl) (by kernel_rfl) (by kernel_rfl) (fun _ _ _ h => h) (Or.inl ⟨by rfl, ?_⟩) (by assumption) ?_
            rotate_left
            · intro w hSw
              try dsimp only at hSw
              first | (go_simp; done) | (go_simp; with_reducible rfl)
            (try simp only [Act.put, List.getElem_toArray, List.getElem_cons_succ, List.getElem_cons_zero]); (try simp only [List.setIfInBounds_toArray]); (try simp only [List.set_cons_succ]); (try simp only [List.set_cons_zero])
            refine wpAnyH_ready (rs := [6]) (by kernel_rfl) (by simp) ?_
            refine AllReadyH.cons rfl (fun K hK => ?_) AllReadyH.nil
            go_simp
            refine hK.out _ _ ?_ (fun hHeld => ?_)
            · trivial
            clear hK K
            (try simp only [Act.put, List.getElem_toArray, List.getElem_cons_succ, List.getElem_cons_zero]); (try simp only [List.setIfInBounds_toArray]); (try simp only [List.set_cons_succ]); (try simp only [List.set_cons_zero])
            refine wpAnyH_take (i := 9) (oi := _) (v := (.slice a2 nE nE)) rfl (by kernel_rfl) (by kernel_rfl) (by kernel_rfl) (fun _ _ _ h => h) (Or.inl ⟨by rfl, ?_⟩) (by assumption) ?_
            · intro w hSw
              go_simp
            (try simp only [Act.put, List.getElem_toArray, List.getElem_cons_succ, List.getElem_cons_zero]); (try simp only [List.setIfInBounds_toArray]); (try simp only [List.set_cons_succ]); (try simp only [List.set_cons_zero])
            refine wpAnyH_take (i := 10) (oi := _) (v := ?_) rfl (by kernel_rfl) (by kernel_rfl) (by kernel_rfl) (fun _ _ _ h => h) (Or.inl ⟨by rfl, ?_⟩) (by assumption) ?_
            rotate_left
            · intro w hSw
              try dsimp only at hSw
              first | (go_simp; done) | (go_simp; with_reducible rfl)
            (try simp only [Act.put, List.getElem_toArray, List.getElem_cons_succ, List.getElem_cons_zero]); (try simp only [List.setIfInBounds_toArray]); (try simp only [List.set_cons_succ]); (try simp only [List.set_cons_zero])
            refine wpAnyH_take (i := 11) (oi := _) (v := ?_) rfl (by kernel_rfl) (by kernel_rfl) (by kernel_rfl) (fun _ _ _ h => h) (Or.inl ⟨by rfl, ?_⟩) (by assumption) ?_
            rotate_left
            · intro w hSw
              try dsimp only at hSw
              first | (go_simp; done) | (go_simp; with_reducible rfl)
            (try simp only [Act.put, List.getElem_toArray, List.getElem_cons_succ, List.getElem_cons_zero]); (try simp only [List.setIfInBounds_toArray]); (try simp only [List.set_cons_succ]); (try simp only [List.set_cons_zero])
            refine wpAnyH_ready (rs := [12]) (by kernel_rfl) (by simp) ?_
            refine AllReadyH.cons rfl (fun K hK => ?_) AllReadyH.nil
            go_simp
            refine hK.out _ _ ?_ (fun hHeld => ?_)
            · trivial
            clear hK K
            (try simp only [Act.put, List.getElem_toArray, List.getElem_cons_succ, List.getElem_cons_zero]); (try simp only [List.setIfInBounds_toArray]); (try simp only [List.set_cons_succ]); (try simp only [List.set_cons_zero])
            refine wpAnyH_take (i := 13) (oi := _) (v := ?_) rfl (by kernel_rfl) (by kernel_rfl) (by kernel_rfl) (fun _ _ _ h => h) (Or.inl ⟨by rfl, ?_⟩) (by assumption) ?_
            rotate_left
            · intro w hSw
              try dsimp only at hSw
              first | (go_simp; done) | (go_simp; with_reducible rfl)
            (try simp only [Act.put, List.getElem_toArray, List.getElem_cons_succ, List.getElem_cons_zero]); (try simp only [List.setIfInBounds_toArray]); (try simp only [List.set_cons_succ]); (try simp only [List.set_cons_zero])
            refine wpAnyH_take (i := 14) (oi := _) (v := ?_) rfl (by kernel_rfl) (by kernel_rfl) (by kernel_rfl) (fun _ _ _ h => h) (Or.inl ⟨by rfl, ?_⟩) (by assumption) ?_
            rotate_left
            · intro w hSw
              try dsimp only at hSw
              first | (go_simp; done) | (go_simp; with_reducible rfl)
            (try simp only [Act.put, List.getElem_toArray, List.getElem_cons_succ, List.getElem_cons_zero]); (try simp only [List.setIfInBounds_toArray]); (try simp only [List.set_cons_succ]); (try simp only [List.set_cons_zero])
            refine wpAnyH_ready (rs := [15]) (by kernel_rfl) (by simp) ?_
            refine AllReadyH.cons rfl (fun K hK => ?_) AllReadyH.nil
            go_simp
            refine hK.out _ _ ?_ (fun hHeld => ?_)
            · trivial
            clear hK K
            (try simp only [Act.put, List.getElem_toArray, List.getElem_cons_succ, List.getElem_cons_zero]); (try simp only [List.setIfInBounds_toArray]); (try simp only [List.set_cons_succ]); (try simp only [List.set_cons_zero])
            refine wpAnyH_done (by kernel_rfl) ?_ _
            clear hHeld
            go_wp2
            refine bodyPost_ret (results_tmp2 rfl _ _ _) rfl ?_
            refine ⟨fun h => (HXN.out h).elim, fun k' x' h => ?_⟩
            obtain ⟨rfl, rfl⟩ := HXF.out k' x' h
            exact ⟨rfl, HFIN.out⟩
        · obtain rfl : k = l.length := by omega
          have HX2 := hid hX.out
          rw [List.take_length] at hL HX2
          have HFN : Hid (∀ k x, allX T 0 l = some (k, x) → False) := hid (fun k x h => by rw [HX2.out] at h; cases h)
          clear hX
          go_wp2
          refine bodyPost_ret (results_tmp2 rfl _ _ _) rfl ?_
          exact ⟨fun _ => ⟨rfl, b, v1, hL.out, hK.out, hO.out⟩, fun k x h => (HFN.out k x h).elim⟩
    · intro e w3 he hne hR3 hg3 hs3 hl3 hent
      obtain ⟨q, hqT, hq1, hq2⟩ := HHB.out e he
      rw [keyV_bys', hq1, hq2] at hent ⊢
      have hB3 : Hid (Below w.heap.size w w3) := hid (hBw.out.grown hg3 hBw.out.size (fun k e => by cases e; have := HKR.out; omega))
      have hkm3 : Hid (km ≠ kr) := hid (by have := HKR.out; have := HKM.out; omega)
      have HC3 : Hid (MapIs accV w3 km C) := hid (hC.out.same (hg3.block km hC.out.lt (by intro e; cases e; exact hkm3.out rfl)))
      have hqC : q.1 ∉ Keys C := fun h1 => hne (by
        obtain ⟨q', hq', h2⟩ := List.mem_map.1 h1
        have h3 : e.id ∈ got.map Ent.id := by rw [hGC.out.1]; exact List.mem_map.2 ⟨q', hq', by rw [h2, hq1]⟩
        obtain ⟨e', he', h4⟩ := List.mem_map.1 h3
        have h5 : e' = e := inj_of_nodup HMN.out (hR.out.sub e' he') he h4
        exact h5 ▸ he')
      obtain ⟨w5, hput, hM5, hg5⟩ := ((HC3.out.kept ((Below.refl w3.heap.size w3).alloc (Nat.le_refl _) (.cells (bys q.1.1) 33))).kept ((Below.refl _ _).alloc (Nat.le_refl _) (.cells (acV q.2) 62))).put keyId Try.underlying56 q.1 q.2
      have hp2 : (putM C q.1 q.2).Perm (C ++ [q]) := by
        unfold putM
        rw [delM_none hqC]
        exact (List.perm_append_comm (l₁ := [q]) (l₂ := C))
      have HM5 := hid (hM5.perm hp2)
      have HB5 : Hid (Below w.heap.size w w5) := hid (((hB3.out.alloc hB3.out.size _).alloc (by have := hB3.out.size; simp; omega) _).grown hg5 (by have := hB3.out.size; simp; omega) (fun k e => by cases e; have := HKM.out; omega))
      have hrb : w5.heap[b]? = w3.heap[b]? ∧ w5.heap[kr]? = w3.heap[kr]? := by
        have hlt3 := hR3.lt
        have hbm : b ≠ km := by have := HPB.out.2; have := HKM.out; omega
        refine ⟨(hg5.block b (by simp; omega) (by intro e; cases e; exact hbm rfl)).trans ((Below.heap_alloc _ _ _ (by simp; omega)).trans (Below.heap_alloc _ _ _ hlt3.2)), (hg5.block kr (by simp; omega) (by intro e; cases e; exact hkm3.out rfl)).trans ((Below.heap_alloc _ _ _ (by simp; omega)).trans (Below.heap_alloc _ _ _ hlt3.1))⟩
      have HR5 := hid (hR3.kept hrb.1 hrb.2)
      have HL5 : Hid (w5.rangeLeft b kr < wr.rangeLeft b kr) := hid (by rw [rangeLeft_same hrb.1 hrb.2]; exact hl3)
      have HGC : Hid ((got ++ [e]).map Ent.id = (C ++ [q]).map (fun q => q.1.1) ∧ ∀ r ∈ C ++ [q], r ∈ T) := hid ⟨by rw [List.map_append, List.map_append, hGC.out.1]; simp [hq1], fun r hr => by
        rcases List.mem_append.1 hr with h1 | h1
        · exact hGC.out.2 r h1
        · simp at h1; rw [h1]; exact hqT⟩
      have HX8 : Hid ((bys q.1.1).size = 8) := hid (by rw [bys_size, q.1.2.1])
      have HXA : Hid ((acV q.2).size = 2) := hid rfl
      have hput' : (Instr.mapUpdate 56 (.map (some km)) (.agg (bys q.1.1)) (.agg (acV q.2))).run Try.prog ((w3.alloc (.cells (bys q.1.1) 33)).alloc (.cells (acV q.2) 62)) = .ok () w5 := hput
      clear hs3 hl3 hg3 hR3 he hne hqC hM5 hg5 hp2 hrb hq1 hq2 hqT hput
      go_wp2_with (first | (refine wpList_store_row rfl 33 _ _ rfl _ rfl _ rfl _ _ (heap2_old _ _ _ _) (by rw [HX8.out]; rfl) (bys_one _) (idV_info q.1) _ (setRow_alloc2 _ _ _ _ _) ?_) | (refine wpList_store_row rfl 62 _ _ rfl _ rfl _ rfl _ _ (heap2_new _ _ _ _) (by rw [HXA.out]; rfl) (acV_ones _) (acc_info q.2) _ (setRow_alloc2n _ _ _ _ _) ?_) | (refine wpList_load_w rfl 33 _ rfl _ rfl _ _ _ _ (heap2_old _ _ _ _) Try.underlying33 rfl (idV_info q.1) ?_) | (refine wpList_load_w rfl 62 _ rfl _ rfl _ _ _ _ (heap2_new _ _ _ _) Try.underlying62 rfl (acc_info q.2) ?_))
      exact ⟨⟨got ++ [e], C ++ [q], HR5, HM5, HGC, HB5⟩, HL5.out⟩
end Go.Proofs.Ytnapfjgokeloeaa
