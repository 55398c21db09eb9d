/- All of a set, ranged over. -/
import Derived.Test.YtkaalppmheikgaaSetS
import Derived.Test.YtkaalppmheikgaaMapRg
import Derived.Test.YtkaalppmheikgaaSlB1
import Derived.Test.YtkaalppmheikgaaKo
import Derived.Test.YtkaalppmheikgaaSrt
import Derived.RangeFuncNested
import Derived.RangeFuncBound
import Derived.RangeFuncCalls
import Derived.RangeFuncLeaves
import Derived.RangeFuncBox
import Derived.Shelf.Abstract
import Derived.Shelf.RegionOpen
import Derived.WalkKit
import Derived.OwnWalkIn
import Derived.TacticsInMore
import Derived.LoopNIn
import Derived.LoopIn
import Derived.Laws.IdiomRangeMap
namespace Go.Proofs.Ytkaalppmheikgaa
open Go.RowKit Go.Shelf
attribute [local go_sem] Oper.semAt_some

theorem flatB_len {l : List (List Int)} (hB : ∀ x ∈ l, B8 x) : (flatB l).length = l.length * 8 := by
  unfold flatB
  induction l with
  | nil => simp
  | cons a l ih =>
    rw [List.flatMap_cons, List.length_append, ih fun x hx => hB x (List.mem_cons_of_mem _ hx), Array.length_toList, bys_size, (hB a List.mem_cons_self).1, List.length_cons]
    omega
theorem flatB_snoc (l : List (List Int)) (x : List Int) : flatB (l ++ [x]) = flatB l ++ (bys x).toList := by unfold flatB; simp
theorem flatB_get {l : List (List Int)} (hB : ∀ x ∈ l, B8 x) {i r : Nat} {x : List Int} (h : l[i]? = some x) (hr : r < 8) : (flatB l)[i * 8 + r]? = (bys x)[r]? := by
  unfold flatB
  induction l generalizing i with
  | nil => simp at h
  | cons a l ih =>
    have ha : (bys a).toList.length = 8 := by rw [Array.length_toList, bys_size, (hB a List.mem_cons_self).1]
    rw [List.flatMap_cons]
    cases i with
    | zero =>
      obtain rfl : a = x := by simpa using h
      rw [Nat.zero_mul, Nat.zero_add, List.getElem?_append_left (by omega), Array.getElem?_toList]
    | succ i =>
      rw [List.getElem?_append_right (by omega), ha, ← ih (fun x hx => hB x (List.mem_cons_of_mem _ hx)) (by simpa using h)]
      congr 1
      omega
/-- The row's block, element by element. -/
theorem own_ids {w : World} {base g n cap : Nat} {e : TypeId} {l : List (List Int)} (hB : ∀ x ∈ l, B8 x) (ho : w.ownsRow base e 8 (.slice (some ⟨g, 0, none⟩) n cap) n (flatB l)) :
    ∃ cur, w.heap[g]? = some (.cells cur e (0, 0)) ∧ base ≤ g ∧ ∀ i x, l[i]? = some x → i * 8 + 8 ≤ cur.size ∧ cur.extract (i * 8) (i * 8 + 8) = bys x := by
  obtain ⟨h1, ⟨h2, _⟩ | ⟨g', c', cur, h2, h3, h4, h5, h6, h7, h8⟩⟩ := ho
  · cases h2
  · cases h2
    refine ⟨cur, h4, h3, fun i x hx => ?_⟩
    have hxB := hB x (List.mem_of_getElem? hx)
    have hil : i < l.length := (List.getElem?_eq_some_iff.1 hx).1
    rw [flatB_len hB] at h1
    have hi : i * 8 + 8 ≤ n * 8 := by omega
    have hc : i * 8 + 8 ≤ cur.size := by rw [h7]; omega
    refine ⟨hc, ?_⟩
    apply Array.ext_getElem?
    intro r
    by_cases hr : r < 8
    · rw [Array.getElem?_extract, if_pos (by omega), ← flatB_get hB hx hr, ← h8, List.getElem?_take_of_lt (by omega), Array.getElem?_toList]
    · rw [Array.getElem?_eq_none (by simp; omega), Array.getElem?_eq_none (by rw [bys_size, hxB.1]; omega)]
theorem own_not {w : World} {base size n r : Nat} {e : TypeId} {v : Value} {xs : List Value} {o : Obj} (h : w.ownsRow base e size v n xs) (hr : w.heap[r]? = some o) (ho : Obj.isCells o = false) : some r ≠ v.ownBlock := by
  rcases h.2 with ⟨rfl, _⟩ | ⟨g, cap, cur, rfl, _, hgb, _⟩
  · simp [Value.ownBlock]
  · intro e'
    obtain rfl : r = g := by simpa [Value.ownBlock] using e'
    rw [hgb] at hr; cases hr; cases ho
theorem own_base {w : World} {base size n k : Nat} {e : TypeId} {v : Value} {xs : List Value} (h : w.ownsRow base e size v n xs) (hk : v.ownBlock = some k) : base ≤ k := by
  rcases h.2 with ⟨rfl, _⟩ | ⟨g, cap, cur, rfl, hb, _⟩
  · simp [Value.ownBlock] at hk
  · obtain rfl : g = k := by simpa [Value.ownBlock] using hk
    exact hb
theorem own_walk {w w' : World} {base size n r : Nat} {e : TypeId} {v : Value} {xs : List Value} {o : Obj} (h : w.ownsRow base e size v n xs) (hg : w.grownBy w' (some r)) (hr : w.heap[r]? = some o) (ho : o.isCells = false) : w'.ownsRow base e size v n xs := by
  refine h.kept hg ?_
  rcases h.2 with ⟨rfl, _⟩ | ⟨g, cap, cur, rfl, _, hgb, _⟩
  · exact .inl rfl
  · refine .inr fun e' => ?_
    obtain rfl : g = r := by simpa [Value.ownBlock] using e'
    rw [hgb] at hr; cases hr; cases ho
theorem sortB_eq {l k : List (List Int)} (h : l.Perm k) (hB : ∀ x ∈ l, B8 x) : sortB l = sortB k := by
  have tr : ∀ a b c : List Int, decide (num a ≤ num b) = true → decide (num b ≤ num c) = true → decide (num a ≤ num c) = true := fun a b c h1 h2 => by simp at *; omega
  have to : ∀ a b : List Int, (decide (num a ≤ num b) || decide (num b ≤ num a)) = true := fun a b => by simp; omega
  refine List.Perm.eq_of_pairwise (le := fun a b => decide (num a ≤ num b) = true) ?_ (List.pairwise_mergeSort tr to l) (List.pairwise_mergeSort tr to k) ((sortB_perm l).trans (h.trans (sortB_perm k).symm))
  intro a b ha hb h1 h2
  simp at h1 h2
  exact num_inj8 (hB a (sortB_mem.1 ha)) (hB b (h.mem_iff.2 (sortB_mem.1 hb))) (by omega)
theorem Try.infoId : (Try.prog.info? 31).map (fun i => (i.zero, i.size, i.bytes)) = some (some (.agg (bys (zs 8))), 8, 8) := by kernel_rfl

set_option maxRecDepth 100000 in
set_option maxHeartbeats 2000000 in
/-- All: the receiver is boxed; the function value captures the box. -/
theorem all_any (pp : Option Addr) (w : World) :
    Calls Try.prog 28 #[.pointer pp] w fun e w' => e = .returned (.func (.func 45) #[] #[.pointer (some ⟨w.heap.size, 0, none⟩)]) ∧ w' = w.alloc (.cells #[.pointer pp] 65) := by
  go_enter Try.func28, Try.ntmps28
  go_wp2
  go_ret
  exact ⟨rfl, rfl⟩

section
variable {n l : Nat} {O : World → Nat → Prop} {J Jx : List Id8 → World → Prop}
set_option maxRecDepth 100000 in
set_option maxHeartbeats 2000000 in
theorem all1_nil {bx : Nat} {W : World} (hbx : W.heap[bx]? = some (.cells #[.pointer none] 65 (0, 0))) (h0 : J [] W) :
    CallsIn Fence.wide n Try.prog 45 #[.func (.yield l) #[] #[], .pointer (some ⟨bx, 0, none⟩)] W fun e W' => (∃ v, e = .returned v) ∧ J [] W' := by
  have hcell : W.cell? ⟨bx, 0, none⟩ = some (.pointer none) := by rw [cell_of_row _ _ _ _ _ _ hbx]; rfl
  refine callsIn_of_wp Try.func45 rfl trivial ?_ rfl
  refine wpIn_wide.2 ?_
  simp only [Try.ntmps45, List.size_toArray, List.length_cons, List.length_nil, Nat.reduceAdd, Nat.reduceSub, Array.replicate_succ, Array.replicate_zero, List.push_toArray, List.append_toArray, List.nil_append, List.cons_append]
  go_wp2
  refine bodyPost_ret (results_none rfl _ _ _) rfl ?_
  exact ⟨⟨_, rfl⟩, h0⟩
set_option maxRecDepth 100000 in
set_option maxHeartbeats 2000000 in
theorem all1_set (hn : 1 ≤ n) {bx p b : Nat} {S : List (List Int)} {Lx : List Id8} {W : World} (hbx : W.heap[bx]? = some (.cells #[.pointer (some ⟨p, 0, none⟩)] 65 (0, 0))) (hS : SetIs W p b S) (hL : Lx.map Subtype.val = sortB S) (hlen : S.length ≤ 8796093022208)
    (hO0 : ∀ W', Below W.heap.size W W' → ∀ k, O W' k → k < W.heap.size) (hOs : ∀ (A : World) (o : Obj) (k : Nat), W.heap.size ≤ A.heap.size → O (A.alloc o) k → O A k) (hJ : AbidesFrom W.heap.size J)
    (hY : ∀ pre x W1, J pre W1 → pre.length < Lx.length → YieldAt Fence.wide (n - 1) Try.prog l #[.agg (bys x.1)] W1 fun e W' => (e = .returned (.bool true) ∧ J (pre ++ [x]) W' ∧ KO 31 O W1 W') ∨ (e = .returned (.bool false) ∧ Jx (pre ++ [x]) W')) (h0 : J [] W) :
    CallsIn Fence.wide n Try.prog 45 #[.func (.yield l) #[] #[], .pointer (some ⟨bx, 0, none⟩)] W fun e W' => (∃ v, e = .returned v) ∧ ((∃ xs, xs = Lx ∧ J xs W') ∨ ∃ pre, pre <+: Lx ∧ Jx pre W') := by
  have hcell : W.cell? ⟨bx, 0, none⟩ = some (.pointer (some ⟨p, 0, none⟩)) := by rw [cell_of_row _ _ _ _ _ _ hbx]; rfl
  have hlenF := fun ty => hS.len ty
  have HS := hid hS
  obtain ⟨m, clk, hp, hm, hmS, hmv, hB, hnd, hbn, hlt⟩ := hS
  have hpc : W.cell? ⟨p, 0, none⟩ = some (.map (some b)) := by rw [cell_of_row _ _ _ _ _ _ hp]; rfl
  obtain ⟨i0, hi, hz0, hz1, hz2⟩ := info_parts Try.infoId
  refine callsIn_of_wp Try.func45 rfl trivial ?_ rfl
  refine wpIn_wide.2 ?_
  simp only [Try.ntmps45, List.size_toArray, List.length_cons, List.length_nil, Nat.reduceAdd, Nat.reduceSub, Array.replicate_succ, Array.replicate_zero, List.push_toArray, List.append_toArray, List.nil_append, List.cons_append]
  have HM := hid (And.intro hp (And.intro hm (And.intro hmv (And.intro hB (And.intro hnd (And.intro hbn hlt))))))
  clear hm hp hB hnd hmv hlt hbn
  go_wp2_with (at_make; refine wpList_make_own _ rfl _ _ 40 rfl W.heap.size 31 i0 _ 8 Try.underlying40 hi hz0 hz1 _ _ _ S.length rfl rfl (by omega) (by rw [hz2]; omega) (by unfold maxLen; omega) (Nat.le_refl _) ?_)
  intro w1 hown hgrow
  have B1 : Hid (Below W.heap.size W w1) := hid ((Below.refl _ _).grown hgrow (Nat.le_refl _) (fun _ e => by cases e))
  have hc1 : w1.cell? ⟨bx, 0, none⟩ = some (.pointer (some ⟨p, 0, none⟩)) := (B1.out.cell (p := ⟨bx, 0, none⟩) (heap_lt hbx)).trans hcell
  have hp1 : w1.cell? ⟨p, 0, none⟩ = some (.map (some b)) := (B1.out.cell (p := ⟨p, 0, none⟩) (heap_lt HM.out.1)).trans hpc
  have HM1 : Hid (mapAt w1 .u8 b m clk) := hid (below_keep B1.out HM.out.2.1)
  have HO := hid hown
  clear hown hgrow hcell hpc hlenF
  go_wp2_with (at_range; refine wpList_range_ids rfl _ rfl Try.underlying93 b m clk rfl HM1.out HM.out.2.2.2.2.2.1 HM.out.2.2.2.2.2.2 ?_)
  intro w2 hrg hg2 hs2
  have B2 : Hid (Below W.heap.size W w2) := hid (B1.out.grown hg2 (B1.out.size) (fun _ e => by cases e))
  have HO2 : Hid (w2.ownsRow W.heap.size 31 8 (.slice (some ⟨W.heap.size, 0, none⟩) 0 S.length) 0 []) := hid (HO.out.kept hg2 (.inr (by simp [Value.ownBlock])))
  have HR := hid hrg
  clear hrg hg2 hs2 hc1 hp1 HM1 HO
  have HI := hid (fun e : Ent => fun h : e ∈ m => info_id e.id (HM.out.2.2.2.1 e.id (by rw [← hmS]; exact List.mem_map_of_mem h)))
  have HE := hid (fun e : Ent => fun h : e ∈ m => HM.out.2.2.2.1 e.id (by rw [← hmS]; exact List.mem_map_of_mem h))
  go_wp2_with fail
  go_loopw [3] (fun v wr => ∃ got : List Ent, Hid (RgAt wr .u8 b w1.heap.size m clk got) ∧ Hid (wr.ownsRow W.heap.size 31 8 v got.length (flatB (got.map Ent.id))) ∧ Hid (Below W.heap.size W wr)) (fun _ wr => wr.rangeLeft b w1.heap.size)
  case atStart => exact ⟨[], HR, hid (by simpa [flatB] using HO2.out), B2⟩
  case round =>
    obtain ⟨got, hR, hO, hB⟩ := hrel
    obtain ⟨va, cap, rfl⟩ := ownsRow_shape hO.out
    go_wp2_with (at_next; refine wpList_next_ids rfl _ rfl b w1.heap.size m got clk rfl hR.out ?_ ?_)
    · intro hall
      -- L1
      have hperm := hR.out.all hall
      have hGB : ∀ x ∈ got.map Ent.id, B8 x := fun x hx => by obtain ⟨e, he, rfl⟩ := List.mem_map.1 hx; exact HE.out e (hR.out.sub e he)
      have hgS : sortB (got.map Ent.id) = sortB S := by rw [← hmS]; exact sortB_eq (hperm.map _) hGB
      have hgl : Hid (got.length = S.length) := hid (by rw [hperm.length_eq, ← hmS, List.length_map])
      have HC := hid (sortIds_any (got.map Ent.id) hGB (by simp; have := hgl.out; omega) (by simp) wr hO.out)
      have HP := hid hgS
      have HSB : Hid (∀ x ∈ sortB S, B8 x) := hid (fun x hx => hGB x (by rw [← hgS] at hx; exact sortB_mem.1 hx))
      clear hperm hgS hall hGB
      go_wp2_with (go_at_call 46; refine HC.out.mono ?_; rintro e' w3 ⟨rfl, ho3, hk3⟩; have HO3 := hid ho3; have HK3 := hid hk3; clear ho3 hk3)
      have hB3 : Hid (Below W.heap.size W w3) := hid ((hB.out.trans (HK3.out.toBelow hB.out.size (fun k _ hk => own_base hO.out hk))))
      have hJ3 : J [] w3 := hJ [] W w3 none h0 ⟨hB3.out.os, hB3.out.tape, hB3.out.output, hB3.out.size, fun k hk _ => hB3.out.block k hk⟩ (fun r e => by cases e)
      have hlx : Lx.length = S.length := by rw [← List.length_map (f := Subtype.val), hL, sortB_len]
      have HLX := hid (And.intro hlx hL)
      have HY := hid hY
      have HOZ := hid (hO0 w3 hB3.out)
      have HJ := hid hJ
      have HOS := hid hOs
      have HSI := hid hi
      clear hL hY hO0 hlx hJ h0 hOs
      rw [HP.out, hgl.out] at HO3
      have HLEN := hid hlen
      rw [hgl.out]
      refine (wpIn_wide (n := n)).1 ?_
      gi_loopw [32] (fun i wz => ∃ k : Nat, k ≤ S.length ∧ i = .int .i64 k ∧ Hid (J (Lx.take k) wz) ∧ Hid (KO 31 O w3 wz)) (fun i _ => S.length - (intOf i).toNat)
      case atStart => exact ⟨0, by omega, rfl, hid (by simpa using hJ3), hid (KO.refl _ _ _)⟩
      case round =>
        obtain ⟨k, hk, rfl, hJk, hKO⟩ := hrel
        by_cases hlt : k < S.length
        · obtain ⟨g, cap', hv⟩ := ownsRow_form' HO3.out (by omega)
          obtain ⟨rfl, rfl⟩ : va = some ⟨g, 0, none⟩ ∧ cap = cap' := by cases hv; exact ⟨rfl, rfl⟩
          obtain ⟨cur, hcur, hgb, hel⟩ := own_ids HSB.out HO3.out
          obtain ⟨x, hx⟩ : ∃ x, Lx[k]? = some x := ⟨Lx[k]'(by rw [HLX.out.1]; exact hlt), by simp [HLX.out.1, hlt]⟩
          have hx2 : (sortB S)[k]? = some x.1 := by rw [← HLX.out.2, List.getElem?_map, hx]; rfl
          obtain ⟨h1, h2⟩ := hel k x.1 hx2
          have HR := hid (hKO.out.block g cur _ hcur (fun e => by have := HOZ.out g e; omega))
          have H1 := hid h1
          have H2 := hid h2
          have HI2 := hid (info_id x.1 x.2)
          have HX8 : Hid ((bys x.1).size = 8) := hid (by rw [bys_size, x.2.1])
          have HSZ := hid info_id8
          have hws : W.heap.size ≤ wr.heap.size := Nat.le_trans hB3.out.size hKO.out.size
          have HW := hid hws
          have hJ4 : J (Lx.take k) (wr.alloc (.cells (bys x.1) 31)) := HJ.out _ wr _ none hJk.out (World.grownBy_alloc wr _ none) (fun r e => by cases e)
          have hK4 : Hid (KO 31 O w3 (wr.alloc (.cells (bys x.1) 31))) := hid (hKO.out.trans ⟨by simp, fun j cs fr hj _ => alloc_keep hj _, fun j _ hj => HOS.out wr _ j HW.out hj⟩)
          obtain ⟨fn, tmps, assign, body, hy, hR⟩ := HY.out (Lx.take k) x _ hJ4 (by rw [List.length_take, HLX.out.1]; omega)
          clear hcur hel hx2 h1 h2 hgb hv hws hJ4
          have HXX := hid hx
          clear hx
          gi_wp2_with (first | (refine wpListIn_load_at rfl 31 _ rfl g _ 8 rfl _ cur _ _ HR.out H1.out Try.underlying31 rfl HSZ.out _ H2.out ?_) | (refine wpListIn_store_row rfl 31 _ _ rfl _ _ rfl rfl _ _ (heap_alloc_new _ _) HI2.out (by rw [HX8.out]; rfl) (Array.all_eq_true_iff_forall_mem.2 (fun v hv => bys_one _ v (by simpa using hv))) _ (setRow_alloc _ _ _ _) ?_) | (refine wpListIn_load_w rfl 31 _ rfl _ rfl _ _ _ _ (heap_alloc_new _ _) Try.underlying31 rfl HI2.out ?_))
          refine hR.mono ?_
          rintro e W3 (⟨rfl, hJ3, hk3⟩ | ⟨rfl, hJx3⟩)
          · have hK5 := hid (hK4.out.trans hk3)
            have hJ5 := hid hJ3
            clear hk3 hJ3
            gi_wp2
            refine ⟨⟨k + 1, by omega, by go_num, hid ?_, hK5⟩, ?_⟩
            · have := hJ5.out
              obtain ⟨hk', rfl⟩ := List.getElem?_eq_some_iff.1 HXX.out
              rwa [List.take_succ_eq_append_getElem hk']
            · simp [intOf]; omega
          · have hJ5 := hid hJx3
            clear hJx3
            gi_wp2
            refine bodyPost_ret (results_none rfl _ _ _) rfl ?_
            refine ⟨⟨_, rfl⟩, .inr ⟨_, ?_, hJ5.out⟩⟩
            obtain ⟨hk', rfl⟩ := List.getElem?_eq_some_iff.1 HXX.out
            rw [← List.take_succ_eq_append_getElem hk']
            exact List.take_prefix _ _
        · gi_wp2
          refine bodyPost_end (results_none rfl _ _ _) rfl ?_
          exact ⟨⟨_, rfl⟩, .inl ⟨Lx, rfl, by have := hJk.out; rwa [List.take_of_length_le (by rw [HLX.out.1]; omega)] at this⟩⟩
      -- /L1
    · intro e w3 he hne hR3 hg3 hs3 hl3 hent
      rw [keyV_bys] at hent ⊢
      have hO3 : Hid (w3.ownsRow W.heap.size 31 8 (.slice va got.length cap) got.length (flatB (got.map Ent.id))) := hid (by obtain ⟨_, _, _, h1, _⟩ := hR.out.it; exact own_walk hO.out hg3 h1 rfl)
      have hB3 : Hid (Below W.heap.size W w3) := hid (hB.out.grown hg3 hB.out.size (fun k e => by cases e; exact B1.out.size))
      have hgl : got.length ≤ 8796093022208 := by
        have h1 := hR.out.nd.length_le_of_subset hR.out.sub
        have h2 : m.length = S.length := by rw [← hmS, List.length_map]
        omega
      have HX := hid (HI.out e he)
      have HXB := hid (HE.out e he)
      have HX8 : Hid ((bys e.id).size = 8) := hid (by rw [bys_size, HXB.out.1])
      have HR3 := hid hR3
      have HL3 := hid (And.intro hs3 hl3)
      have hbl := hB3.out.size
      clear hs3 hl3 hg3 hR3 he hne
      go_wp2_with (first | (refine wpList_store_row rfl 31 _ _ rfl _ rfl _ rfl _ _ (heap_alloc_new _ _) (by rw [HX8.out]; rfl) (bys_one _) HX.out _ (setRow_alloc _ _ _ _) ?_) | (refine wpList_load_w rfl 31 _ rfl _ rfl _ _ _ _ (heap_alloc_new _ _) Try.underlying31 rfl HX.out ?_) | (refine wpList_build1 rfl 40 31 _ rfl _ rfl i0 _ Try.underlying40 hi hz0 (by rw [hz1, HX8.out]) (by rw [HX8.out]; decide) (by rw [HX8.out]; decide) ?_) | (at_builtin; refine wpList_append_own_at _ rfl _ _ 40 rfl W.heap.size 31 i0 _ 8 8 Try.underlying40 hi hz0 hz1 hz2 rfl (by decide) _ _ _ rfl ((hO3.out.alloc _).alloc _) ⟨_, 0, none⟩ 1 1 (bys e.id).toList rfl (by rw [Array.length_toList, HX8.out]) (cells_at (heap_alloc_new _ _)) (bys_one e.id) (by unfold maxLen; omega) (by omega) (by simp; omega) ?_))
      intro v' w4 ho4 hg4 hnil4 hat4
      go_wp2
      have hB4 : Below W.heap.size W w4 := ((hB3.out.alloc hB3.out.size _).alloc (by have := hB3.out.size; simp; omega) _).grown hg4 (by have := hB3.out.size; simp; omega) (fun k e => own_base hO3.out e)
      have hr3 : ∃ s n c, w3.heap[w1.heap.size]? = some (.mapIter (some b) s n c) := by obtain ⟨s, n, c, h1, _⟩ := HR3.out.it; exact ⟨s, n, c, h1⟩
      have k4 : ∀ (j : Nat) (o : Obj), w3.heap[j]? = some o → o.isCells = false → w4.heap[j]? = w3.heap[j]? := fun j (o : Obj) hj ho => (hg4.block j (by have := heap_lt hj; simp; omega) (own_not hO3.out hj ho)).trans ((Below.heap_alloc _ _ _ (by have := heap_lt hj; simp; omega)).trans (Below.heap_alloc _ _ _ (heap_lt hj)))
      have kb : w4.heap[b]? = w3.heap[b]? := k4 b _ HR3.out.mp rfl
      have kr : w4.heap[w1.heap.size]? = w3.heap[w1.heap.size]? := by obtain ⟨s, n, c, h1⟩ := hr3; exact k4 _ _ h1 rfl
      refine ⟨⟨got ++ [e], hid (HR3.out.kept kb kr), hid ?_, hid hB4⟩, ?_⟩
      · rw [List.map_append, List.map_cons, List.map_nil, flatB_snoc, List.length_append]; exact ho4
      · rw [rangeLeft_same kb kr]; exact HL3.out.2
end
attribute [local go_sem] Oper.semAt_some

set_option maxRecDepth 100000 in
set_option maxHeartbeats 2000000 in
theorem all1_bare {n l : Nat} {J : List Id8 → World → Prop} {bx p : Nat} {W : World} (hbx : W.heap[bx]? = some (.cells #[.pointer (some ⟨p, 0, none⟩)] 65 (0, 0))) (hp : W.heap[p]? = some (.cells #[.map none] 95 (0, 0)))
    (hJ : AbidesFrom W.heap.size J) (h0 : J [] W) :
    CallsIn Fence.wide n Try.prog 45 #[.func (.yield l) #[] #[], .pointer (some ⟨bx, 0, none⟩)] W fun e W' => (∃ v, e = .returned v) ∧ J [] W' := by
  have hcell : W.cell? ⟨bx, 0, none⟩ = some (.pointer (some ⟨p, 0, none⟩)) := by rw [cell_of_row _ _ _ _ _ _ hbx]; rfl
  have hpc : W.cell? ⟨p, 0, none⟩ = some (.map none) := by rw [cell_of_row _ _ _ _ _ _ hp]; rfl
  have hrg := fun w => run_range_nilMap (P := Try.prog) w _ _ _ Try.underlying93
  have hnx := fun w ty => run_next_nilMap (P := Try.prog) w ty 0 0 #[]
  obtain ⟨i0, hi, hz0, hz1, hz2⟩ := info_parts Try.infoId
  refine callsIn_of_wp Try.func45 rfl trivial ?_ rfl
  refine wpIn_wide.2 ?_
  simp only [Try.ntmps45, List.size_toArray, List.length_cons, List.length_nil, Nat.reduceAdd, Nat.reduceSub, Array.replicate_succ, Array.replicate_zero, List.push_toArray, List.append_toArray, List.nil_append, List.cons_append]
  go_wp2_with (at_make; refine wpList_make_own _ rfl _ _ 40 rfl W.heap.size 31 i0 _ 8 Try.underlying40 hi hz0 hz1 _ _ _ 0 rfl rfl (by omega) (by rw [hz2]; omega) (by unfold maxLen; omega) (Nat.le_refl _) ?_)
  intro w1 hown hgrow
  have B1 : Hid (Below W.heap.size W w1) := hid ((Below.refl _ _).grown hgrow (Nat.le_refl _) (fun _ e => by cases e))
  have hc1 : w1.cell? ⟨bx, 0, none⟩ = some (.pointer (some ⟨p, 0, none⟩)) := (B1.out.cell (p := ⟨bx, 0, none⟩) (heap_lt hbx)).trans hcell
  have hp1 : w1.cell? ⟨p, 0, none⟩ = some (.map none) := (B1.out.cell (p := ⟨p, 0, none⟩) (heap_lt hp)).trans hpc
  have HO := hid hown
  have HJ := hid hJ
  have H0 := hid h0
  clear hown hgrow hcell hpc h0 hJ
  go_wp2_with fail
  go_loopw [3] (fun v wr => v = .slice (some ⟨W.heap.size, 0, none⟩) 0 0 ∧ wr = w1.alloc (.mapIter none 0 #[] 0)) (fun _ _ => 0)
  case atStart => exact ⟨rfl, rfl⟩
  case round =>
    obtain ⟨rfl, rfl⟩ := hrel
    have HC := hid (sortIds_any [] (by simp) (by simp) rfl (w1.alloc (.mapIter none 0 #[] 0)) (HO.out.alloc _))
    go_wp2_with (go_at_call 46; refine HC.out.mono ?_; rintro e' w3 ⟨rfl, ho3, hk3⟩; have HO3 := hid ho3; have HK3 := hid hk3; clear ho3 hk3)
    go_loopw [32] (fun i wr => i = .int .i64 0 ∧ wr = w3) (fun _ _ => 0)
    case atStart => exact ⟨rfl, rfl⟩
    case round =>
      obtain ⟨rfl, rfl⟩ := hrel
      go_wp2
      go_end0
      have hB3 := ((B1.out.alloc B1.out.size (.mapIter none 0 #[] 0)).trans (HK3.out.toBelow (by have := B1.out.size; simp; omega) (fun k _ hk => own_base HO.out hk)))
      exact ⟨⟨_, rfl⟩, HJ.out [] W _ none H0.out ⟨hB3.os, hB3.tape, hB3.output, hB3.size, fun k hk _ => hB3.block k hk⟩ (fun r e => by cases e)⟩

/-- What an iterator that All gave goes through, asked now. -/
def IterAt (w : World) (bx : Nat) (L : List Id8) : Prop :=
  ∃ pp, w.heap[bx]? = some (.cells #[.pointer pp] 65 (0, 0)) ∧
    ((pp = none ∧ L = []) ∨ ∃ p, pp = some ⟨p, 0, none⟩ ∧ ((w.heap[p]? = some (.cells #[.map none] 95 (0, 0)) ∧ L = []) ∨ ∃ b S, SetIs w p b S ∧ L.map Subtype.val = sortB S))
theorem IterAt.kept {w w' : World} {bx : Nat} {L : List Id8} (h : IterAt w bx L) (hb : Below w.heap.size w w') : IterAt w' bx L := by
  obtain ⟨pp, h1, h2⟩ := h
  refine ⟨pp, below_keep hb h1, ?_⟩
  rcases h2 with h2 | ⟨p, rfl, ⟨h3, h4⟩ | ⟨b, S, h3, h4⟩⟩
  · exact .inl h2
  · exact .inr ⟨p, rfl, .inl ⟨below_keep hb h3, h4⟩⟩
  · exact .inr ⟨p, rfl, .inr ⟨b, S, h3.kept hb, h4⟩⟩
/-- The sorted ids as such. -/
def idsOf (S : List (List Int)) (h : ∀ x ∈ S, B8 x) : List Id8 := att (sortB S) fun x hx => h x (sortB_mem.1 hx)
theorem idsOf_val (S : List (List Int)) (h : ∀ x ∈ S, B8 x) : (idsOf S h).map Subtype.val = sortB S := att_val _ _

/-- **(*Set).All's iterator goes through the ids in order.** -/
theorem iter_stops {n : Nat} (hn : 1 ≤ n) {O : World → Nat → Prop} {bx : Nat} {L : List Id8} {w : World} (hI : IterAt w bx L) (hlen : L.length ≤ 8796093022208)
    (hO : ∀ W W' k, (∀ j, j < w.heap.size → W'.heap[j]? = W.heap[j]?) → O W' k → O W k) (hO0 : ∀ k, O w k → k < w.heap.size) :
    SeqStopsK Fence.wide n Try.prog 45 #[.pointer (some ⟨bx, 0, none⟩)] (fun x : Id8 => #[.agg (bys x.1)]) (KO 31 O) (fun ys => ys = L) (fun pre => pre <+: L) L.length w := fun l J Jx W hW hJ _ hY h0 => by
  have hI' := hI.kept hW
  obtain ⟨pp, h1, h2⟩ := hI'
  rcases h2 with ⟨rfl, rfl⟩ | ⟨p, rfl, ⟨h3, rfl⟩ | ⟨b, S, h3, h4⟩⟩
  · exact (all1_nil h1 h0).mono fun e W' ⟨h, hj⟩ => ⟨h, .inl ⟨_, rfl, hj⟩⟩
  · exact (all1_bare h1 h3 hJ h0).mono fun e W' ⟨h, hj⟩ => ⟨h, .inl ⟨_, rfl, hj⟩⟩
  · have hls : S.length = L.length := by rw [← sortB_len S, ← h4, List.length_map]
    refine all1_set hn h1 h3 h4 (by omega) (fun W' hW' k hk => ?_) (fun A o k hA hk => ?_) hJ hY h0
    · have hb : ∀ j, j < w.heap.size → W'.heap[j]? = w.heap[j]? := fun j hj => (hW'.block j (by have := hW.size; omega)).trans (hW.block j hj)
      exact Nat.lt_of_lt_of_le (hO0 k (hO w W' k hb hk)) hW.size
    · exact hO A (A.alloc o) k (fun j hj => Below.heap_alloc _ _ _ (by have := hW.size; omega)) hk
end Go.Proofs.Ytkaalppmheikgaa
