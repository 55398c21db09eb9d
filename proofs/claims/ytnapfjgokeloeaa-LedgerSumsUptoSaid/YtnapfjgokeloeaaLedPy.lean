/- A ledger behind a script, walked. -/
import Derived.Test.YtnapfjgokeloeaaLedWk
import Derived.Test.YtnapfjgokeloeaaSlB1
namespace Go.Proofs.Ytnapfjgokeloeaa
open Go.RowKit

/-- The ledger behind some steps, and the limits that were given. -/
structure PlS (w0 w : World) (p : Nat) (s : LSt) (v : Value) : Prop where
  led : Led w0 w p s.T s.E
  lim : w.ownsRow w0.heap.size 35 17 v s.L.length (fl enE s.L)
  apart : ∀ k, v.ownBlock = some k → ¬ Foot w p k
section
variable {w0 w w' : World} {p : Nat} {s : LSt} {v : Value}
theorem PlS.kept (h : PlS w0 w p s v) (hb : Below w.heap.size w w') : PlS w0 w' p s v :=
  ⟨h.led.kept hb, ownsRow_other h.lim fun g hg => hb.block g (ownsRow_lt h.lim hg), fun k hk hf => h.apart k hk (h.led.foot_kept hb hf)⟩
theorem PlS.op (h : PlS w0 w p s v) {T2 : List (Id8 × Ac)} {E2 : List En} (hl : Led w0 w' p T2 E2) (ho : OnlyOwn w w' p) : PlS w0 w' p ⟨T2, E2, s.L⟩ v := by
  obtain ⟨S, q1, q2, q3⟩ := ho
  refine ⟨hl, ownsRow_other h.lim fun g hg => q1.block g (ownsRow_lt h.lim hg) fun hS => h.apart g hg (q2 g hS), fun k hk hf => ?_⟩
  rcases q3 k hf with h1 | h1
  · exact h.apart k hk h1
  · have := ownsRow_lt h.lim hk; omega
/-- A limit more. -/
theorem PlS.lims (h : PlS w0 w p s v) {w5 w6 : World} {v' : Value} {e : En} (hb : Below w.heap.size w w5) (ho : w6.ownsRow w0.heap.size 35 17 v' (s.L.length + 1) (fl enE s.L ++ (enE e).toList)) (hg : w5.grownBy w6 v.ownBlock)
    (hat : v'.ownBlock = v.ownBlock ∨ v'.ownBlock = some w5.heap.size) : PlS w0 w6 p ⟨s.T, s.E, s.L ++ [e]⟩ v' ∧ Below w0.heap.size w0 w6 := by
  have h5 := h.kept hb
  obtain ⟨b, u, h1, h2, h3⟩ := h5.led
  have h4 : LedAt w6 p b s.T u s.E := h1.same fun k hk => hg.block k (h1.lt hk) fun e => h5.apart k e.symm (h1.foot.2 hk)
  have hB : Below w0.heap.size w0 w6 := h2.grown hg h2.size (fun j e => own_base h.lim e)
  refine ⟨⟨⟨b, u, h4, hB, h3⟩, ?_, fun k hk hf => ?_⟩, hB⟩
  · dsimp only; rw [fl_append, fl_one, List.length_append]; exact ho
  · have hf5 : Foot w5 p k := h1.foot.2 (h4.foot.1 hf)
    rcases hat with e | e
    · exact h5.apart k (e ▸ hk) hf5
    · have := h5.led.foot_lt hf5
      rw [e] at hk; injection hk with hk; omega
end
theorem zero_op (w : World) : ∃ z : LOp, (zeroValue 53).run Try.prog w = .ok (.agg (opE z)) w := ⟨⟨0, 0, enZ, none, 0, []⟩, by kernel_rfl⟩
theorem opE_info (o : LOp) : (Try.prog.info? 53).map (·.size) = some (opE o).size := by rw [opE_size]; kernel_rfl
/-- An operation as it lies in a box of its own. -/
structure OpBx (w : World) (k : Nat) (x : LOp) : Prop where
  blk : w.heap[k]? = some (.cells (opE x) 53 (0, 0))
theorem OpBx.kept {w w' : World} {k : Nat} {x : LOp} (h : OpBx w k x) (hb : Below w.heap.size w w') : OpBx w' k x := ⟨below_keep hb h.blk⟩
theorem OpBx.kind {w : World} {k : Nat} {x : LOp} (h : OpBx w k x) : w.cell? ⟨k, 1, none⟩ = some (.int .i64 x.kind) := by have := op_kind (box_cells h.blk); rwa [Nat.zero_add] at this
theorem OpBx.fr {w : World} {k : Nat} {x : LOp} (h : OpBx w k x) : CellsAt w k 2 (bys x.e.fr.1) := by have := box_fr (op_ent (box_cells h.blk)); rwa [Nat.zero_add] at this
theorem OpBx.to {w : World} {k : Nat} {x : LOp} (h : OpBx w k x) : CellsAt w k 10 (bys x.e.to.1) := by have := box_to (op_ent (box_cells h.blk)); rwa [Nat.zero_add] at this
theorem OpBx.amt {w : World} {k : Nat} {x : LOp} (h : OpBx w k x) : w.cell? ⟨k, 18, none⟩ = some (.int .i64 x.e.amt) := by have := box_amt (op_ent (box_cells h.blk)); rwa [Nat.zero_add] at this
theorem OpBx.list {w : World} {k : Nat} {x : LOp} (h : OpBx w k x) : w.cell? ⟨k, 19, none⟩ = some (.slice x.A x.l.length x.cap) := by have := op_list (box_cells h.blk); rwa [Nat.zero_add] at this
theorem OpBx.own {w w' : World} {p k : Nat} {x : LOp} (h : OpBx w k x) (ho : OnlyOwn w w' p) (hn : ¬ Foot w p k) : OpBx w' k x := by
  obtain ⟨S, q1, q2, q3⟩ := ho
  exact ⟨(q1.block k (heap_lt h.blk) fun hS => hn (q2 k hS)).trans h.blk⟩
/-- A script as it lies. -/
structure ScAt (w : World) (A : Option Addr) (S : List LOp) : Prop where
  rows : RowsAt 20 opE w A S
  ins : ∀ o ∈ S, RowsAt 17 enE w o.A o.l
  nums : ∀ o ∈ S, I64 o.kind ∧ I64 o.e.amt ∧ ∀ e ∈ o.l, I64 e.amt
theorem ScAt.kept {w w' : World} {A : Option Addr} {S : List LOp} (h : ScAt w A S) (hb : Below w.heap.size w w') : ScAt w' A S := ⟨h.rows.kept hb, fun o ho => (h.ins o ho).kept hb, h.nums⟩
set_option maxRecDepth 100000 in
set_option maxHeartbeats 8000000 in
theorem played_any (S : List LOp) (A : Option Addr) (cap : Nat) (hsz : sizeL S ≤ 1048576) (w : World) (hr : ScAt w A S) :
    Calls Try.prog 9 #[.slice A S.length cap] w fun e w' => ∃ p v, e = .returned (.tuple #[.pointer (some ⟨p, 0, none⟩), v]) ∧ PlS w w' p (playL S) v := by
  have HR := hid hr
  have HSZ := hid hsz
  have hlen := sizeL_len S
  have hsl : S.length ≤ 1048576 := by omega
  clear hr hlen hsz
  obtain ⟨i0, hi, hz0, hz1, hz2⟩ := entry_info
  go_enter Try.func9, Try.ntmps9
  go_wp2_with (go_at_call 23; (with_reducible refine (led_new w).mono ?_); rintro e w2 ⟨rfl, h2⟩; generalize w.heap.size + 1 = p at *; have HS := hid h2; clear h2)
  have HS0 : Hid (PlS w w2 p (playL (S.take 0)) (.slice none 0 0)) := hid ⟨HS.out, World.ownsRow_nil _ _ _ _, fun k hk => by cases hk⟩
  clear HS
  go_loopw [5, 6] (fun u i wr => ∃ k : Nat, k ≤ S.length ∧ i = .int .i64 k ∧ Hid (PlS w wr p (playL (S.take k)) u)) (fun _ i _ => S.length - (intOf i).toNat)
  case atStart => exact ⟨0, by omega, rfl, HS0⟩
  case round =>
    clear HS0
    obtain ⟨k, hk, rfl, HP⟩ := hrel
    by_cases hlt : k < S.length
    · have hki : (k : Int) < (S.length : Int) := by omega
      obtain ⟨x, hx⟩ : ∃ x, S[k]? = some x := ⟨S[k], by simp [hlt]⟩
      have hxm := List.mem_of_getElem? hx
      have HSC := hid (HR.out.kept HP.out.led.below)
      obtain ⟨gg, o, rfl, hgg, hcc⟩ := HSC.out.rows.get hx
      rw [show o + 20 * k = o + k * 20 by omega] at hcc
      have HC := hid hcc
      have HIN := hid (HSC.out.ins x hxm)
      obtain ⟨n1, n2, n3⟩ := HSC.out.nums x hxm
      have N1 := hid n1
      have N2 := hid n2
      have N3 := hid n3
      have HXE : Hid (S.take (k + 1) = S.take k ++ [x]) := hid (by
        obtain ⟨hk', e⟩ := List.getElem?_eq_some_iff.1 hx
        rw [List.take_succ_eq_append_getElem hk', e])
      have HPL : Hid (playL (S.take (k + 1)) = stepL (playL (S.take k)) x) := hid (by rw [HXE.out, playL_snoc])
      obtain ⟨l1, l2, l3, l4⟩ := play_len (S.take k)
      have l5 := sizeL_take S (k + 1)
      rw [HXE.out, sizeL_snoc] at l5
      have l6 := HSZ.out
      have LT := hid l1
      obtain ⟨z, hz⟩ := zero_op wr
      generalize playL (S.take k) = s at *
      have hLE : s.E.length + x.l.length ≤ 2097152 ∧ s.L.length ≤ 1048576 ∧ x.l.length ≤ 1048576 := by omega
      obtain ⟨h7, h8, h9⟩ := hLE
      have HXI := hid (opE_info x)
      have HSX : Hid ((opE x).size = 20) := hid (opE_size x)
      have HSZ2 : Hid ((opE z).size = 20) := hid (opE_size z)
      obtain ⟨ua, uc, rfl⟩ := ownsRow_shape HP.out.lim
      have KR := hid (fun w => round_any x.kind N1.out w)
      clear l1 l2 l3 l4 l5 l6 hx hxm hgg hcc n1 n2 n3
      go_wp2_with (first | (refine wpList_load_cells rfl 53 _ rfl _ _ rfl _ _ HC.out Try.underlying53 rfl HXI.out ?_) | (refine wpList_store_row rfl 53 _ _ rfl _ rfl _ rfl _ _ (heap_alloc_new _ _) (by rw [HSX.out, HSZ2.out]) (opE_ones x) HXI.out _ (setRow_alloc _ _ _ _) ?_; refine Hid.out ?_))
      refine hid ?_
      obtain ⟨wz, hwz⟩ : ∃ wz, wz = wr.alloc (.cells (opE x) 53) := ⟨_, rfl⟩
      have hbz := (Below.refl wr.heap.size wr).alloc (Nat.le_refl _) (.cells (opE x) 53)
      have hbx : OpBx (wr.alloc (.cells (opE x) 53)) wr.heap.size x := ⟨heap_alloc_new _ _⟩
      rw [← hwz] at hbz hbx ⊢
      have HPz := hid (HP.out.kept hbz)
      have HBX := hid hbx
      have HINz := hid (HIN.out.kept hbz)
      have HPOz : Hid (∀ g o, x.A = some ⟨g, o, none⟩ → x.l ≠ [] → g < wz.heap.size) := hid (fun g o e hne => by
        rcases HINz.out with h | ⟨g2, o2, h1, h2, _⟩
        · exact absurd h hne
        · rw [h1] at e; cases e; exact h2)
      have HNK : Hid (¬ Foot wz p wr.heap.size) := hid (fun hf => by have := HP.out.led.foot_lt (HP.out.led.foot_kept hbz hf); omega)
      clear hbz hwz HP HIN HC HSC
      generalize wr.heap.size = kb at *
      have hck := hbx.kind
      have hca := hbx.amt
      have hcl := hbx.list
      have HCF := hid hbx.fr
      have HCT := hid hbx.to
      have HIF := hid (idV_info x.e.fr)
      have HIT := hid (idV_info x.e.to)
      clear hbx
      obtain ⟨q, hq⟩ : ∃ q, q = x.kind % 4 := ⟨_, rfl⟩
      rw [← hq] at KR
      have HQ := hid hq
      have hq4 : q = 0 ∨ q = 1 ∨ q = 2 ∨ q = 3 := by omega
      clear hq
      rcases hq4 with rfl | rfl | rfl | rfl
      · have HST : Hid (stepL s x = ⟨payT s.T x.e.fr x.e.to x.e.amt, payN s.T s.E x.e.fr x.e.to x.e.amt, s.L⟩) := hid (by unfold stepL; rw [← HQ.out, if_pos rfl])
        have KP := hid (led_pay HPz.out.led x.e.fr x.e.to x.e.amt N2.out LT.out (by omega))
        go_wp2_with (first | (go_at_call 27; (with_reducible refine (KR.out _).mono ?_); rintro e w3 ⟨rfl, rfl⟩) | (refine wpList_load_cells rfl 33 _ rfl _ _ rfl _ _ HCF.out Try.underlying33 rfl HIF.out ?_) | (refine wpList_load_cells rfl 33 _ rfl _ _ rfl _ _ HCT.out Try.underlying33 rfl HIT.out ?_) | (go_at_call 21; (with_reducible refine KP.out.mono ?_); rintro e w4 ⟨rfl, h1, h2⟩; have HP4 := hid (HPz.out.op h1 h2); clear h1 h2))
        refine ⟨⟨k + 1, by omega, by go_num, hid (by rw [HPL.out, HST.out]; exact HP4.out)⟩, by simp [intOf]; omega⟩
      · have KP := hid (led_credit HPz.out.led x.e.fr x.e.amt N2.out LT.out)
        by_cases hc0 : credE s.T x.e.fr x.e.amt = 0
        · have HST : Hid (stepL s x = ⟨credT s.T x.e.fr x.e.amt, s.E, s.L ++ [⟨x.e.fr, zId, x.e.amt⟩]⟩) := hid (by unfold stepL; rw [← HQ.out, if_neg (by omega), if_pos rfl, if_pos hc0])
          rw [hc0] at KP
          clear hc0
          go_wp2_with (first | (go_at_call 27; (with_reducible refine (KR.out _).mono ?_); rintro e w3 ⟨rfl, rfl⟩) | (refine wpList_load_cells rfl 33 _ rfl _ _ rfl _ _ HCF.out Try.underlying33 rfl HIF.out ?_) | (go_at_call 24; (with_reducible refine KP.out.mono ?_); rintro e w4 ⟨rfl, h1, h2⟩; have HP4 := hid (HPz.out.op h1 h2); have HB4 := hid (HBX.out.own h2 HNK.out); clear h1 h2; refine Hid.out ?_))
          refine hid ?_
          have hca4 := HB4.out.amt
          have HCF4 := hid HB4.out.fr
          clear hca hck hcl HCF HCT
          have hb14 := HP4.out.led.below.size
          have HLIM := hid (show w4.ownsRow w.heap.size 35 17 (.slice ua s.L.length uc) s.L.length (fl enE s.L) from HP4.out.lim)
          go_wp2_with (first | (refine wpList_load_cells rfl 33 _ rfl _ _ rfl _ _ HCF4.out Try.underlying33 rfl HIF.out ?_) | (refine wpList_build_run rfl 35 _ rfl (.agg (enE ⟨x.e.fr, zId, x.e.amt⟩)) (by simp only [List.map_toArray, List.map_cons, List.map_nil]; exact build_has _ _ _) ?_) | (refine wpList_build1 rfl 25 35 _ rfl (enE ⟨x.e.fr, zId, x.e.amt⟩) rfl i0 _ Try.underlying25 hi hz0 (by rw [hz1, enE_size]) (by rw [enE_size]; decide) (by rw [enE_size]; decide) ?_) | (at_builtin; refine wpList_append_own_at _ rfl _ _ 25 rfl w.heap.size 35 i0 _ 17 24 Try.underlying25 hi hz0 hz1 hz2 rfl (by decide) _ _ _ rfl (HLIM.out.alloc _) ⟨_, 0, none⟩ 1 1 (enE ⟨x.e.fr, zId, x.e.amt⟩).toList rfl (by rw [Array.length_toList, enE_size]) (cells_at (heap_alloc_new _ _)) (enE_ones ⟨x.e.fr, zId, x.e.amt⟩) (by unfold maxLen; omega) (by omega) (by simp; omega) ?_))
          intro v' w6 ho6 hg6 hnil6 hat6
          have HP6 := hid (HP4.out.lims ((Below.refl _ _).alloc (Nat.le_refl _) _) ho6 hg6 (by rw [alloc_size]; exact hat6)).1
          clear ho6 hg6 hnil6 hat6
          go_wp2
          refine ⟨⟨k + 1, by omega, by go_num, hid (by rw [HPL.out, HST.out]; exact HP6.out)⟩, by simp [intOf]; omega⟩
        · have HST : Hid (stepL s x = ⟨credT s.T x.e.fr x.e.amt, s.E, s.L⟩) := hid (by unfold stepL; rw [← HQ.out, if_neg (by omega), if_pos rfl, if_neg hc0])
          have hc1 : (credE s.T x.e.fr x.e.amt == 0) = false := by simp [hc0]
          obtain ⟨ce, hce⟩ : ∃ ce, ce = credE s.T x.e.fr x.e.amt := ⟨_, rfl⟩
          rw [← hce] at KP hc1
          clear hc0 hce
          go_wp2_with (first | (go_at_call 27; (with_reducible refine (KR.out _).mono ?_); rintro e w3 ⟨rfl, rfl⟩) | (refine wpList_load_cells rfl 33 _ rfl _ _ rfl _ _ HCF.out Try.underlying33 rfl HIF.out ?_) | (go_at_call 24; (with_reducible refine KP.out.mono ?_); rintro e w4 ⟨rfl, h1, h2⟩; have HP4 := hid (HPz.out.op h1 h2); clear h1 h2))
          refine ⟨⟨k + 1, by omega, by go_num, hid (by rw [HPL.out, HST.out]; exact HP4.out)⟩, by simp [intOf]; omega⟩
      · have HST : Hid (stepL s x = ⟨allT2 s.T x.l, allE2 s.T s.E x.l, s.L⟩) := hid (by unfold stepL; rw [← HQ.out, if_neg (by omega), if_neg (by omega), if_pos rfl])
        have KT := hid (twinEntries_any x.l x.A x.cap h9 wz HINz.out)
        go_wp2_with (first | (go_at_call 27; (with_reducible refine (KR.out _).mono ?_); rintro e w3 ⟨rfl, rfl⟩) | (go_at_call 20; (with_reducible refine KT.out.mono ?_); rintro e w4 ⟨gt, rfl, hgt, hft, hb4⟩; have HT4 := hid (FlAt.rows enE_size hft ⟨[enM], rfl⟩); have HN4 := hid (notOwn_new (A := some ⟨gt, 0, none⟩) HPz.out.led (by rintro _ _ ⟨⟩; exact hgt) hb4); have HP4 := hid (HPz.out.kept hb4); clear hgt hft hb4) | (go_at_call 18; (with_reducible refine (led_all HP4.out.led x.l N3.out _ _ HT4.out HN4.out LT.out (by omega)).mono ?_); rintro e w5 ⟨rfl, h1, h2⟩; have HP5 := hid (HP4.out.op h1 h2); clear h1 h2))
        refine ⟨⟨k + 1, by omega, by go_num, hid (by rw [HPL.out, HST.out]; exact HP5.out)⟩, by simp [intOf]; omega⟩
      · have HST : Hid (stepL s x = s) := hid (by unfold stepL; rw [← HQ.out, if_neg (by omega), if_neg (by omega), if_neg (by omega)])
        go_wp2_with (go_at_call 27; (with_reducible refine (KR.out _).mono ?_); rintro e w3 ⟨rfl, rfl⟩)
        refine ⟨⟨k + 1, by omega, by go_num, hid (by rw [HPL.out, HST.out]; exact HPz.out)⟩, by simp [intOf]; omega⟩
    · have hki : ¬ ((k : Int) < (S.length : Int)) := by omega
      have HK : Hid (S.take k = S) := hid (List.take_of_length_le (by omega))
      go_wp2
      go_ret2
      exact ⟨_, _, rfl, by rw [← HK.out]; exact HP.out⟩
end Go.Proofs.Ytnapfjgokeloeaa
