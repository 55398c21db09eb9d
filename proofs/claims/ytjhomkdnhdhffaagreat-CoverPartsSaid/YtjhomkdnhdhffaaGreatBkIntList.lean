/- The Book's functions for lists of kind IntList: what they do with the lists that are held. -/
import Derived.Test.YtjhomkdnhdhffaaGreatBkLi
import Derived.Deep.QuietTactic
import Derived.BigQuiet
import Derived.BigRegion
import Derived.Deep.Light
import Derived.Deep.RegionLaw
import Derived.Deep.AppendLies
import Derived.Maps.AppendAt
namespace Go.Proofs.YtjhomkdnhdhffaaGreat
open Go.RowKit

theorem bi_IntList : (Tryz.prog.info? 65).map (fun i => (i.zero, i.size, i.bytes)) = some (some (.slice none 0 0), 1, 24) := by kernel_rfl
theorem bs_IntList : (Tryz.prog.info? 65).map (·.size) = some 1 := by kernel_rfl
theorem bh_IntList : (Tryz.prog.info? 105).map (fun i => (i.zero, i.size, i.bytes)) = some (some (.agg #[.slice none 0 0, .slice none 0 0, .int .i64 0]), 3, 56) := by kernel_rfl
theorem bz_IntList : (Tryz.prog.info? 105).map (·.size) = some 3 := by kernel_rfl

set_option maxRecDepth 100000 in
theorem markIntList_any (n : Nat) (hn : n ≤ 1099511627776) (w : World) : Calls Tryz.prog 134 #[.int .i64 n] w fun e w' => ∃ g, e = .returned (.slice (some ⟨g, 0, none⟩) 1 1) ∧ w.heap.size ≤ g ∧ w'.heap[g]? = some (.cells #[.int .i64 (-1000 - (n : Int))] 3 (0, 0)) ∧ Below w.heap.size w w' := by
  have hni : (n : Int) ≤ 1099511627776 := by omega
  clear hn
  go_enter Tryz.func134, Tryz.ntmps134
  go_wp2
  go_ret
  exact ⟨_, rfl, Nat.le_refl _, heap_alloc_new _ _, (Below.refl _ _).alloc (Nat.le_refl _) _⟩
set_option maxRecDepth 100000 in
theorem isIntList_any (n : Nat) (hn : n ≤ 1099511627776) (g : Nat) (w : World) (hg : w.heap[g]? = some (.cells #[.int .i64 (-1000 - (n : Int))] 3 (0, 0))) : Calls Tryz.prog 158 #[.slice (some ⟨g, 0, none⟩) 1 1, .int .i64 n] w fun e w' => e = .returned (.bool true) ∧ Below w.heap.size w w' := by
  have hni : (n : Int) ≤ 1099511627776 := by omega
  have c0 := row_cell hg 0 _ rfl
  clear hn hg
  go_enter Tryz.func158, Tryz.ntmps158
  go_wp2
  go_ret
  exact ⟨rfl, Below.refl _ _⟩
set_option maxRecDepth 100000 in
set_option maxHeartbeats 4000000 in
theorem fillIntList_any {TB : TypeId} {gb o nb BB : Nat} {F : Nat → Value} {ls : List HL} {w : World} (hbk : BookAt w TB gb o nb F) (hT1 : TB ≠ 65) (hT2 : TB ≠ 105) (hl : LotQ BB w (F 21) ls 0) (hBB : BB ≤ w.heap.size) :
    Calls Tryz.prog 50 #[.pointer (some ⟨gb, o, none⟩)] w fun e w' => (∃ v, e = .returned v) ∧ LotQ BB w' (F 21) ls ls.length ∧ Kp (LotS (F 21) ls) w w' := by
  have HBS := hid hBB
  clear hBB
  have HBK := hid hbk
  have HNS := hid (hbk.not hl.lot hT1 hT2)
  have HLA := hid hl
  have hfew : (ls.length : Int) ≤ 1073741824 := by have := hl.lot.few; omega
  obtain ⟨fv, hfv⟩ : ∃ fv, fv = F 21 := ⟨_, rfl⟩
  have HFV := hid hfv
  rw [← hfv] at HLA HNS ⊢
  clear hbk hl hT1 hT2 hfv
  go_enter Tryz.func50, Tryz.ntmps50
  go_wp2
  go_loopw [2] (fun i wr => ∃ j : Nat, j ≤ ls.length ∧ i = .int .i64 j ∧ Hid (LotQ BB wr fv ls j) ∧ Hid (Kp (LotS fv ls) w wr)) (fun i _ => ls.length - (intOf i).toNat)
  case atStart => exact ⟨0, by omega, rfl, HLA, hid (Kp.refl _ _)⟩
  case round =>
    clear HLA
    obtain ⟨j, hj, rfl, HLA, HKP⟩ := hrel
    have HBK1 := hid (HBK.out.kept (HKP.out.block gb HBK.out.lt HNS.out))
    have cf : wr.cell? ⟨gb, o + 22, none⟩ = some fv := by rw [HFV.out]; exact (HBK1.out.fld 21 (by decide)).1
    have hjl : (j : Int) ≤ 1073741824 := by omega
    obtain ⟨af, cpf, hfs⟩ := ownsRow_shape HLA.out.lot.out
    subst hfs
    by_cases hlt : j < ls.length
    · have hji : (j : Int) < (ls.length : Int) := by omega
      obtain ⟨x, hx⟩ : ∃ x, ls[j]? = some x := ⟨ls[j], by simp [hlt]⟩
      obtain ⟨gf, capf, hfx, _, _, _, _, hrg⟩ := HLA.out.lot.cells hx
      obtain ⟨rfl, rfl⟩ : af = some ⟨gf, 0, none⟩ ∧ cpf = capf := by injection hfx with h1 _ h3; exact ⟨h1, h3⟩
      clear hfx
      obtain ⟨xs, hxo, _⟩ := HLA.out.each j x hx
      obtain ⟨av, cv, hxv⟩ := ownsRow_shape hxo
      have hxu := HLA.out.un j x hx
      have hnum := HLA.out.lot.num j x hx
      obtain ⟨v, u, n, len⟩ := x
      have hxv' : v = .slice av len cv := hxv
      have hxu' : u = .slice none 0 0 := hxu
      clear hxv hxu
      subst hxv' hxu'
      have hnum' : n ≤ 1099511627776 ∧ len ≤ 4294967296 := hnum
      have HX := hid hx
      have HRG : Hid (wr.rangeAt gf (j * 3) [.slice av len cv, .slice none 0 0, .int .i64 n]) := hid hrg
      have HNUM := hid hnum'
      have hlen : (len : Int) ≤ 4294967296 := by omega
      have hni : (n : Int) ≤ 1099511627776 := by omega
      clear hx hrg hnum hnum' hxo
      -- L1
      go_upto_region 4 with (refine wpList_load_mid rfl 105 _ rfl _ _ rfl _ _ HRG.out Tryz.underlying105 rfl bz_IntList ?_)
      have HBH := hid (heap_alloc_new wr (.cells #[.slice av len cv, .slice none 0 0, .int .i64 n] 105))
      have HL1 := hid (HLA.out.below (w' := wr.alloc (.cells #[.slice av len cv, .slice none 0 0, .int .i64 n] 105)) ((Below.refl _ _).alloc (Nat.le_refl _) _))
      have HK1 := hid (HKP.out.alloc (.cells #[.slice av len cv, .slice none 0 0, .int .i64 n] 105))
      have HP1 := hid (HL1.out.start HX.out)
      have HBB : Hid (∀ b, LotS (.slice (some ⟨gf, 0, none⟩) ls.length cpf) ls b → b ≠ wr.heap.size) := hid (fun b hb => by have := HLA.out.lot.lt hb; omega)
      clear HRG cf HLA HKP HBK1
      generalize wr.alloc (.cells #[.slice av len cv, .slice none 0 0, .int .i64 n] 105) = w1 at *
      generalize wr.heap.size = bh at *
      go_wp2
      go_loopw [4] (fun i wx => ∃ k : Nat, k ≤ len ∧ i = .int .i64 k ∧ Hid (LotQ BB wx (.slice (some ⟨gf, 0, none⟩) ls.length cpf) ls j) ∧ Hid (PartQ BB wx ⟨.slice av len cv, .slice none 0 0, n, len⟩ k) ∧ Hid (wx.heap[bh]? = some (.cells #[.slice av len cv, .slice none 0 0, .int .i64 n] 105 (0, 0))) ∧ Hid (Kp (LotS (.slice (some ⟨gf, 0, none⟩) ls.length cpf) ls) w wx)) (fun i _ => len - (intOf i).toNat)
      case atStart => exact ⟨0, by omega, rfl, HL1, HP1, HBH, HK1⟩
      case round =>
        clear HL1 HP1 HBH HK1
        obtain ⟨k, hk, rfl, HLA, HPT, HBH, HKP⟩ := hrel
        have hkl : (k : Int) ≤ 4294967296 := by omega
        have c0 := row_cell HBH.out 0 _ rfl
        have c2 := row_cell HBH.out 2 _ rfl
        by_cases hlk : k < len
        · have hki : (k : Int) < (len : Int) := by omega
          obtain ⟨g, cap, hv⟩ : ∃ g cap, (Value.slice av len cv) = .slice (some ⟨g, 0, none⟩) len cap := by
            obtain ⟨xs, h1, _⟩ := HPT.out
            exact ownsRow_form' h1 (by show 0 < len; omega)
          cases hv
          go_upto_region 7 with fail
          obtain ⟨wz, hwz⟩ : ∃ wz, wz = wr := ⟨_, rfl⟩
          subst hwz
          have HNX : Hid (∀ w6 v, Below wz.heap.size wz w6 → MkAt BB w6 n v → w6.cell? ⟨bh, 0, none⟩ = some (.slice (some ⟨g, 0, none⟩) len cv) ∧ w6.cell? ⟨bh, 2, none⟩ = some (.int .i64 n) ∧ (w6.cell? ⟨g, k, none⟩).isSome = true ∧ w6.frozen? ⟨g, k, none⟩ = false ∧ LotQ BB (w6.setCell ⟨g, k, none⟩ v) (.slice (some ⟨gf, 0, none⟩) ls.length cpf) ls j ∧ PartQ BB (w6.setCell ⟨g, k, none⟩ v) ⟨.slice (some ⟨g, 0, none⟩) len cv, .slice none 0 0, n, len⟩ (k + 1) ∧ (w6.setCell ⟨g, k, none⟩ v).heap[bh]? = some (.cells #[.slice (some ⟨g, 0, none⟩) len cv, .slice none 0 0, .int .i64 n] 105 (0, 0)) ∧ Kp (LotS (.slice (some ⟨gf, 0, none⟩) ls.length cpf) ls) w (w6.setCell ⟨g, k, none⟩ v)) := hid (fun w6 v hb6 hmv => by
            have h1 := below_keep hb6 HBH.out
            have h2 := HLA.out.below hb6
            obtain ⟨xs, p1, p2⟩ := HPT.out
            have h3 : PartQ BB w6 ⟨.slice (some ⟨g, 0, none⟩) len cv, .slice none 0 0, n, len⟩ k := ⟨xs, ownsRow_other p1 fun b hb => hb6.block b (ownsRow_lt p1 hb), p2.kept (.below hb6)⟩
            obtain ⟨g2, cap2, hv2, h4, h4', h5, h6, h7⟩ := h2.store HX.out (Nat.le_refl _) hlk h3 hmv
            cases hv2
            exact ⟨row_cell h1 0 _ rfl, row_cell h1 2 _ rfl, h4, h4', h5, h6, by rw [heap_setCell_ne (fun e => HBB.out _ h7 e.symm)]; exact h1, (HKP.out.below hb6).setCell (.inl h7) _ _⟩)
          have HBZ : Hid (BB ≤ wz.heap.size) := hid (by have := HBS.out; have := HKP.out.size; omega)
          have CM : Hid (∀ W : World, Calls Tryz.prog 134 #[.int .i64 n] W fun e w' => ∃ g, e = .returned (.slice (some ⟨g, 0, none⟩) 1 1) ∧ W.heap.size ≤ g ∧ w'.heap[g]? = some (.cells #[.int .i64 (-1000 - (n : Int))] 3 (0, 0)) ∧ Below W.heap.size W w') := hid (fun W => markIntList_any n HNUM.out.1 W)
          go_region_law ((go_simp; go_at_call 134; refine (CM.out _).mono ?_; rintro e w6 ⟨gm, rfl, hgm, hmb, hb6⟩; have hbz : BB ≤ gm := (by have h9 := HBZ.out; have h8 : wz.heap.size ≤ gm := hgm; omega); obtain ⟨c60, c62, t0, e0, hfin⟩ := HNX.out w6 _ (Below.ofDrew hb6) ⟨gm, rfl, hbz, hmb⟩; have HG5 := hid hfin; clear hb6 hfin hgm hmb hbz; obtain ⟨p0, d0⟩ := Option.isSome_iff_exists.1 t0; clear t0))
          all_goals go_wp2
          all_goals go_roundw
          all_goals first
            | (simp [intOf]; omega; done)
            | exact ⟨k + 1, by omega, by go_num, hid HG5.out.1, hid HG5.out.2.1, hid HG5.out.2.2.1, hid HG5.out.2.2.2⟩
          -- /L2
        · obtain rfl : k = len := by omega
          have hki : ¬ ((k : Int) < (k : Int)) := by omega
          have HLN := hid (HLA.out.next HX.out HPT.out)
          -- L3
          go_wp2
          go_roundw
          case rel => exact ⟨j + 1, by omega, by go_num, HLN, HKP⟩
          case measure => simp [intOf]; omega
          -- /L3
      -- /L1
    · obtain rfl : j = ls.length := by omega
      have hji : ¬ ((ls.length : Int) < (ls.length : Int)) := by omega
      -- L4
      go_wp2
      go_end0
      exact ⟨⟨_, rfl⟩, HLA.out, HKP.out⟩
      -- /L4
set_option maxRecDepth 100000 in
set_option maxHeartbeats 4000000 in
theorem growIntList_any {TB : TypeId} {gb o nb BB : Nat} {F : Nat → Value} {ls : List HL} {w : World} (hbk : BookAt w TB gb o nb F) (hT1 : TB ≠ 65) (hT2 : TB ≠ 105) (hl : LotR BB w (F 21) ls 0) (hBB : BB ≤ w.heap.size) :
    Calls Tryz.prog 75 #[.pointer (some ⟨gb, o, none⟩)] w fun e w' => (∃ v, e = .returned v) ∧ (∃ ls2 : List HL, ls2.length = ls.length ∧ LotR BB w' (F 21) ls2 ls2.length) ∧ Kp (LotS (F 21) ls) w w' := by
  have HBS := hid hBB
  clear hBB
  have HBK := hid hbk
  have HNS := hid (hbk.not hl.lot hT1 hT2)
  have HLB := hid hl
  have hfew : (ls.length : Int) ≤ 1073741824 := by have := hl.lot.few; omega
  obtain ⟨fv, hfv⟩ : ∃ fv, fv = F 21 := ⟨_, rfl⟩
  have HFV := hid hfv
  rw [← hfv] at HLB HNS ⊢
  clear hbk hl hT1 hT2 hfv
  go_enter Tryz.func75, Tryz.ntmps75
  go_wp2
  go_loopw [2] (fun i wr => ∃ (j : Nat) (l2 : List HL), j ≤ ls.length ∧ i = .int .i64 j ∧ Hid (l2.length = ls.length) ∧ Hid (∀ (i : Nat) (h : HL), l2[i]? = some h → ∃ h0, ls[i]? = some h0 ∧ h0.v = h.v) ∧ Hid (LotR BB wr fv l2 j) ∧ Hid (Kp (LotS fv ls) w wr)) (fun i _ => ls.length - (intOf i).toNat)
  case atStart => exact ⟨0, ls, by omega, rfl, hid rfl, hid (fun i h hi => ⟨h, hi, rfl⟩), HLB, hid (Kp.refl _ _)⟩
  case round =>
    clear HLB
    obtain ⟨j, l2, hj, rfl, HLN, HSV, HLB, HKP⟩ := hrel
    have HBK1 := hid (HBK.out.kept (HKP.out.block gb HBK.out.lt HNS.out))
    have cf : wr.cell? ⟨gb, o + 22, none⟩ = some fv := by rw [HFV.out]; exact (HBK1.out.fld 21 (by decide)).1
    have hjl : (j : Int) ≤ 1073741824 := by omega
    obtain ⟨af, cpf, hfs⟩ := ownsRow_shape HLB.out.lot.out
    rw [HLN.out] at hfs
    subst hfs
    by_cases hlt : j < ls.length
    · have hji : (j : Int) < (ls.length : Int) := by omega
      obtain ⟨x, hx⟩ : ∃ x, l2[j]? = some x := ⟨l2[j]'(by rw [HLN.out]; exact hlt), by simp [HLN.out, hlt]⟩
      obtain ⟨gf, capf, hfx, _, _, _, fz, hrg⟩ := HLB.out.lot.cells hx
      obtain ⟨rfl, rfl⟩ : af = some ⟨gf, 0, none⟩ ∧ cpf = capf := by injection hfx with h1 _ h3; exact ⟨h1, h3⟩
      clear hfx
      obtain ⟨⟨xs, hxo, _⟩, hxu⟩ := HLB.out.rest j x (Nat.le_refl _) hx
      obtain ⟨av, cv, hxv⟩ := ownsRow_shape hxo
      have hnum := HLB.out.lot.num j x hx
      obtain ⟨v, u, n, len⟩ := x
      have hxv' : v = .slice av len cv := hxv
      have hxu' : u = .slice none 0 0 := hxu
      clear hxv hxu
      subst hxv' hxu'
      have hnum' : n ≤ 1099511627776 ∧ len ≤ 4294967296 := hnum
      have HX := hid hx
      have HRG : Hid (wr.rangeAt gf (j * 3) [.slice av len cv, .slice none 0 0, .int .i64 n]) := hid hrg
      have HNUM := hid hnum'
      have hlen : (len : Int) ≤ 4294967296 := by omega
      have hni : (n : Int) ≤ 1099511627776 := by omega
      clear hx hrg hnum hnum' hxo fz
      -- G1
      go_upto_region 4 with (refine wpList_load_mid rfl 105 _ rfl _ _ rfl _ _ HRG.out Tryz.underlying105 rfl bz_IntList ?_)
      have HBH := hid (heap_alloc_new wr (.cells #[.slice av len cv, .slice none 0 0, .int .i64 n] 105))
      have HL1 := hid (HLB.out.below (w' := wr.alloc (.cells #[.slice av len cv, .slice none 0 0, .int .i64 n] 105)) ((Below.refl _ _).alloc (Nat.le_refl _) _))
      have HK1 := hid (HKP.out.alloc (.cells #[.slice av len cv, .slice none 0 0, .int .i64 n] 105))
      have HP1 := hid (HL1.out.begins HX.out)
      have HBB : Hid (∀ b, LotS (.slice (some ⟨gf, 0, none⟩) ls.length cpf) l2 b → b ≠ wr.heap.size) := hid (fun b hb => by have := HLB.out.lot.lt hb; omega)
      have HBX : Hid (∀ b, (Value.slice av len cv).ownBlock = some b → LotS (.slice (some ⟨gf, 0, none⟩) ls.length cpf) ls b) := hid (fun b hb => by
        obtain ⟨h0, q1, q2⟩ := HSV.out j _ HX.out
        exact .inr ⟨j, h0, q1, .inl (by rw [q2]; exact hb)⟩)
      clear HRG cf HLB HKP HBK1
      generalize wr.alloc (.cells #[.slice av len cv, .slice none 0 0, .int .i64 n] 105) = w1 at *
      generalize wr.heap.size = bh at *
      have c00 := row_cell HBH.out 0 _ rfl
      go_upto_region 5 with fail
      clear c00
      go_wp2
      go_loopw [4, 5] (fun lo i wx => ∃ k : Nat, k ≤ 70 ∧ i = .int .i64 k ∧ Hid (GrowsQ BB w1 wx ⟨.slice av len cv, .slice none 0 0, n, len⟩ k lo) ∧ Hid (wx.heap[bh]? = some (.cells #[.slice av len cv, .slice none 0 0, .int .i64 n] 105 (0, 0))) ∧ Hid (Kp (fun b => (Value.slice av len cv).ownBlock = some b) w1 wx)) (fun _ i _ => 70 - (intOf i).toNat)
      case atStart => exact ⟨0, by omega, rfl, HP1, HBH, hid (Kp.refl _ _)⟩
      case round =>
        clear HP1 HBH
        obtain ⟨k, hk, rfl, HGR, HBH, HKX⟩ := hrel
        obtain ⟨lo, hlo⟩ : ∃ lo, lo = u4 := ⟨_, rfl⟩
        subst hlo
        have hkl : (k : Int) ≤ 70 := by omega
        have c2 := row_cell HBH.out 2 _ rfl
        by_cases hlk : k < 70
        · have hki : (k : Int) < 70 := by omega
          obtain ⟨xs, hown, hM⟩ := HGR.out.own
          have HOWN := hid hown
          have HM := hid hM
          have hown' : wr.ownsRow 0 65 1 lo (len + k) xs := hown
          obtain ⟨al, cl, hls⟩ := ownsRow_shape hown'
          subst hls
          have CM : Hid (∀ W : World, Calls Tryz.prog 134 #[.int .i64 n] W fun e w' => ∃ g, e = .returned (.slice (some ⟨g, 0, none⟩) 1 1) ∧ W.heap.size ≤ g ∧ w'.heap[g]? = some (.cells #[.int .i64 (-1000 - (n : Int))] 3 (0, 0)) ∧ Below W.heap.size W w') := hid (fun W => markIntList_any n HNUM.out.1 W)
          have HBZ : Hid (BB ≤ wr.heap.size) := hid (by have := HBS.out; have := HK1.out.size; have := HKX.out.size; omega)
          obtain ⟨i1, hi1, hz10, hz11, hz12⟩ := info_parts bi_IntList
          have HLEN : Hid (len ≤ 4294967296) := hid HNUM.out.2
          clear hown hM hown'
          -- G2
          go_upto_region 8 with fail
          go_wp2_with (first | (go_at_call 134; refine (CM.out _).mono ?_; rintro e w6 ⟨gm, rfl, hgm, hmb, hb6⟩; have HMK : Hid (MkAt BB w6 n (.slice (some ⟨gm, 0, none⟩) 1 1)) := hid ⟨gm, rfl, (by have := HBZ.out; have h8 : wr.heap.size ≤ gm := hgm; omega), hmb⟩; clear hgm hmb; have HB6 := hid hb6; have HOA : Hid ((w6.alloc (.cells #[.slice (some ⟨gm, 0, none⟩) 1 1] 65)).ownsRow 0 65 1 (.slice al (len + k) cl) (len + k) xs) := hid (ownsRow_other HOWN.out fun b hb => by rw [Below.heap_alloc _ _ _ (by have := ownsRow_lt HOWN.out hb; have := hb6.size; omega)]; exact hb6.block b (ownsRow_lt HOWN.out hb)); clear hb6) | (at_builtin; refine wpList_append_two rfl _ _ 27 rfl 0 65 i1 (.slice none 0 0) 1 24 Tryz.underlying27 hi1 hz10 hz11 hz12 rfl (by decide) _ _ _ rfl HOA.out ⟨w6.heap.size, 0, none⟩ 1 1 [.slice (some ⟨gm, 0, none⟩) 1 1] rfl rfl (cells_new _ _ _) (by simp [Value.oneCell']) (by omega) ?d3 ?d4 (Nat.zero_le _) w6.heap.size.succ (by simp) ?_))
          case d3 => have := HLEN.out; unfold maxLen; omega
          case d4 => have := HLEN.out; omega
          intro gu ucap w7 hown7 hcase
          have HKA : Hid (Below wr.heap.size wr (w6.alloc (.cells #[.slice (some ⟨gm, 0, none⟩) 1 1] 65))) := hid (HB6.out.trans (((Below.refl _ _).alloc (Nat.le_refl _) _).mono HB6.out.size))
          have HG7 : Hid (GrowsQ BB w1 w7 ⟨.slice av len cv, .slice none 0 0, n, len⟩ (k + 1) (.slice (some ⟨gu, 0, none⟩) (len + k + 1) ucap)) := hid ((HGR.out.kept HKA.out).push HOA.out (HM.out.kept (.below HKA.out)) (HMK.out.kept (.below ((Below.refl _ _).alloc (Nat.le_refl _) _))) (by have h1 := HKX.out.size; have h2 := HKA.out.size; omega) hown7 (by
            rcases hcase with h1 | ⟨h1, h2⟩
            · exact .inl h1
            · exact .inr ⟨by rw [alloc_size]; exact h1, h2⟩))
          have HK7 : Hid (Kp (fun b => (Value.slice av len cv).ownBlock = some b) w1 w7) := hid (by
            have h0 := HKX.out.below HKA.out
            rcases hcase with ⟨h1, h2⟩ | ⟨_, h2⟩
            · refine h0.grown h2 fun b hb => ?_
              cases hb
              rcases HGR.out.at_ with h3 | ⟨g', h3, h4⟩
              · left; exact h3.symm.trans h1
              · right; rw [h1] at h3; cases h3; exact h4
            · exact h0.grown h2 fun b hb => by cases hb)
          have HB7 : Hid (w7.heap[bh]? = some (.cells #[.slice av len cv, .slice none 0 0, .int .i64 n] 105 (0, 0))) := hid (by
            have h1 := below_keep HKA.out HBH.out
            rcases hcase with ⟨h2, h3⟩ | ⟨_, h3⟩
            · rw [h3.block bh (heap_lt h1) fun e => ?_]; exact h1
              cases e
              obtain ⟨cs, hcs⟩ := ownsRow_type HOA.out h2
              rw [h1] at hcs; cases hcs
            · rw [h3.block bh (heap_lt h1) fun e => by cases e]; exact h1)
          clear hown7 hcase
          have hadd : len + k + 1 = len + (k + 1) := rfl
          go_wp2
          go_roundw
          case rel => exact ⟨k + 1, by omega, by go_num, HG7, HB7, HK7⟩
          case measure => simp [intOf]; omega
          -- /G2
        · obtain rfl : k = 70 := by omega
          have HBK2 : Hid (BookAt wr TB gb o nb F) := hid (HBK.out.kept (by
            have h1 := HK1.out.trans (HKX.out.mono (S := LotS (.slice (some ⟨gf, 0, none⟩) ls.length cpf) ls) fun b _ hb => HBX.out b hb) (fun b _ hb => hb)
            exact h1.block gb HBK.out.lt HNS.out))
          have cf : wr.cell? ⟨gb, o + 22, none⟩ = some (.slice (some ⟨gf, 0, none⟩) ls.length cpf) := by rw [HFV.out]; exact (HBK2.out.fld 21 (by decide)).1
          have HGF : Hid (∀ b, b < w1.heap.size → (Value.slice av len cv).ownBlock ≠ some b → wr.heap[b]? = w1.heap[b]?) := hid (fun b hb hn => HKX.out.block b hb hn)
          have hgf : wr.heap[gf]? = w1.heap[gf]? := HGF.out gf (HL1.out.lot.lt (.inl rfl)) (fun e => HL1.out.lot.out_ne HX.out (.inl e) rfl)
          obtain ⟨g9, c9, hfx2, _, d1, _, f1, _⟩ := HL1.out.lot.cells HX.out
          have hg9 : g9 = gf := by injection hfx2 with h1; injection h1 with h1; injection h1 with h1; exact h1.symm
          subst g9
          clear hfx2
          have q1 : wr.cell? ⟨gf, j * 3 + 1, none⟩ = some (.slice none 0 0) := (World.cell?_of_block hgf).trans d1
          have q2 : wr.frozen? ⟨gf, j * 3 + 1, none⟩ = false := (World.frozen?_of_block hgf).trans f1
          obtain ⟨ys, hyo, _⟩ := HGR.out.own
          obtain ⟨al, cl, hls⟩ := ownsRow_shape hyo
          subst hls
          have HLN2 := hid (HL1.out.next HX.out HGR.out HGF.out (by rw [HLN.out]))
          have HK2 : Hid (Kp (LotS (.slice (some ⟨gf, 0, none⟩) ls.length cpf) ls) w (wr.setCell ⟨gf, j * 3 + 1, none⟩ (.slice al (len + 70) cl))) := hid ((HK1.out.trans HKX.out fun b _ hb => HBX.out b hb).setCell (.inl (.inl rfl)) _ _)
          have HSV2 : Hid (∀ (i : Nat) (h : HL), (l2.set j { (⟨.slice av len cv, .slice none 0 0, n, len⟩ : HL) with u := .slice al (len + 70) cl })[i]? = some h → ∃ h0, ls[i]? = some h0 ∧ h0.v = h.v) := hid (fun i h hi => by
            by_cases e : j = i
            · subst e
              rw [List.getElem?_set_self (by rw [HLN.out]; exact hlt)] at hi
              cases hi
              obtain ⟨h0, q1, q2⟩ := HSV.out j _ HX.out
              exact ⟨h0, q1, q2⟩
            · rw [List.getElem?_set_ne e] at hi
              exact HSV.out i h hi)
          clear hgf d1 f1 hyo
          -- G3
          go_wp2
          go_roundw
          case rel => exact ⟨j + 1, _, by omega, by go_num, hid (by rw [List.length_set]; exact HLN.out), HSV2, HLN2, HK2⟩
          case measure => simp [intOf]; omega
          -- /G3
      -- /G1
    · obtain rfl : j = ls.length := by omega
      have hji : ¬ ((ls.length : Int) < (ls.length : Int)) := by omega
      -- G4
      go_wp2
      go_end0
      exact ⟨⟨_, rfl⟩, ⟨l2, HLN.out, by rw [HLN.out]; exact HLB.out⟩, HKP.out⟩
      -- /G4
set_option maxRecDepth 100000 in
set_option maxHeartbeats 4000000 in
theorem lookIntList_any {TB : TypeId} {gb o nb BB : Nat} {F : Nat → Value} {ls : List HL} {w : World} (hbk : BookAt w TB gb o nb F) (hl : LotR BB w (F 21) ls ls.length) :
    Calls Tryz.prog 100 #[.pointer (some ⟨gb, o, none⟩)] w fun e w' => e = .returned (.bool true) ∧ Below w.heap.size w w' := by
  have HBK := hid hbk
  have HLB := hid hl
  have hfew : (ls.length : Int) ≤ 1073741824 := by have := hl.lot.few; omega
  obtain ⟨fv, hfv⟩ : ∃ fv, fv = F 21 := ⟨_, rfl⟩
  have HFV := hid hfv
  rw [← hfv] at HLB
  clear hbk hl hfv
  go_enter Tryz.func100, Tryz.ntmps100
  go_wp2
  go_loopw [3] (fun i wr => ∃ (j : Nat), j ≤ ls.length ∧ i = .int .i64 j ∧ Hid (Below w.heap.size w wr)) (fun i _ => ls.length - (intOf i).toNat)
  case atStart => exact ⟨0, by omega, rfl, hid (Below.refl _ _)⟩
  case round =>
    obtain ⟨j, hj, rfl, HB⟩ := hrel
    have HBK1 := hid (HBK.out.below HB.out)
    have HLB1 := hid (HLB.out.below HB.out)
    have cf : wr.cell? ⟨gb, o + 22, none⟩ = some fv := by rw [HFV.out]; exact (HBK1.out.fld 21 (by decide)).1
    have hjl : (j : Int) ≤ 1073741824 := by omega
    obtain ⟨af, cpf, hfs⟩ := ownsRow_shape HLB1.out.lot.out
    subst hfs
    by_cases hlt : j < ls.length
    · have hji : (j : Int) < (ls.length : Int) := by omega
      obtain ⟨x, hx⟩ : ∃ x, ls[j]? = some x := ⟨ls[j], by simp [hlt]⟩
      obtain ⟨gf, capf, hfx, _, _, _, _, hrg⟩ := HLB1.out.lot.cells hx
      obtain ⟨rfl, rfl⟩ : af = some ⟨gf, 0, none⟩ ∧ cpf = capf := by injection hfx with h1 _ h3; exact ⟨h1, h3⟩
      clear hfx
      obtain ⟨hrv, hru⟩ := HLB1.out.done j x hlt hx
      have hnum := HLB1.out.lot.num j x hx
      obtain ⟨v, u, n, len⟩ := x
      have hrv' : ReadQ BB wr n v len := hrv
      have hru' : ReadQ BB wr n u (len + 70) := hru
      obtain ⟨av, cv, hv, hva⟩ := hrv'
      obtain ⟨au, cu, hu, hua⟩ := hru'
      subst hv hu
      obtain ⟨gu, _, rfl, _⟩ := hua 0 (by omega)
      have hnum' : n ≤ 1099511627776 ∧ len ≤ 4294967296 := hnum
      have HVA := hid hva
      have HUA : Hid (∀ i, i < len + 70 → ∃ u, wr.cell? ⟨gu, i, none⟩ = some u ∧ MkAt BB wr n u) := hid (fun i hi => by
        obtain ⟨g9, u9, h1, h2, h3⟩ := hua i hi
        cases h1; exact ⟨u9, h2, h3⟩)
      have HRG : Hid (wr.rangeAt gf (j * 3) [.slice av len cv, .slice (some ⟨gu, 0, none⟩) (len + 70) cu, .int .i64 n]) := hid hrg
      have HNUM := hid hnum'
      have hlen : (len : Int) ≤ 4294967296 := by omega
      have hni : (n : Int) ≤ 1099511627776 := by omega
      clear hx hrg hnum hnum' hrv hru hva hua
      -- K1
      go_upto_region 5 with (refine wpList_load_mid rfl 105 _ rfl _ _ rfl _ _ HRG.out Tryz.underlying105 rfl bz_IntList ?_)
      have HBH := hid (heap_alloc_new wr (.cells #[.slice av len cv, .slice (some ⟨gu, 0, none⟩) (len + 70) cu, .int .i64 n] 105))
      have HKA : Hid (Below wr.heap.size wr (wr.alloc (.cells #[.slice av len cv, .slice (some ⟨gu, 0, none⟩) (len + 70) cu, .int .i64 n] 105))) := hid ((Below.refl _ _).alloc (Nat.le_refl _) _)
      have HB1 := hid (HB.out.trans (HKA.out.mono HB.out.size))
      have HUA1 := hid (fun i hi => (by
        obtain ⟨u9, h2, h3⟩ := HUA.out i hi
        exact ⟨u9, (World.cell?_of_block (HKA.out.block gu (World.block_lt_of_cell? _ _ h2))).trans h2, h3.kept (.below HKA.out)⟩ : ∃ u, (wr.alloc (.cells #[.slice av len cv, .slice (some ⟨gu, 0, none⟩) (len + 70) cu, .int .i64 n] 105)).cell? ⟨gu, i, none⟩ = some u ∧ MkAt BB (wr.alloc (.cells #[.slice av len cv, .slice (some ⟨gu, 0, none⟩) (len + 70) cu, .int .i64 n] 105)) n u))
      have HVA1 := hid (fun i hi => (by
        obtain ⟨g9, u9, h1, h2, h3⟩ := HVA.out i hi
        exact ⟨g9, u9, h1, (World.cell?_of_block (HKA.out.block g9 (World.block_lt_of_cell? _ _ h2))).trans h2, h3.kept (.below HKA.out)⟩ : ∃ g u, av = some ⟨g, 0, none⟩ ∧ (wr.alloc (.cells #[.slice av len cv, .slice (some ⟨gu, 0, none⟩) (len + 70) cu, .int .i64 n] 105)).cell? ⟨g, i, none⟩ = some u ∧ MkAt BB (wr.alloc (.cells #[.slice av len cv, .slice (some ⟨gu, 0, none⟩) (len + 70) cu, .int .i64 n] 105)) n u))
      clear HRG cf HBK1 HLB1 HKA HUA HVA HB
      generalize wr.alloc (.cells #[.slice av len cv, .slice (some ⟨gu, 0, none⟩) (len + 70) cu, .int .i64 n] 105) = w1 at *
      generalize wr.heap.size = bh at *
      have c0 := row_cell HBH.out 0 _ rfl
      have c1 := row_cell HBH.out 1 _ rfl
      have hcast : ((len + 70 : Nat) : Int) = (len : Int) + 70 := by omega
      go_upto_region 8 with fail
      clear c0 c1
      go_loopw [5] (fun i wx => ∃ (k : Nat), k ≤ len + 70 ∧ i = .int .i64 k ∧ Hid (Below w1.heap.size w1 wx)) (fun i _ => (len + 70) - (intOf i).toNat)
      case atStart => exact ⟨0, by omega, rfl, hid (Below.refl _ _)⟩
      case round =>
        obtain ⟨k, hk, rfl, HX⟩ := hrel
        have hkl : (k : Int) ≤ 4294967366 := by omega
        have HBX := hid (below_keep HX.out HBH.out)
        have c0 := row_cell HBX.out 0 _ rfl
        have c1 := row_cell HBX.out 1 _ rfl
        have c2 := row_cell HBX.out 2 _ rfl
        by_cases hlk : k < len + 70
        · have hki : (k : Int) < (len : Int) + 70 := by omega
          obtain ⟨u1, hr1, g1, hu1, _, hm1⟩ := HUA1.out k hlk
          subst hu1
          have r1 : wr.cell? ⟨gu, k, none⟩ = some (.slice (some ⟨g1, 0, none⟩) 1 1) := (World.cell?_of_block (HX.out.block gu (World.block_lt_of_cell? _ _ hr1))).trans hr1
          have HM1 := hid (below_keep HX.out hm1)
          clear hr1 hm1
          have HGU : Hid (gu < wr.heap.size) := hid (World.block_lt_of_cell? _ _ r1)
          have CI := hid (fun W : Bw wr => isIntList_any n HNUM.out.1 g1 W.1 (below_keep W.2 HM1.out))
          by_cases hkv : k < len
          · have hkvi : (k : Int) < (len : Int) := by omega
            obtain ⟨gv, u2, hav, hr2, g2, hu2, _, hm2⟩ := HVA1.out k hkv
            subst hav hu2
            have r2 : wr.cell? ⟨gv, k, none⟩ = some (.slice (some ⟨g2, 0, none⟩) 1 1) := (World.cell?_of_block (HX.out.block gv (World.block_lt_of_cell? _ _ hr2))).trans hr2
            have HM2 := hid (below_keep HX.out hm2)
            clear hr2 hm2
            have HGV : Hid (gv < wr.heap.size) := hid (World.block_lt_of_cell? _ _ r2)
            have CI2 := hid (fun W : Bw wr => isIntList_any n HNUM.out.1 g2 W.1 (below_keep W.2 HM2.out))
            -- K2
            go_upto_region 10 with fail
            refine wp_region_bw (by kernel_rfl) (by kernel_rfl) ?_
            go_big_quiet_step (fail)
            (go_big_quiet_want; refine quiet_load_cell 27 _ rfl _ _ rfl _ (c1) (fun w h => by go_simp) ?_; simp only [Act.put, List.setIfInBounds_toArray, List.set_cons_zero, List.set_cons_succ]; go_big_quiet_on)
            iterate 2 (go_big_quiet_step (fail))
            (go_big_quiet_want; refine quiet_load_cell 65 _ rfl _ _ rfl _ (r1) (fun w h => by go_simp) ?_; simp only [Act.put, List.setIfInBounds_toArray, List.set_cons_zero, List.set_cons_succ]; go_big_quiet_on)
            go_big_quiet_step (fail)
            (go_big_quiet_want; refine quiet_load_cell 3 _ rfl _ _ rfl _ (c2) (fun w h => by go_simp) ?_; simp only [Act.put, List.setIfInBounds_toArray, List.set_cons_zero, List.set_cons_succ]; go_big_quiet_on)
            (go_big_quiet_want; go_big_quiet_op; go_big_quiet_call ((go_at_call 158; exact Calls.bw (CI.out _))))
            iterate 4 (go_big_quiet_step (fail))
            (go_big_quiet_want; refine quiet_load_cell 27 _ rfl _ _ rfl _ (c0) (fun w h => by go_simp) ?_; simp only [Act.put, List.setIfInBounds_toArray, List.set_cons_zero, List.set_cons_succ]; go_big_quiet_on)
            iterate 4 (go_big_quiet_step (fail))
            (go_big_quiet_want; refine quiet_load_cell 27 _ rfl _ _ rfl _ (c0) (fun w h => by go_simp) ?_; simp only [Act.put, List.setIfInBounds_toArray, List.set_cons_zero, List.set_cons_succ]; go_big_quiet_on)
            iterate 2 (go_big_quiet_step (fail))
            (go_big_quiet_want; refine quiet_load_cell 65 _ rfl _ _ rfl _ (r2) (fun w h => by go_simp) ?_; simp only [Act.put, List.setIfInBounds_toArray, List.set_cons_zero, List.set_cons_succ]; go_big_quiet_on)
            go_big_quiet_step (fail)
            (go_big_quiet_want; refine quiet_load_cell 3 _ rfl _ _ rfl _ (c2) (fun w h => by go_simp) ?_; simp only [Act.put, List.setIfInBounds_toArray, List.set_cons_zero, List.set_cons_succ]; go_big_quiet_on)
            (go_big_quiet_want; go_big_quiet_op; go_big_quiet_call ((go_at_call 158; exact Calls.bw (CI2.out _))))
            iterate 3 (go_big_quiet_step (fail))
            refine wpQuiet_nil ?_; rintro w' ⟨X, rfl⟩
            have HXX := hid (HX.out.trans (X.2.mono HX.out.size))
            go_wp2
            go_roundw
            case rel => exact ⟨k + 1, by omega, by go_num, HXX⟩
            case measure => simp [intOf]; omega
            -- /K2
          · have hkvi : ¬ (k : Int) < (len : Int) := by omega
            -- K3
            go_upto_region 10 with fail
            refine wp_region_bw (by kernel_rfl) (by kernel_rfl) ?_
            go_big_quiet_step (fail)
            (go_big_quiet_want; refine quiet_load_cell 27 _ rfl _ _ rfl _ (c1) (fun w h => by go_simp) ?_; simp only [Act.put, List.setIfInBounds_toArray, List.set_cons_zero, List.set_cons_succ]; go_big_quiet_on)
            iterate 2 (go_big_quiet_step (fail))
            (go_big_quiet_want; refine quiet_load_cell 65 _ rfl _ _ rfl _ (r1) (fun w h => by go_simp) ?_; simp only [Act.put, List.setIfInBounds_toArray, List.set_cons_zero, List.set_cons_succ]; go_big_quiet_on)
            go_big_quiet_step (fail)
            (go_big_quiet_want; refine quiet_load_cell 3 _ rfl _ _ rfl _ (c2) (fun w h => by go_simp) ?_; simp only [Act.put, List.setIfInBounds_toArray, List.set_cons_zero, List.set_cons_succ]; go_big_quiet_on)
            (go_big_quiet_want; go_big_quiet_op; go_big_quiet_call ((go_at_call 158; exact Calls.bw (CI.out _))))
            iterate 4 (go_big_quiet_step (fail))
            (go_big_quiet_want; refine quiet_load_cell 27 _ rfl _ _ rfl _ (c0) (fun w h => by go_simp) ?_; simp only [Act.put, List.setIfInBounds_toArray, List.set_cons_zero, List.set_cons_succ]; go_big_quiet_on)
            iterate 14 (go_big_quiet_step (fail))
            refine wpQuiet_nil ?_; rintro w' ⟨X, rfl⟩
            have HXX := hid (HX.out.trans (X.2.mono HX.out.size))
            go_wp2
            go_roundw
            case rel => exact ⟨k + 1, by omega, by go_num, HXX⟩
            case measure => simp [intOf]; omega
            -- /K3
        · have hki : ¬ (k : Int) < (len : Int) + 70 := by omega
          have HBE := hid (HB1.out.trans (HX.out.mono HB1.out.size))
          -- K4
          go_wp2
          go_roundw
          case rel => exact ⟨j + 1, by omega, by go_num, HBE⟩
          case measure => simp [intOf]; omega
          -- /K4
      -- /K1
    · obtain rfl : j = ls.length := by omega
      have hji : ¬ ((ls.length : Int) < (ls.length : Int)) := by omega
      -- K5
      go_wp2
      go_ret
      exact ⟨rfl, HB.out⟩
      -- /K5
set_option maxRecDepth 100000 in
set_option maxHeartbeats 4000000 in
theorem keepIntList_any {TB : TypeId} {gb o nb len : Nat} {F : Nat → Value} {ls : List HL} {v : Value} {xs : List Value} {w : World} (hbk : BookAt w TB gb o nb F) (hT1 : TB ≠ 65) (hT2 : TB ≠ 105) (hl : LotA 65 105 1 mkIntList w (F 21) ls 0) (hls : ls.length + 1 ≤ 1073741824) (hn : nb < 1099511627776) (hlen : len ≤ 4294967296)
    (hv : w.ownsRow 0 65 1 v len xs) (hap : ∀ (j : Nat) (y : HL) (b : Nat), ls[j]? = some y → y.has b → v.ownBlock ≠ some b) :
    Calls Tryz.prog 28 #[.pointer (some ⟨gb, o, none⟩), v] w fun e w' => (∃ r, e = .returned r) ∧ ∃ fv2, (∀ b, fv2.ownBlock = some b → (F 21).ownBlock = some b ∨ w.heap.size ≤ b) ∧ BookAt w' TB gb o (nb + 1) (fun k => if k = 21 then fv2 else F k) ∧ LotA 65 105 1 mkIntList w' fv2 (ls ++ [⟨v, .slice none 0 0, nb + 1, len⟩]) 0 ∧ Kp (fun b => b = gb ∨ (F 21).ownBlock = some b) w w' := by
  obtain ⟨av, cv, rfl⟩ := ownsRow_shape hv
  have HFIN := hid (fun w5 fv2 ho hg => keep_lot (w5 := w5) (fv2 := fv2) (i := 21) hbk (by decide) hT1 hT2 hl hls hn hlen hv hap ho hg)
  have HBK := hid hbk
  have HLX := hid hl.lot
  have HLS := hid hls
  have HGL := hid hbk.lt
  obtain ⟨fv, hfv⟩ : ∃ fv, fv = F 21 := ⟨_, rfl⟩
  have c0 := hbk.num.1
  have f0 := hbk.num.2
  have HFX : Hid (w.cell? ⟨gb, o + 22, none⟩ = some fv) := hid (by rw [hfv]; exact (hbk.fld 21 (by decide)).1)
  have HB1 := hid (hbk.setN (nb + 1))
  have HNG : Hid (¬ LotS fv ls gb) := hid (by rw [hfv]; exact hbk.not hl.lot hT1 hT2)
  have HFV := hid hfv
  rw [← hfv] at HFIN HLX
  have hni : (nb : Int) < 1099511627776 := by omega
  have hcast : ((nb + 1 : Nat) : Int) = (nb : Int) + 1 := by omega
  clear hbk hT1 hT2 hl hls hn hlen hv hap hfv
  go_enter Tryz.func28, Tryz.ntmps28
  -- N1
  go_upto_region 1 with fail
  clear c0 f0
  have HW1 : Hid (w.setCell ⟨gb, o, none⟩ (.int .i64 ((nb : Int) + 1)) = w.setCell ⟨gb, o, none⟩ (.int .i64 ((nb + 1 : Nat) : Int))) := hid (by rw [hcast])
  rw [HW1.out]
  have c1 : (w.setCell ⟨gb, o, none⟩ (.int .i64 ((nb + 1 : Nat) : Int))).cell? ⟨gb, o, none⟩ = some (.int .i64 ((nb + 1 : Nat) : Int)) := HB1.out.num.1
  have c2 : (w.setCell ⟨gb, o, none⟩ (.int .i64 ((nb + 1 : Nat) : Int))).cell? ⟨gb, o + 22, none⟩ = some fv := by rw [HFV.out]; exact (HB1.out.fld 21 (by decide)).1
  have HOA : Hid (((w.setCell ⟨gb, o, none⟩ (.int .i64 ((nb + 1 : Nat) : Int))).drew.alloc (.cells #[.slice av len cv, .slice none 0 0, .int .i64 ((nb + 1 : Nat) : Int)] 105)).ownsRow 0 105 3 fv ls.length (lotV ls)) := hid (ownsRow_other HLX.out.out fun b hb => by
    rw [Below.heap_alloc _ _ _ (by show b < (w.setCell _ _).heap.size; rw [setCell_size]; exact ownsRow_lt HLX.out.out hb)]
    exact heap_setCell_ne fun e => by subst e; exact HNG.out (.inl hb))
  obtain ⟨nn, hnn⟩ : ∃ z : Int, z = ((nb + 1 : Nat) : Int) := ⟨_, rfl⟩
  rw [← hnn] at c1 c2 HOA HFIN ⊢
  have HNN : Hid (nn = ((nb + 1 : Nat) : Int)) := hid hnn
  have lgb : gb < (w.setCell ⟨gb, o, none⟩ (.int .i64 nn)).heap.size := by rw [setCell_size]; exact HGL.out
  have HSW : Hid ((w.setCell ⟨gb, o, none⟩ (.int .i64 nn)).heap.size = w.heap.size) := hid (setCell_size _ _ _)
  clear hnn hcast HW1 HB1 HBK
  generalize w.setCell ⟨gb, o, none⟩ (.int .i64 nn) = w1 at *
  obtain ⟨i1, hi1, hz10, hz11, hz12⟩ := info_parts bh_IntList
  go_region_law ((refine step_append_lies _ (by rfl) _ _ 55 (by rfl) 0 105 i1 (.agg #[.slice none 0 0, .slice none 0 0, .int .i64 0]) 3 56 Tryz.underlying55 hi1 hz10 hz11 hz12 (by rfl) (by decide) fv ls.length (lotV ls) (by rfl) HOA.out ⟨w1.heap.size, 0, none⟩ 1 1 [.slice av len cv, .slice none 0 0, .int .i64 nn] (by rfl) (by rfl) (cells_new _ _ _) (by simp [Value.oneCell']) (by omega) (by have := HLS.out; unfold maxLen; omega) (by have := HLS.out; omega) (Nat.zero_le _) (w1.heap.size + 1) (by simp) ?_; intro gu ucap w5 hown' hgrow hat hgult; have hfin := HFIN.out w5 _ hown' hgrow; have HG5 := hid hfin; have c5 : w5.cell? ⟨gb, o + 22, none⟩ = some fv := (by rw [HFV.out]; exact (hfin.1.fld 21 (by decide)).1); have f5 : w5.frozen? ⟨gb, o + 22, none⟩ = false := (hfin.1.fld 21 (by decide)).2; have HNB : Hid (∀ b, (Value.slice (some ⟨gu, 0, none⟩) (ls.length + 1) ucap).ownBlock = some b → fv.ownBlock = some b ∨ w.heap.size ≤ b) := hid (fun b hb => (by have hb2 : gu = b := (by cases hb; rfl); subst hb2; rcases hat with h1 | h1; exact .inl h1; exact .inr (by have := HSW.out; omega))); clear hown' hgrow hat hfin))
  all_goals go_wp2
  all_goals go_end0
  all_goals exact ⟨⟨_, rfl⟩, _, by have := HNB.out; rw [HFV.out] at this; exact this, HG5.out.2.1, HG5.out.2.2.1, by have := HG5.out.2.2.2; rw [HFV.out] at this; exact this⟩
  -- /N1
end Go.Proofs.YtjhomkdnhdhffaaGreat
