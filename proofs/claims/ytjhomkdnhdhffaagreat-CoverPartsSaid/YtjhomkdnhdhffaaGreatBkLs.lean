/- Lists of lists that are held: each list, and the list of them; lists of lists that are the same. -/
import Derived.Test.YtjhomkdnhdhffaaGreatBkIntList
import Derived.Test.YtjhomkdnhdhffaaGreatBkInt
import Derived.Test.YtjhomkdnhdhffaaGreatCovL
namespace Go.Proofs.YtjhomkdnhdhffaaGreat
open Go.RowKit

def rowH (vs : List Value) (L : List (List Int)) (n0 i : Nat) : HL := ⟨vs.getD i (.slice none 0 0), .slice none 0 0, n0 + i + 1, (L.getD i []).length⟩
def rowsH (vs : List Value) (L : List (List Int)) (n0 k : Nat) : List HL := (List.range k).map (rowH vs L n0)
section
variable {vs : List Value} {L : List (List Int)} {n0 k : Nat}
theorem rowsH_succ : rowsH vs L n0 (k + 1) = rowsH vs L n0 k ++ [rowH vs L n0 k] := by simp [rowsH, List.range_succ]
theorem rowsH_len : (rowsH vs L n0 k).length = k := by simp [rowsH]
theorem rowsH_get {j : Nat} {y : HL} (h : (rowsH vs L n0 k)[j]? = some y) : j < k ∧ y = rowH vs L n0 j := by
  have hj := (List.getElem?_eq_some_iff.1 h).1
  rw [rowsH_len] at hj
  unfold rowsH at h
  rw [List.getElem?_map, List.getElem?_range hj] at h
  exact ⟨hj, (Option.some.inj h).symm⟩
end
abbrev TI : TypeId := 3
abbrev THI : TypeId := 107
/-- What is held while the lists of a list are laid in. -/
structure LsI (w wr : World) (TB : TypeId) (gb o nb base : Nat) (F : Nat → Value) (ls l2 : List HL) (v : Value) (vs : List Value) (L : List (List Int)) (k : Nat) (F2 : Nat → Value) : Prop where
  new0 : ∀ b, (F2 0).ownBlock = some b → (F 0).ownBlock = some b ∨ w.heap.size ≤ b
  new21 : ∀ b, (F2 21).ownBlock = some b → (F 21).ownBlock = some b ∨ w.heap.size ≤ b
  oth : ∀ j, j ≠ 0 → j ≠ 21 → F2 j = F j
  bk : BookAt wr TB gb o (nb + 1 + k) F2
  li : LotA TI THI 1 mkInt wr (F2 0) (ls ++ rowsH vs L (nb + 1) k) 0
  ll : LotA TLL THL 1 mkIntList wr (F2 21) (l2 ++ [⟨v, .slice none 0 0, nb + 1, L.length⟩]) 0
  kp : Kp (fun b => b = gb ∨ (F 0).ownBlock = some b ∨ (F 21).ownBlock = some b) w wr
  lv : LLs TLL TI wr base v vs L
section
variable {w wr w2 : World} {TB : TypeId} {gb o nb base : Nat} {F F2 : Nat → Value} {ls l2 : List HL} {v : Value} {vs : List Value} {L : List (List Int)} {k : Nat}
theorem lls_kp {S : Nat → Prop} (h : LLs TLL TI w base v vs L) (kp : Kp S w w2) (hS : ∀ b cs T fr, S b → w.heap[b]? = some (.cells cs T fr) → T ≠ TLL ∧ T ≠ TI) : LLs TLL TI w2 base v vs L :=
  h.keep fun g cur e _ he hc => kp.block g (heap_lt hc) fun hs => by
    obtain ⟨h1, h2⟩ := hS g _ _ _ hs hc
    rcases he with he | he
    · exact h1 he
    · exact h2 he
theorem LsI.start {fv2 : Value} (hbk : BookAt w TB gb o nb F) (hT1 : TB ≠ TI) (hT2 : TB ≠ THI) (hT3 : TB ≠ TLL) (hi : LotA TI THI 1 mkInt w (F 0) ls 0) (hl : LotA TLL THL 1 mkIntList w (F 21) l2 0) (hv : LLs TLL TI w base v vs L)
    (hnw : ∀ b, fv2.ownBlock = some b → (F 21).ownBlock = some b ∨ w.heap.size ≤ b) (hb2 : BookAt w2 TB gb o (nb + 1) (fun k => if k = 21 then fv2 else F k)) (hl2 : LotA TLL THL 1 mkIntList w2 fv2 (l2 ++ [⟨v, .slice none 0 0, nb + 1, L.length⟩]) 0) (kp : Kp (fun b => b = gb ∨ (F 21).ownBlock = some b) w w2) :
    LsI w w2 TB gb o nb base F ls l2 v vs L 0 (fun k => if k = 21 then fv2 else F k) := by
  obtain ⟨cg, hcg, _⟩ := id hbk
  refine ⟨fun b hb => .inl hb, hnw, fun j _ h => if_neg h, hb2, ?_, hl2, kp.mono fun b _ hb => by rcases hb with hb | hb; exact .inl hb; exact .inr (.inr hb), lls_kp hv kp fun b cs T fr hb hc => ?_⟩
  · rw [show rowsH vs L (nb + 1) 0 = [] from rfl, List.append_nil]
    refine hi.kept fun b hb => kp.block b (hi.lot.lt hb) ?_
    rintro (h | h)
    · subst h; exact hbk.not hi.lot hT1 hT2 hb
    · obtain ⟨cs, hc⟩ := ownsRow_type hl.lot.out h
      exact hi.lot.not hc (by decide) (by decide) hb
  · rcases hb with h | h
    · subst h; rw [hcg] at hc; cases hc; exact ⟨hT3, hT1⟩
    · obtain ⟨c2, h2⟩ := ownsRow_type hl.lot.out h
      rw [h2] at hc; cases hc; exact ⟨by decide, by decide⟩
theorem LsI.row (h : LsI w wr TB gb o nb base F ls l2 v vs L k F2) (hk : k < L.length) : ∃ l u, L[k]? = some l ∧ vs[k]? = some u ∧ wr.ownsRow base TI 1 u l.length (intV l) ∧ rowH vs L (nb + 1) k = ⟨u, .slice none 0 0, nb + 1 + k + 1, l.length⟩ := by
  obtain ⟨u, h1, h2⟩ := h.lv.each k L[k] (by simp [hk])
  refine ⟨_, u, by simp [hk], h1, h2, ?_⟩
  unfold rowH
  rw [List.getD_eq_getElem?_getD, List.getD_eq_getElem?_getD, h1]
  simp [hk]
theorem LsI.apart (h : LsI w wr TB gb o nb base F ls l2 v vs L k F2) (hk : k < L.length) (hai : ∀ (j : Nat) (y : HL) (b i : Nat) (u : Value), ls[j]? = some y → y.has b → vs[i]? = some u → u.ownBlock ≠ some b) {u : Value} (hu : vs[k]? = some u)
    (j : Nat) (y : HL) (b : Nat) (hy : (ls ++ rowsH vs L (nb + 1) k)[j]? = some y) (hb : y.has b) : u.ownBlock ≠ some b := by
  by_cases e : j < ls.length
  · rw [List.getElem?_append_left e] at hy
    exact hai j y b k u hy hb hu
  · rw [List.getElem?_append_right (by omega)] at hy
    obtain ⟨h1, rfl⟩ := rowsH_get hy
    have hlen := h.lv.length
    have h2 : vs[j - ls.length]? = some (rowH vs L (nb + 1) (j - ls.length)).v := by
      unfold rowH
      rw [List.getD_eq_getElem?_getD, List.getElem?_eq_getElem (by omega)]; rfl
    rcases hb with hb | hb
    · intro h3
      exact h.lv.apart (j - ls.length) k _ _ b (by omega) h2 hu hb h3
    · cases hb
theorem LsI.next {fv3 : Value} (h : LsI w wr TB gb o nb base F ls l2 v vs L k F2) (hT1 : TB ≠ TI) (hT3 : TB ≠ TLL) (hT4 : TB ≠ THL)
    (hnw : ∀ b, fv3.ownBlock = some b → (F2 0).ownBlock = some b ∨ wr.heap.size ≤ b) (hb2 : BookAt w2 TB gb o (nb + 1 + k + 1) (fun k => if k = 0 then fv3 else F2 k)) (hl2 : LotA TI THI 1 mkInt w2 fv3 ((ls ++ rowsH vs L (nb + 1) k) ++ [rowH vs L (nb + 1) k]) 0) (kp : Kp (fun b => b = gb ∨ (F2 0).ownBlock = some b) wr w2) :
    LsI w w2 TB gb o nb base F ls l2 v vs L (k + 1) (fun k => if k = 0 then fv3 else F2 k) := by
  have hsz := h.kp.size
  obtain ⟨cg, hcg, _⟩ := id h.bk
  refine ⟨fun b hb => ?_, fun b hb => h.new21 b hb, fun j h1 h2 => (if_neg h1).trans (h.oth j h1 h2), hb2, ?_, ?_, h.kp.trans kp fun b hlt hb => ?_, lls_kp h.lv kp fun b cs T fr hb hc => ?_⟩
  · rcases hnw b hb with h1 | h1
    · exact h.new0 b h1
    · exact .inr (by omega)
  · rw [rowsH_succ, ← List.append_assoc]; exact hl2
  · refine h.ll.kept fun b hb => kp.block b (h.ll.lot.lt hb) ?_
    rintro (h1 | h1)
    · subst h1; exact h.bk.not h.ll.lot hT3 hT4 hb
    · obtain ⟨cs, hc⟩ := ownsRow_type h.li.lot.out h1
      exact h.ll.lot.not hc (by decide) (by decide) hb
  · rcases hb with hb | hb
    · exact .inl hb
    · rcases h.new0 b hb with h1 | h1
      · exact .inr (.inl h1)
      · omega
  · rcases hb with h1 | h1
    · subst h1; rw [hcg] at hc; cases hc; exact ⟨hT3, hT1⟩
    · obtain ⟨c2, h2⟩ := ownsRow_type h.li.lot.out h1
      rw [h2] at hc; cases hc; exact ⟨by decide, by decide⟩
end

set_option maxRecDepth 100000 in
set_option maxHeartbeats 4000000 in
theorem intLists_any {TB : TypeId} {gb o nb base : Nat} {F : Nat → Value} {ls l2 : List HL} {v : Value} {vs : List Value} {L : List (List Int)} {w : World} (hbk : BookAt w TB gb o nb F) (hT1 : TB ≠ TI) (hT2 : TB ≠ THI) (hT3 : TB ≠ TLL) (hT4 : TB ≠ THL)
    (hi : LotA TI THI 1 mkInt w (F 0) ls 0) (hl : LotA TLL THL 1 mkIntList w (F 21) l2 0) (hc : ls.length + 65 ≤ 1073741824) (hc2 : l2.length + 1 ≤ 1073741824) (hn : nb + 65 < 1099511627776) (hL : L.length ≤ 64) (hLs : ∀ x ∈ L, x.length ≤ 64) (hv : LLs TLL TI w base v vs L)
    (hap : ∀ (j : Nat) (y : HL) (b : Nat), l2[j]? = some y → y.has b → v.ownBlock ≠ some b) (hai : ∀ (j : Nat) (y : HL) (b i : Nat) (u : Value), ls[j]? = some y → y.has b → vs[i]? = some u → u.ownBlock ≠ some b) :
    Calls Tryz.prog 12 #[.pointer (some ⟨gb, o, none⟩), v] w fun e w' => (∃ r, e = .returned r) ∧ ∃ F2, LsI w w' TB gb o nb base F ls l2 v vs L L.length F2 := by
  obtain ⟨av, cv, rfl⟩ := ownsRow_shape hv.out
  have CK := hid (keepIntList_any hbk hT3 hT4 hl hc2 (by omega) (by omega) (ownsRow_mono hv.out (Nat.zero_le _)) hap)
  have HST := hid (fun w2 fv2 h1 h2 h3 h4 => LsI.start (w2 := w2) (fv2 := fv2) hbk hT1 hT2 hT3 hi hl hv h1 h2 h3 h4)
  have HL := hid hL
  have HLS := hid hLs
  have HAI := hid hai
  have HC := hid hc
  have HN := hid hn
  have HT := hid (And.intro hT1 (And.intro hT2 (And.intro hT3 hT4)))
  have hLi : (L.length : Int) ≤ 64 := by omega
  clear hbk hT1 hT2 hT3 hT4 hi hl hc hc2 hn hL hLs hv hap hai
  go_enter Tryz.func12, Tryz.ntmps12
  go_wp2_with (go_at_call 28; refine CK.out.mono ?_; rintro e w1 ⟨⟨_, rfl⟩, fv2, q1, q2, q3, q4⟩; have HS0 := hid (HST.out w1 fv2 q1 q2 q3 q4); clear q1 q2 q3 q4)
  clear CK HST
  go_loopw [4] (fun i wr => ∃ k : Nat, k ≤ L.length ∧ i = .int .i64 k ∧ Hid (∃ F2, LsI w wr TB gb o nb base F ls l2 (.slice av L.length cv) vs L k F2)) (fun i _ => L.length - (intOf i).toNat)
  case atStart => exact ⟨0, by omega, rfl, hid ⟨_, HS0.out⟩⟩
  case round =>
    clear HS0
    obtain ⟨k, hk, rfl, HS⟩ := hrel
    obtain ⟨F2, hs⟩ := HS.out
    have HI := hid hs
    clear hs HS
    have hki : (k : Int) ≤ 64 := by omega
    by_cases hlt : k < L.length
    · have hkl : (k : Int) < (L.length : Int) := by omega
      obtain ⟨l, u, hl, hu, ho, hrow⟩ := HI.out.row hlt
      obtain ⟨gv, capv, hgv⟩ := ownsRow_form' HI.out.lv.out (by omega)
      cases hgv
      have hcell : wr.cell? ⟨gv, k, none⟩ = some u := by rw [HI.out.lv.out.cellAt _ (by have := HI.out.lv.length; omega)]; exact hu
      obtain ⟨au, cu, hus⟩ := ownsRow_shape ho
      have hlm : l ∈ L := List.mem_of_getElem? hl
      have CK := hid (wrapInt_any (keepInt_any HI.out.bk HT.out.1 HT.out.2.1 HI.out.li (by rw [List.length_append, rowsH_len]; have := HC.out; omega) (by have := HN.out; omega) (by have := HLS.out l hlm; omega) (ownsRow_mono ho (Nat.zero_le _)) (HI.out.apart hlt HAI.out hu)) (fun _ _ _ h => h))
      have HROW := hid hrow
      clear hl hu ho hrow hlm
      subst hus
      go_wp2_with (go_at_call 18; refine CK.out.mono ?_; rintro e w2 ⟨⟨_, rfl⟩, fv3, q1, q2, q3, q4⟩; have HI2 := hid (HI.out.next HT.out.1 HT.out.2.2.1 HT.out.2.2.2 q1 q2 (by rw [HROW.out]; exact q3) q4); clear q1 q2 q3 q4)
      go_roundw
      case rel => exact ⟨k + 1, by omega, by go_num, hid ⟨_, HI2.out⟩⟩
      case measure => simp [intOf]; omega
    · obtain rfl : k = L.length := by omega
      have hkl : ¬ (L.length : Int) < (L.length : Int) := by omega
      go_wp2
      go_end0
      exact ⟨⟨_, rfl⟩, _, HI.out⟩
set_option maxRecDepth 100000 in
set_option maxHeartbeats 4000000 in
theorem sameLists_same (L : List (List Int)) (hL : L.length ≤ 64) (hLs : ∀ x ∈ L, x.length ≤ 64) {base base' : Nat} {v v' : Value} {vs vs' : List Value} (w : World) (ha : LLs TLL TI w base v vs L) (hb : LLs TLL TI w base' v' vs' L) :
    Calls Tryz.prog 10 #[v, v'] w fun e w' => e = .returned (.bool true) ∧ Below w.heap.size w w' := by
  obtain ⟨a, ca, rfl⟩ := ownsRow_shape ha.out
  obtain ⟨b, cb, rfl⟩ := ownsRow_shape hb.out
  have HA := hid ha
  have HB := hid hb
  have HLS := hid hLs
  have hLi : (L.length : Int) ≤ 64 := by omega
  clear ha hb hLs
  go_enter Tryz.func10, Tryz.ntmps10
  go_wp2
  go_loopw [5] (fun i wr => ∃ k : Nat, k ≤ L.length ∧ i = .int .i64 k ∧ Hid (Below w.heap.size w wr)) (fun i _ => L.length - (intOf i).toNat)
  case atStart => exact ⟨0, by omega, rfl, hid (Below.refl _ _)⟩
  case round =>
    obtain ⟨k, hk, rfl, HX⟩ := hrel
    have hki : (k : Int) ≤ 64 := by omega
    by_cases hlt : k < L.length
    · have hkl : (k : Int) < (L.length : Int) := by omega
      have h1 := HA.out.below HX.out
      have h2 := HB.out.below HX.out
      obtain ⟨l, hl⟩ : ∃ l, L[k]? = some l := ⟨L[k], by simp [hlt]⟩
      obtain ⟨u1, hu1, ho1⟩ := h1.each k l hl
      obtain ⟨u2, hu2, ho2⟩ := h2.each k l hl
      obtain ⟨g1, c1, e1⟩ := ownsRow_form' h1.out (by omega)
      obtain ⟨g2, c2, e2⟩ := ownsRow_form' h2.out (by omega)
      cases e1
      cases e2
      have r1 : wr.cell? ⟨g1, k, none⟩ = some u1 := by rw [h1.out.cellAt _ (by have := h1.length; omega)]; exact hu1
      have r2 : wr.cell? ⟨g2, k, none⟩ = some u2 := by rw [h2.out.cellAt _ (by have := h2.length; omega)]; exact hu2
      obtain ⟨A1, d1, hs1⟩ := ownsRow_shape ho1
      obtain ⟨A2, d2, hs2⟩ := ownsRow_shape ho2
      subst hs1 hs2
      have HG1 : Hid (g1 < wr.heap.size) := hid (World.block_lt_of_cell? _ _ r1)
      have HG2 : Hid (g2 < wr.heap.size) := hid (World.block_lt_of_cell? _ _ r2)
      have CI := hid (fun W : Bw wr => sameInts_same l A1 A2 d1 d2 (HLS.out l (List.mem_of_getElem? hl)) W.1 ((rows_ints ho1).kept W.2) ((rows_ints ho2).kept W.2))
      clear h1 h2 hl hu1 hu2 ho1 ho2
      go_upto_region 6 with fail
      refine wp_region_bw (by kernel_rfl) (by kernel_rfl) ?_
      iterate 3 (go_big_quiet_step (fail))
      (go_big_quiet_want; refine quiet_load_cell 65 _ rfl _ _ rfl _ (r1) (fun w h => by go_simp) ?_; simp only [Act.put, List.setIfInBounds_toArray, List.set_cons_zero, List.set_cons_succ]; go_big_quiet_on)
      iterate 3 (go_big_quiet_step (fail))
      (go_big_quiet_want; refine quiet_load_cell 65 _ rfl _ _ rfl _ (r2) (fun w h => by go_simp) ?_; simp only [Act.put, List.setIfInBounds_toArray, List.set_cons_zero, List.set_cons_succ]; go_big_quiet_on)
      (go_big_quiet_want; go_big_quiet_op; go_big_quiet_call ((go_at_call 17; exact Calls.bw (CI.out _))))
      iterate 1 (go_big_quiet_step (fail))
      refine wpQuiet_nil ?_; rintro w' ⟨X, rfl⟩
      have HXX := hid (HX.out.trans (X.2.mono HX.out.size))
      go_wp2
      go_roundw
      case rel => exact ⟨k + 1, by omega, by go_num, HXX⟩
      case measure => simp [intOf]; omega
    · obtain rfl : k = L.length := by omega
      have hkl : ¬ (L.length : Int) < (L.length : Int) := by omega
      go_wp2
      go_ret
      exact ⟨rfl, HX.out⟩
end Go.Proofs.YtjhomkdnhdhffaaGreat
