/- The walk of the reference's place: the same search in depth, over lists of the graph's own size. -/
import Derived.Test.YtjhomkdnhdhffaaGreatRfPl
import Derived.Test.YtjhomkdnhdhffaaGreatNetMem
import Derived.Deep.QuietTactic
import Derived.BigQuiet
import Derived.BigRegion
import Derived.Deep.Light
namespace Go.Proofs.YtjhomkdnhdhffaaGreat
open Go.RowKit

def boolL (l : List Bool) : List Value := l.map Value.bool
/-- The first n entries of a table. -/
def rsI (n : Nat) (l : List Int) : List Int := (List.range n).map (getI l)
def rsB (n : Nat) (l : List Bool) : List Bool := (List.range n).map (getB l)
theorem rsI_len (n : Nat) (l : List Int) : (rsI n l).length = n := by simp [rsI]
theorem rsB_len (n : Nat) (l : List Bool) : (rsB n l).length = n := by simp [rsB]
theorem rsI_get {n c : Nat} (l : List Int) (h : c < n) : (rsI n l)[c]? = some (getI l c) := by simp [rsI, h]
theorem rsB_get {n c : Nat} (l : List Bool) (h : c < n) : (rsB n l)[c]? = some (getB l c) := by simp [rsB, h]
theorem rsI_set {n c : Nat} {l : List Int} (hn : n ≤ l.length) (x : Int) : (rsI n l).set c x = rsI n (l.set c x) := by
  apply List.ext_getElem?
  intro i
  rw [List.getElem?_set]
  by_cases hi : i < n
  · rw [rsI_get _ hi, rsI_get _ hi, getI_set, rsI_len]
    by_cases e : c = i
    · subst e; rw [if_pos rfl, if_pos hi, if_pos ⟨rfl, by omega⟩]
    · rw [if_neg e, if_neg (fun h => e h.1)]
  · rw [List.getElem?_eq_none (by rw [rsI_len]; omega), List.getElem?_eq_none (by rw [rsI_len]; omega), rsI_len]
    split
    · rename_i e; subst e; rw [if_neg hi]
    · rfl
theorem rsB_set {n c : Nat} {l : List Bool} (hn : n ≤ l.length) (x : Bool) : (rsB n l).set c x = rsB n (l.set c x) := by
  apply List.ext_getElem?
  intro i
  rw [List.getElem?_set]
  by_cases hi : i < n
  · rw [rsB_get _ hi, rsB_get _ hi, getB_set, rsB_len]
    by_cases e : c = i
    · subst e; rw [if_pos rfl, if_pos hi, if_pos ⟨rfl, by omega⟩]
    · rw [if_neg e, if_neg (fun h => e h.1)]
  · rw [List.getElem?_eq_none (by rw [rsB_len]; omega), List.getElem?_eq_none (by rw [rsB_len]; omega), rsB_len]
    split
    · rename_i e; subst e; rw [if_neg hi]
    · rfl
theorem boolL_set (l : List Bool) (c : Nat) (x : Bool) : (boolL l).set c (.bool x) = boolL (l.set c x) := by simp [boolL, List.map_set]
theorem boolL_get {l : List Bool} {c : Nat} {x : Bool} (h : l[c]? = some x) : (boolL l)[c]? = some (.bool x) := by simp [boolL, h]
theorem intV_get {l : List Int} {c : Nat} {x : Int} (h : l[c]? = some x) : (intV l)[c]? = some (.int .i64 x) := by simp [intV, h]

/-- Rows of the graph alone are in the table. -/
def ColR (R : Nat) (col : List Int) : Prop := ∀ c q : Nat, getI col c = (q : Int) → q < R
theorem ColR.set {R : Nat} {col : List Int} (h : ColR R col) {r : Nat} (hr : r < R) (c : Nat) : ColR R (col.set c r) := by
  intro d q hq
  rw [getI_set] at hq
  split at hq
  · omega
  · exact h d q hq
theorem none_colR (R : Nat) : ColR R none64 := by
  intro c q h
  rw [none64_get] at h; omega
theorem tryL_colR {R : Nat} {f : St → Nat → Bool × St} (hf : ∀ s r, r < R → ColR R s.col → ColR R (f s r).2.col) {gone : List Bool} {r : Nat} (hr : r < R) : ∀ (l : List Nat) (s : St), ColR R s.col → ColR R (tryL f gone r l s).2.col
  | [], s, h => h
  | c :: l, s, h => by
    rw [tryL.eq_2]
    by_cases e1 : (getB s.met c || getB gone c) = true
    · rw [if_pos e1]; exact tryL_colR hf hr l s h
    · rw [if_neg e1]
      by_cases e2 : getI s.col c < 0
      · rw [if_pos e2]; exact ColR.set (R := R) (col := (s.mark c).col) h hr c
      · rw [if_neg e2]
        have hq : (getI s.col c).toNat < R := h c _ (by omega)
        have h2 := hf (s.mark c) _ hq h
        by_cases e3 : (f (s.mark c) (getI s.col c).toNat).1 = true
        · rw [if_pos e3]; exact ColR.set h2 hr c
        · rw [if_neg e3]; exact tryL_colR hf hr l _ h2
theorem tryF_colR {R : Nat} (tl : List (List Nat)) (gone : List Bool) : ∀ (k : Nat) (s : St) (r : Nat), r < R → ColR R s.col → ColR R (tryF tl gone k s r).2.col
  | 0, _, _, _, h => h
  | k + 1, s, _, hr, h => tryL_colR (tryF_colR tl gone k) hr _ s h

/-- What is left of a rising list from a number on. -/
def from_ (l : List Nat) (c : Nat) : List Nat := l.filter fun d => decide (c ≤ d)
theorem from_start (l : List Nat) : from_ l 0 = l := by simp [from_]
theorem from_no {l : List Nat} {c : Nat} (h : c ∉ l) : from_ l c = from_ l (c + 1) := by
  apply List.filter_congr
  intro d hd
  have : d ≠ c := by rintro rfl; exact h hd
  exact decide_eq_decide.2 (by omega)
theorem from_yes : ∀ {l : List Nat} {c : Nat}, l.Pairwise (· < ·) → c ∈ l → from_ l c = c :: from_ l (c + 1)
  | [], _, _, h => by simp at h
  | x :: l, c, hp, h => by
    obtain ⟨h1, h2⟩ := List.pairwise_cons.1 hp
    rcases List.mem_cons.1 h with rfl | h3
    · have e : from_ l c = from_ l (c + 1) := from_no fun h4 => by have := h1 c h4; omega
      have e2 : from_ l c = l := List.filter_eq_self.2 fun d hd => by have := h1 d hd; simp; omega
      unfold from_ at *
      rw [List.filter_cons, List.filter_cons, if_pos (by simp), if_neg (by simp), ← e]
    · have h4 := h1 c h3
      have := from_yes h2 h3
      unfold from_ at *
      rw [List.filter_cons, List.filter_cons, if_neg (by simp; omega), if_neg (by simp; omega), this]
theorem from_end {l : List Nat} {c : Nat} (h : ∀ d ∈ l, d < c) : from_ l c = [] := List.filter_eq_nil_iff.2 fun d hd => by have := h d hd; simp; omega

/-- The columns of a row. -/
def tlAt (g : Gr) (r : Nat) : List Nat := (toOf g.es)[r]?.getD []
/-- Who may be paired with whom, to be read. -/
def HasR (w : World) (S : Nat → Prop) (g : Gr) (R C : Nat) (hv : Value) : Prop :=
  ∃ a ch, hv = .slice a R ch ∧ ∀ r, r < R → ∃ gh oh gr cr, a = some ⟨gh, oh, none⟩ ∧ S gh ∧ S gr ∧ w.cell? ⟨gh, oh + r, none⟩ = some (.slice (some ⟨gr, 0, none⟩) C cr) ∧ ∀ c, c < C → w.cell? ⟨gr, c, none⟩ = some (.bool (decide (c ∈ tlAt g r)))
theorem cell_same {w w' : World} {b o : Nat} (h : w'.heap[b]? = w.heap[b]?) : w'.cell? ⟨b, o, none⟩ = w.cell? ⟨b, o, none⟩ := World.cell?_of_block h
theorem HasR.kept {w w' : World} {S : Nat → Prop} {g : Gr} {R C : Nat} {hv : Value} (h : HasR w S g R C hv) (hb : ∀ k, S k → w'.heap[k]? = w.heap[k]?) : HasR w' S g R C hv := by
  obtain ⟨a, ch, h1, h2⟩ := h
  refine ⟨a, ch, h1, fun r hr => ?_⟩
  obtain ⟨gh, oh, gr, cr, h3, h4, h5, h6, h7⟩ := h2 r hr
  exact ⟨gh, oh, gr, cr, h3, h4, h5, (cell_same (hb _ h4)).trans h6, fun c hc => (cell_same (hb _ h5)).trans (h7 c hc)⟩
structure RS (w : World) (B pn : Nat) (g : Gr) (R C : Nat) (hv ofv mv : Value) (s : St) : Prop where
  net : w.heap[pn]? = some (.cells #[hv, ofv] 89 (0, 0))
  lt : pn < B
  has : HasR w (fun k => k < B ∧ k ≠ pn) g R C hv
  of : w.ownsRow B 3 1 ofv C (intV (rsI C s.col))
  met : w.ownsRow B 4 1 mv C (boolL (rsB C s.met))
section
variable {w w' : World} {B pn : Nat} {g : Gr} {R C : Nat} {hv ofv mv : Value} {s : St}
theorem owns_apart {b1 b2 s1 s2 n1 n2 : Nat} {e1 e2 : TypeId} {v1 v2 : Value} {x1 x2 : List Value} (h1 : w.ownsRow b1 e1 s1 v1 n1 x1) (h2 : w.ownsRow b2 e2 s2 v2 n2 x2) (hne : e1 ≠ e2) {k : Nat} (hk : v1.ownBlock = some k) : v2.ownBlock ≠ some k := by
  obtain ⟨c1, h3⟩ := ownsRow_type h1 hk
  intro e
  exact row_apart h3 h2 hne e.symm
theorem RS.mark {gm cm : Nat} (h : RS w B pn g R C hv ofv (.slice (some ⟨gm, 0, none⟩) C cm) s) (hs : StOk s) (hC : C ≤ 64) (c : Nat) : RS (w.setCell ⟨gm, c, none⟩ (.bool true)) B pn g R C hv ofv (.slice (some ⟨gm, 0, none⟩) C cm) (s.mark c) ∧ Below B w (w.setCell ⟨gm, c, none⟩ (.bool true)) := by
  have hb : B ≤ gm := ownsRow_block h.met gm rfl
  have h1 := (h.met.stored c (.bool true)).1
  rw [boolL_set, rsB_set (by rw [hs.met]; exact hC)] at h1
  refine ⟨⟨?_, h.lt, h.has.kept fun k hk => heap_setCell_ne (by have := hk.1; omega), ownsRow_other h.of fun k hk => heap_setCell_ne ?_, h1⟩, (Below.refl _ _).setCell (by exact hb) _⟩
  · rw [heap_setCell_ne (by have := h.lt; omega)]; exact h.net
  · intro e
    subst e
    exact owns_apart h.of h.met (by decide) hk rfl
theorem RS.pair {go co : Nat} (h : RS w B pn g R C hv (.slice (some ⟨go, 0, none⟩) C co) mv s) (hs : StOk s) (hC : C ≤ 64) (r c : Nat) : RS (w.setCell ⟨go, c, none⟩ (.int .i64 r)) B pn g R C hv (.slice (some ⟨go, 0, none⟩) C co) mv (s.pair r c) ∧ Below B w (w.setCell ⟨go, c, none⟩ (.int .i64 r)) := by
  have hb : B ≤ go := ownsRow_block h.of go rfl
  have h1 := (h.of.stored c (.int .i64 r)).1
  rw [intV_set, rsI_set (by rw [hs.col]; exact hC)] at h1
  refine ⟨⟨?_, h.lt, h.has.kept fun k hk => heap_setCell_ne (by have := hk.1; omega), h1, ownsRow_other h.met fun k hk => heap_setCell_ne ?_⟩, (Below.refl _ _).setCell (by exact hb) _⟩
  · rw [heap_setCell_ne (by have := h.lt; omega)]; exact h.net
  · intro e
    subst e
    exact owns_apart h.met h.of (by decide) hk rfl
theorem RS.drew (h : RS w B pn g R C hv ofv mv s) (n : Nat) : RS (w.drewN n) B pn g R C hv ofv mv s := ⟨h.net, h.lt, h.has.kept fun _ _ => rfl, ownsRow_other h.of fun _ _ => rfl, ownsRow_other h.met fun _ _ => rfl⟩
end

def RPlacePost (w : World) (B pn : Nat) (g : Gr) (R C : Nat) (hv ofv mv : Value) (res : Bool × St) (e : Ending) (w' : World) : Prop :=
  e = .returned (.bool res.1) ∧ RS w' B pn g R C hv ofv mv res.2 ∧ Below B w w'

set_option maxRecDepth 100000 in
set_option maxHeartbeats 4000000 in
theorem rplace_any (B pn : Nat) (g : Gr) (hc : chk g = true) (R C : Nat) (hR : g.rows = R) (hC : g.cols = C) (hv ofv mv : Value) : ∀ (k : Nat) (s : St) (r : Nat) (w : World), r < R → StOk s → ColR R s.col → unmet s.met < k → RS w B pn g R C hv ofv mv s →
    Calls Tryz.prog 162 #[.pointer (some ⟨pn, 0, none⟩), .int .i64 r, mv] w (RPlacePost w B pn g R C hv ofv mv (tryF (toOf g.es) noMarks k s r))
  | 0, _, _, _, _, _, _, h, _ => by omega
  | k + 1, s, r, w, hr, hso, hco, hu, hh => by
    have ih := hid (rplace_any B pn g hc R C hR hC hv ofv mv k)
    have HK := hid (tryF_keeps (toOf_ok hc) k)
    have HL0 : Hid (tryF (toOf g.es) noMarks (k + 1) s r = tryL (tryF (toOf g.es) noMarks k) noMarks r (tlAt g r) s) := hid rfl
    have HC64 : Hid (C ≤ 64 ∧ R ≤ 64) := hid (by have := chk_size hc; omega)
    have HLC : Hid (∀ c ∈ tlAt g r, c < C) := hid (fun c h => by have := (eg_lt hc (show Eg (toOf g.es) r c from h)).2; omega)
    have HP : Hid ((tlAt g r).Pairwise (· < ·)) := hid (rise_all hc r)
    have HCK := hid hc
    have HSO := hid hso
    have HCO := hid hco
    have HU := hid hu
    have HH := hid hh
    obtain ⟨a, ch, rfl, hrows⟩ := hh.has
    obtain ⟨gh, oh, gr, cr, rfl, hgh, hgr, chr, hbs⟩ := hrows r hr
    have HBS := hid hbs
    have HCR := hid chr
    have HGG := hid (And.intro hgh hgr)
    have hri : (r : Int) < (R : Int) := by omega
    have hr63 : (r : Int) ≤ 64 := by have := HC64.out; omega
    have hc63 : (C : Int) ≤ 64 := by have := HC64.out; omega
    obtain ⟨am, cm, rfl⟩ := ownsRow_shape hh.met
    clear hrows hbs chr hgh hgr hso hco hu hh hc hR hC
    go_enter Tryz.func162, Tryz.ntmps162
    go_wp2
    go_loopw [7] (fun i wr => ∃ (c : Nat) (s1 : St), c ≤ C ∧ i = .int .i64 c ∧ Hid (RS wr B pn g R C (.slice (some ⟨gh, oh, none⟩) R ch) ofv (.slice am C cm) s1) ∧ Hid (Below B w wr) ∧ Hid (StOk s1) ∧ Hid (ColR R s1.col) ∧ Hid (unmet s1.met ≤ unmet s.met) ∧ Hid (tryF (toOf g.es) noMarks (k + 1) s r = tryL (tryF (toOf g.es) noMarks k) noMarks r (from_ (tlAt g r) c) s1)) (fun i _ => C - (intOf i).toNat)
    case atStart => exact ⟨0, s, by omega, rfl, HH, hid (Below.refl _ _), HSO, HCO, hid (Nat.le_refl _), hid (by rw [HL0.out, from_start])⟩
    case round =>
      clear HH HSO HCO
      obtain ⟨c, s1, hj, rfl, HH, HON, HSO, HCO, HU1, HT⟩ := hrel
      have hcl : (c : Int) ≤ 64 := by omega
      by_cases hlt : c < C
      · have hci : (c : Int) < (C : Int) := by omega
        obtain ⟨gm, cm', hmv⟩ := ownsRow_form' HH.out.met (by omega)
        obtain ⟨rfl, rfl⟩ : am = some ⟨gm, 0, none⟩ ∧ cm = cm' := by cases hmv; exact ⟨rfl, rfl⟩
        obtain ⟨go, co, rfl⟩ := ownsRow_form' HH.out.of (by omega)
        have cn0 := row_cell HH.out.net 0 _ rfl
        have cr0 : wr.cell? ⟨gh, oh + r, none⟩ = some (.slice (some ⟨gr, 0, none⟩) C cr) := (cell_same (HON.out.block _ HGG.out.1.1)).trans HCR.out
        have cb0 := (cell_same (HON.out.block _ HGG.out.2.1)).trans (HBS.out c hlt)
        have cm0 := (HH.out.met.cellAt c (by omega)).trans (boolL_get (rsB_get s1.met hlt))
        by_cases hin : c ∈ tlAt g r
        · rw [decide_eq_true hin] at cb0
          have HD := hid (from_yes HP.out hin)
          cases hm : getB s1.met c with
          | true =>
            rw [hm] at cm0
            have HN : Hid (tryF (toOf g.es) noMarks (k + 1) s r = tryL (tryF (toOf g.es) noMarks k) noMarks r (from_ (tlAt g r) (c + 1)) s1) := hid (by rw [HT.out, HD.out, tryL.eq_2, if_pos (by rw [hm]; rfl)])
            clear hm hin hmv
            -- L1
            go_wp2
            go_roundw
            case rel => exact ⟨c + 1, s1, by omega, by go_num, HH, HON, HSO, HCO, HU1, HN⟩
            case measure => simp [intOf]; omega
            -- /L1
          | false =>
            rw [hm] at cm0
            have HMG : Hid (getB s1.met c = false ∧ getB noMarks c = false) := hid ⟨hm, noMarks_at c⟩
            have fm0 := HH.out.met.frozenAt c
            clear hm hin hmv
            -- L2
            go_upto_region 6 with fail
            obtain ⟨HQ1, HQ2⟩ := HH.out.mark HSO.out HC64.out.1 c
            have HQ := hid HQ1
            have HQO := hid (HON.out.trans HQ2)
            have HQS := hid (HSO.out.mark c)
            have HQU : Hid (unmet (s1.mark c).met + 1 = unmet s1.met) := hid (mark_unmet HSO.out (by have := HC64.out.1; omega) HMG.out.1)
            have HQC : Hid (ColR R (s1.mark c).col) := hid HCO.out
            clear HQ1 HQ2 cn0 cr0 cb0 cm0 fm0 HH HON
            generalize wr.setCell ⟨gm, c, none⟩ (.bool true) = wq at *
            have cn1 := row_cell HQ.out.net 1 _ rfl
            have co1 := (HQ.out.of.cellAt c (by omega)).trans (intV_get (rsI_get (s1.mark c).col hlt))
            have fo1 := HQ.out.of.frozenAt c
            by_cases hneg : getI s1.col c < 0
            · have HN : Hid (tryF (toOf g.es) noMarks (k + 1) s r = (true, (s1.mark c).pair r c)) := hid (by rw [HT.out, HD.out, tryL.eq_2, if_neg (by rw [HMG.out.1, HMG.out.2]; simp), if_pos hneg])
              obtain ⟨q, hq⟩ : ∃ q, q = getI s1.col c := ⟨_, rfl⟩
              have co2 : wq.cell? ⟨go, c, none⟩ = some (.int .i64 q) := by rw [hq]; exact co1
              rw [← hq] at hneg
              have HFIN := hid (HQ.out.pair HQS.out HC64.out.1 r c)
              clear hq co1 ih HK
              go_wp2
              go_ret
              exact ⟨by rw [HN.out]; rfl, by rw [HN.out]; exact HFIN.out.1, HQO.out.trans HFIN.out.2⟩
            · obtain ⟨q, hq, hq64⟩ := HSO.out.colAt (show c < 64 by have := HC64.out.1; omega) hneg
              have hqR : q < R := HCO.out c q hq
              have co2 : wq.cell? ⟨go, c, none⟩ = some (.int .i64 q) := by rw [co1]; show some (Value.int .i64 (getI s1.col c)) = _; rw [hq]
              have hqi : ¬ ((q : Int) < 0) := by omega
              have HNG : Hid (0 ≤ getI s1.col c) := hid (Int.not_lt.1 hneg)
              have HQV := hid hq
              obtain ⟨b, s2, hbs⟩ : ∃ b s2, tryF (toOf g.es) noMarks k (s1.mark c) q = (b, s2) := ⟨_, _, rfl⟩
              have CC := hid (ih.out (s1.mark c) q wq hqR HQS.out HQC.out (by have h1 := HQU.out; have h2 := HU.out; have h3 := HU1.out; omega) HQ.out)
              rw [hbs] at CC
              have hks := HK.out (s1.mark c) q hq64 HQS.out
              have hcs := tryF_colR (toOf g.es) noMarks k (s1.mark c) q hqR HQC.out
              rw [hbs] at hks hcs
              have HS2 : Hid (StOk s2) := hid hks.1
              have HC2 : Hid (ColR R s2.col) := hid hcs
              have HU2 : Hid (unmet s2.met ≤ unmet s.met) := hid (by have h1 := hks.2; have h2 := HQU.out; have h3 := HU1.out; simp only at h1; omega)
              have HT2 : Hid (tryF (toOf g.es) noMarks (k + 1) s r = if b = true then (true, s2.pair r c) else tryL (tryF (toOf g.es) noMarks k) noMarks r (from_ (tlAt g r) (c + 1)) s2) := hid (by
                rw [HT.out, HD.out, tryL.eq_2, if_neg (by rw [HMG.out.1, HMG.out.2]; simp), if_neg (Int.not_lt.2 HNG.out), HQV.out, Int.toNat_natCast, hbs])
              have hqd : decide ((q : Int) < 0) = false := by simp
              clear hq hneg co1 hbs hks hcs ih HK
              cases b with
              | true =>
                have HN : Hid (tryF (toOf g.es) noMarks (k + 1) s r = (true, s2.pair r c)) := hid (by rw [HT2.out, if_pos rfl])
                clear HT2
                go_wp2_with (go_at_call 162; refine CC.out.mono ?_; rintro e w5 ⟨rfl, hh5, ho5⟩; have HX5 := hid hh5; have HXO5 := hid (HQO.out.trans ho5); clear hh5 ho5; have cn3 := row_cell HX5.out.net 1 _ rfl; have fo3 := HX5.out.of.frozenAt c; have co3 := (HX5.out.of.cellAt c (by omega)).trans (intV_get (rsI_get s2.col hlt)); have HFIN := hid (HX5.out.pair HS2.out HC64.out.1 r c))
                go_ret
                exact ⟨by rw [HN.out]; rfl, by rw [HN.out]; exact HFIN.out.1, HXO5.out.trans HFIN.out.2⟩
              | false =>
                have HN : Hid (tryF (toOf g.es) noMarks (k + 1) s r = tryL (tryF (toOf g.es) noMarks k) noMarks r (from_ (tlAt g r) (c + 1)) s2) := hid (by rw [HT2.out, if_neg (by simp)])
                clear HT2
                go_wp2_with (go_at_call 162; refine CC.out.mono ?_; rintro e w5 ⟨rfl, hh5, ho5⟩; have HX5 := hid hh5; have HXO5 := hid (HQO.out.trans ho5); clear hh5 ho5)
                go_roundw
                case rel => exact ⟨c + 1, s2, by omega, by go_num, HX5, HXO5, HS2, HC2, HU2, HN⟩
                case measure => simp [intOf]; omega
            -- /L2
        · rw [decide_eq_false hin] at cb0
          have HN : Hid (tryF (toOf g.es) noMarks (k + 1) s r = tryL (tryF (toOf g.es) noMarks k) noMarks r (from_ (tlAt g r) (c + 1)) s1) := hid (by rw [HT.out, from_no hin])
          clear hin hmv
          -- L3
          go_wp2
          go_roundw
          case rel => exact ⟨c + 1, s1, by omega, by go_num, HH, HON, HSO, HCO, HU1, HN⟩
          case measure => simp [intOf]; omega
          -- /L3
      · obtain rfl : c = C := by omega
        have HN : Hid (tryF (toOf g.es) noMarks (k + 1) s r = (false, s1)) := hid (by rw [HT.out, from_end HLC.out]; rfl)
        -- L4
        go_wp2
        go_ret
        exact ⟨by rw [HN.out]; rfl, by rw [HN.out]; exact HH.out, HON.out⟩
        -- /L4
end Go.Proofs.YtjhomkdnhdhffaaGreat
