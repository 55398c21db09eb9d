/- Riders: Cancel, Expire. -/
import Derived.Test.YtkaalppmheikgaaRdTk
import Derived.Test.YtkaalppmheikgaaExPl
import Derived.Test.YtkaalppmheikgaaSlB1
import Derived.Test.YtkaalppmheikgaaStm
namespace Go.Proofs.Ytkaalppmheikgaa
open Go.RowKit

section
variable {w : World} {p : Nat} {B : RB} {R : RS} {H : List (Id8 × Int)} {l : List It} {came : Int}
set_option maxRecDepth 100000 in
set_option maxHeartbeats 4000000 in
theorem cancel_any (h : RdAt w p B R H l came) (hT : R.T.length ≤ 1048576) (x : Id8) : Calls Try.prog 20 #[.pointer (some ⟨p, 0, none⟩), .agg (bys x.1)] w fun e w' => e = .returned (.int .i64 (takE R x)) ∧ RdPost w w' p B (takR R x) := by
  have HKI := hid (idV_info x)
  have HB0 := hid ((Below.refl w.heap.size w).alloc (Nat.le_refl _) (.cells (bys x.1) 31))
  have HTK := hid (take_any (h.kept HB0.out) hT x)
  have HR := hid h
  clear h
  go_enter Try.func20, Try.ntmps20
  go_wp2_with (first | (refine wpList_load_w rfl 31 _ rfl _ rfl _ _ _ _ (heap_alloc_new _ _) Try.underlying31 rfl HKI.out ?_) | (go_at_call 21; (with_reducible refine HTK.out.mono ?_); rintro e w2 ⟨rfl, h2⟩; have H2 := hid h2; clear h2) | (refine wpList_store_row rfl 48 _ _ rfl _ rfl _ rfl _ _ (heap_alloc_new _ _) (by rw [wtE_size]; rfl) (wtE_ones _) (wtE_info _) _ (setRow_alloc _ _ _ _) ?_))
  go_ret
  exact ⟨rfl, (H2.out.weak.after ((Kp.refl _ w).below HB0.out)).below ((Below.refl _ _).alloc (Nat.le_refl _) _)⟩
end
theorem wtE_table : (Try.prog.info? 48).map (fun i => (i.zero, i.size, i.bytes)) = some (some (.agg (wtE wtZ)), 18, 56) := by kernel_rfl
def _root_.Go.Value.sliceLen : Value → Nat
  | .slice _ n _ => n
  | _ => 0
theorem own_base' {w : World} {base size n k : Nat} {e : TypeId} {v : Value} {xs : List Value} (h : w.ownsRow base e size v n xs) (hk : v.ownBlock = some k) : base ≤ k := by
  rcases h.2 with ⟨rfl, _⟩ | ⟨g, cap, cur, rfl, hb, _⟩
  · simp [Value.ownBlock] at hk
  · obtain rfl : g = k := by simpa [Value.ownBlock] using hk
    exact hb
/-- Expire under way. -/
structure ExS (w wr : World) (p : Nat) (B Bk : RB) (R : RS) (now : Int) (v : Value) (L : List Wt) (U : List (Id8 × Wt)) (H : List (Id8 × Int)) (l : List It) (came : Int) : Prop where
  rd : RdAt wr p Bk { R with now := now, T := U } H l came
  row : wr.ownsRow w.heap.size 48 18 v L.length (fl wtE L)
  kp : Kp (ROwn p B) w wr
  own : ∀ k, ROwn p Bk k → ROwn p B k
  lt : ∀ k, ROwn p B k → k < w.heap.size
  ex : ExpI R.T now L U
section
variable {w wr w' : World} {p : Nat} {B Bk : RB} {R : RS} {now : Int} {v : Value} {L : List Wt} {U : List (Id8 × Wt)} {H : List (Id8 × Int)} {l : List It} {came : Int}
theorem ExS.kept (h : ExS w wr p B Bk R now v L U H l came) (hb : Below wr.heap.size wr w') : ExS w w' p B Bk R now v L U H l came :=
  ⟨h.rd.kept hb, ownsRow_other h.row fun g hg => hb.block g (ownsRow_lt h.row hg), h.kp.below hb, h.own, h.lt, h.ex⟩
end
/-- The riders, of whom one has just been taken. -/
def ExT (w wr : World) (p : Nat) (B : RB) (R : RS) (now : Int) (V : List (Id8 × Wt)) : Prop := ∃ Bk H l came, RdAt wr p Bk { R with now := now, T := V } H l came ∧ Kp (ROwn p B) w wr ∧ ∀ k, ROwn p Bk k → ROwn p B k
theorem ExS.take {w wr w' : World} {p : Nat} {B Bk : RB} {R : RS} {now : Int} {v : Value} {L : List Wt} {U : List (Id8 × Wt)} {H : List (Id8 × Int)} {l : List It} {came : Int} (h : ExS w wr p B Bk R now v L U H l came) {k : Id8} (hp : RdPostS wr w' p Bk (takR { R with now := now, T := U } k)) :
    w'.ownsRow w.heap.size 48 18 v L.length (fl wtE L) ∧ ExT w w' p B R now (delM U k) := by
  obtain ⟨B', H', l', c', h1, h2, h3⟩ := hp
  refine ⟨ownsRow_other h.row fun g hg => h2.block g (ownsRow_lt h.row hg) fun q => ?_, B', H', l', c', h1, h.kp.trans h2 (fun k _ q => h.own k q), fun k q => h.own k (h3 k q)⟩
  have := h.lt g (h.own g q)
  have := own_base' h.row hg
  omega
theorem ExT.push {w wr w5 w6 : World} {p : Nat} {B : RB} {R : RS} {now : Int} {v v' : Value} {L : List Wt} {V : List (Id8 × Wt)} (h : ExT w wr p B R now V) (hlt : ∀ k, ROwn p B k → k < w.heap.size) {y : Wt} (hb : Below wr.heap.size wr w5) (ho : w6.ownsRow w.heap.size 48 18 v' (L.length + 1) (fl wtE L ++ (wtE y).toList)) (hg : w5.grownBy w6 v.ownBlock)
    (hlow : ∀ k, v.ownBlock = some k → w.heap.size ≤ k) (hex : ExpI R.T now (L ++ [y]) V) : ∃ Bk H l came, ExS w w6 p B Bk R now v' (L ++ [y]) V H l came := by
  obtain ⟨Bk, H, l, c, h1, h2, h3⟩ := h
  have h5 := h1.kept hb
  refine ⟨Bk, H, l, c, ⟨h5.same fun k q => hg.block k (h5.lt q) fun e => ?_, ?_, (h2.below hb).grown hg fun k e => .inr (hlow k e), h3, hlt, hex⟩⟩
  · have := hlow k e.symm
    have := hlt k (h3 k q)
    omega
  · rw [fl_append, fl_one, List.length_append]; exact ho
/-- What Expire leaves where it goes through. -/
def ExpPost (w w' : World) (p : Nat) (B : RB) (R : RS) (now : Int) (e : Ending) : Prop :=
  ∃ v L U, e = .returned v ∧ w'.ownsRow w.heap.size 48 18 v L.length (fl wtE L) ∧ ExpOk R.T now L U ∧ ∃ B' H' l' came', RdAt w' p B' { R with now := now, T := U } H' l' came' ∧ Kp (ROwn p B) w w' ∧ ∀ k, ROwn p B' k → ROwn p B k
section
variable {w : World} {p : Nat} {B : RB} {R : RS} {H : List (Id8 × Int)} {l : List It} {came : Int}
set_option maxRecDepth 100000 in
set_option maxHeartbeats 4000000 in
theorem expire_no (h : RdAt w p B R H l came) (now : Int) (hno : tickOk now = false ∨ now < R.now) : Calls Try.prog 16 #[.pointer (some ⟨p, 0, none⟩), .int .i64 now] w fun e w' => e = .returned (.slice none 0 0) ∧ Below w.heap.size w w' := by
  have HTH := hid (there_any h)
  have HTI := hid (tick_any now w)
  rw [show (decide (0 ≤ now) && decide (now ≤ 1099511627776)) = tickOk now from rfl] at HTI
  have hc5 := fun u (hb : Below w.heap.size w u) => (h.kept hb).c5
  clear h
  cases ht : tickOk now
  · rw [ht] at HTI
    clear hno ht hc5
    go_enter Try.func16, Try.ntmps16
    go_wp2_with (first | (go_at_call 25; (with_reducible refine HTH.out.mono ?_); rintro e w2 ⟨rfl, rfl⟩) | (go_at_call 30; (with_reducible refine HTI.out.mono ?_); rintro e w3 ⟨rfl, hb3⟩))
    go_ret
    exact ⟨rfl, hb3⟩
  · rw [ht] at HTI
    have hlt : now < R.now := by
      rcases hno with e | e
      · rw [ht] at e; cases e
      · exact e
    clear hno ht
    go_enter Try.func16, Try.ntmps16
    go_wp2_with (first | (go_at_call 25; (with_reducible refine HTH.out.mono ?_); rintro e w2 ⟨rfl, rfl⟩) | (go_at_call 30; (with_reducible refine HTI.out.mono ?_); rintro e w3 ⟨rfl, hb3⟩; have hc3 := hc5 _ hb3))
    go_ret
    exact ⟨rfl, hb3⟩
set_option maxRecDepth 100000 in
set_option maxHeartbeats 16000000 in
theorem expire_any (h : RdAt w p B R H l came) (now : Int) (ht : tickOk now = true) (hge : R.now ≤ now) (hT : R.T.length ≤ 1048576) (hids : ∀ q ∈ R.T, q.2.rq.id = q.1) (hnums : (R.T.map fun q => q.2.num).Nodup) : Calls Try.prog 16 #[.pointer (some ⟨p, 0, none⟩), .int .i64 now] w fun e w' => ExpPost w w' p B R now e := by
  have HTH := hid (there_any h)
  have HTI := hid (tick_any now w)
  rw [show (decide (0 ≤ now) && decide (now ≤ 1099511627776)) = tickOk now from rfl, ht] at HTI
  have HR := hid h
  have HC5 := hid (fun u (hb : Below w.heap.size w u) => And.intro (h.kept hb).c5 (free_row (h.kept hb).blk 5))
  have HIDS := hid hids
  have HNUMS := hid hnums
  have hnlt : ¬ now < R.now := by omega
  obtain ⟨i0, hi, hz0, hz1, hz2⟩ := info_parts wtE_table
  clear h ht hids hnums hge
  go_enter Try.func16, Try.ntmps16
  go_wp2_with (first | (go_at_call 25; (with_reducible refine HTH.out.mono ?_); rintro e w2 ⟨rfl, hw2⟩; rw [hw2]; clear hw2) | (go_at_call 30; (with_reducible refine HTI.out.mono ?_); rintro e w3 ⟨rfl, hb3⟩; obtain ⟨hc3, hf3⟩ := HC5.out _ hb3; have HB3 := hid hb3; clear hb3))
  have HS0 : Hid (∃ Bk H' l' came', ExS w (w3.setCell ⟨p, 5, none⟩ (.int .i64 now)) p B Bk R now (.slice none 0 0) [] R.T H' l' came') := hid (by
    have h3 := HR.out.kept HB3.out
    obtain ⟨q1, q2⟩ := h3.toRdM.setP 5 (.int .i64 now) (R2 := { R with now := now }) rfl rfl rfl
    exact ⟨B, H, l, came, ⟨⟨q1, h3.hok, h3.rel, h3.cnt⟩, World.ownsRow_nil _ _ _ _, ((Kp.refl _ w).below HB3.out).trans q2 (fun _ _ q => q), fun _ q => q, fun k q => HR.out.lt q, ExpI.start _ _⟩⟩)
  clear hc3 hf3 HTH HTI HC5 HB3
  generalize w3.setCell ⟨p, 5, none⟩ (.int .i64 now) = ws at *
  go_loopw [5] (fun v wr => ∃ (L : List Wt) (U : List (Id8 × Wt)) (Bk : RB) (H' : List (Id8 × Int)) (l' : List It) (came' : Int), Hid (ExS w wr p B Bk R now v L U H' l' came') ∧ v.sliceLen = L.length) (fun v _ => R.T.length - v.sliceLen)
  case atStart =>
    obtain ⟨Bk, H', l', came', h1⟩ := HS0.out
    exact ⟨[], R.T, Bk, H', l', came', hid h1, rfl⟩
  case round =>
    clear HS0
    obtain ⟨L, U, Bk, H', l', came', HS, hvl⟩ := hrel
    obtain ⟨va, cap, rfl⟩ := ownsRow_shape HS.out.row
    have hlen : L.length + U.length = R.T.length := by have := HS.out.ex.perm.length_eq; simpa using this
    have hc9 := HS.out.rd.c9
    rcases l' with _ | ⟨a, l'⟩
    · have hU : U = [] := by have := HS.out.rd.rel.len; exact List.eq_nil_of_length_eq_zero (by simpa using this.symm)
      have HF := hid (first_none HS.out.rd.hp)
      go_wp2_with (first | (go_at_call 34; (with_reducible refine HF.out.mono ?_); rintro e w4 ⟨rfl, hb4⟩; have HB4 := hid hb4; clear hb4) | (refine wpList_store_row rfl 31 _ _ rfl _ rfl _ rfl _ _ (heap2_old _ _ _ _) (by rw [bys_size]; rfl) (bys_one _) (info_id _ zs_B8) _ (setRow_alloc2 _ _ _ _ _) ?_) | (refine wpList_store_row rfl 79 _ _ rfl _ rfl _ rfl _ _ (heap2_new _ _ _ _) rfl (by intro v hv; simp at hv; rw [hv]; rfl) (by kernel_rfl) _ (setRow_alloc2n _ _ _ _ _) ?_))
      go_ret
      have hS2 := HS.out.kept ((HB4.out.alloc HB4.out.size (.cells (bys (zs 8)) 31)).alloc (by have := HB4.out.size; simp; omega) (.cells #[.int .i64 0, .int .i64 0] 79))
      exact ⟨_, L, U, rfl, hS2.row, hS2.ex.fin (by rw [hU]; simp), Bk, H', _, _, hS2.rd, hS2.kp, hS2.own⟩
    · have ha0 : (a :: l')[0]? = some a := rfl
      have hll : (a :: l').length = U.length := HS.out.rd.rel.len
      have HF := hid (first_some HS.out.rd.hp ha0 (by omega))
      obtain ⟨q, hqU, hq1, hq2, hq3⟩ := HS.out.rd.rel.mem (a := a) List.mem_cons_self
      have HLE := hid (rel_least HS.out.rd.rel HS.out.rd.hok ha0 hq2 hq3)
      have HAI := hid (idV_info a.key)
      have HA8 : Hid ((bys a.key.1).size = 8) := hid (by rw [bys_size, a.key.2.1])
      unfold rkV at HF
      have HLAST := hid (fun (w4 : World) (hb4 : Below wr.heap.size wr w4) => HS.out.kept ((hb4.alloc hb4.size (.cells (bys a.key.1) 31)).alloc (by have := hb4.size; simp; omega) (.cells #[.int .i64 a.tick, .int .i64 a.num] 79)))
      have HCT := hid (fun (w4 : World) => (row_cell (heap2_new w4 (.cells (bys a.key.1) 31) #[.int .i64 a.tick, .int .i64 a.num] 79) 0 (.int .i64 a.tick) rfl))
      have HQ := hid (And.intro hqU (And.intro hq1 (And.intro hq2 hq3)))
      clear hqU hq1 hq2 hq3 ha0
      by_cases hd : now ≤ a.tick
      · go_wp2_with (first | (go_at_call 34; (with_reducible refine HF.out.mono ?_); rintro e w4 ⟨rfl, hb4⟩; have HB4 := hid (HLAST.out w4 hb4); have hct := HCT.out w4; clear hb4) | (refine wpList_store_row rfl 31 _ _ rfl _ rfl _ rfl _ _ (heap2_old _ _ _ _) (by rw [HA8.out]; rfl) (bys_one _) HAI.out _ (setRow_alloc2 _ _ _ _ _) ?_) | (refine wpList_store_row rfl 79 _ _ rfl _ rfl _ rfl _ _ (heap2_new _ _ _ _) rfl (by intro v hv; simp at hv; rcases hv with hv | hv <;> rw [hv] <;> rfl) (by kernel_rfl) _ (setRow_alloc2n _ _ _ _ _) ?_))
        go_ret
        refine ⟨_, L, U, rfl, HB4.out.row, HB4.out.ex.fin (fun z hz => ?_), Bk, H', _, _, HB4.out.rd, HB4.out.kp, HB4.out.own⟩
        have h1 := HLE.out z hz
        obtain ⟨_, _, h2, _⟩ := HQ.out
        omega
      · go_wp2_with (first | (go_at_call 34; (with_reducible refine HF.out.mono ?_); rintro e w4 ⟨rfl, hb4⟩; have HB4 := hid (HLAST.out w4 hb4); have hct := HCT.out w4; clear hb4) | (refine wpList_store_row rfl 31 _ _ rfl _ rfl _ rfl _ _ (heap2_old _ _ _ _) (by rw [HA8.out]; rfl) (bys_one _) HAI.out _ (setRow_alloc2 _ _ _ _ _) ?_) | (refine wpList_store_row rfl 79 _ _ rfl _ rfl _ rfl _ _ (heap2_new _ _ _ _) rfl (by intro v hv; simp at hv; rcases hv with hv | hv <;> rw [hv] <;> rfl) (by kernel_rfl) _ (setRow_alloc2n _ _ _ _ _) ?_) | (refine wpList_load_w rfl 31 _ rfl _ rfl _ _ _ _ (heap2_old _ _ _ _) Try.underlying31 rfl HAI.out ?_))
        obtain ⟨W4, hW4⟩ : ∃ W4, W4 = ((w4.alloc (.cells (bys a.key.1) 31)).alloc (.cells #[.int .i64 a.tick, .int .i64 a.num] 79)) := ⟨_, rfl⟩
        rw [← hW4] at HB4 hct ⊢
        have hUl : U.length ≤ 1048576 := by omega
        have HTK := hid (take_any HB4.out.rd hUl a.key)
        have hlk : lkp a.key U = some q.2 := by
          obtain ⟨h1, h2, _⟩ := HQ.out
          exact (lkp_mem HB4.out.rd.wm.nodup).2 (by rw [← h2]; exact h1)
        rw [show wtOf { R with now := now, T := U } a.key = q.2 by unfold wtOf; dsimp only; rw [hlk]; rfl] at HTK
        have HDUE : Hid (ExpI R.T now (L ++ [q.2]) (delM U a.key)) := hid (by
          obtain ⟨h1, h2, h3, h4⟩ := HQ.out
          exact HB4.out.ex.step HB4.out.rd.wm.nodup HIDS.out HNUMS.out (k := a.key) (y := q.2) (by rw [← h2]; exact h1) (by omega) HLE.out)
        have HLT := hid HS.out.lt
        have hl2 : L.length ≤ 1048576 := by omega
        have hll2 : L.length < R.T.length := by rw [List.length_cons] at hll; omega
        have HWI := hid (wtE_info q.2)
        have HWS : Hid ((wtE q.2).size = 18) := hid (wtE_size q.2)
        have HB4S := hid HB4.out.kp.size
        clear hW4 hlk hct HLE HLAST HCT HF HS hc9 HAI HA8
        go_wp2_with (first | (go_at_call 21; (with_reducible refine HTK.out.mono ?_); rintro e w5 ⟨rfl, h5⟩; have H5 := hid (HB4.out.take h5); have HR5 := hid H5.out.1; have hws := Nat.le_trans HB4S.out (Nat.le_refl _); have hws5 : w.heap.size ≤ w5.heap.size := (by obtain ⟨_, _, _, _, _, q2, _⟩ := H5.out.2; exact q2.size); clear h5) | (refine wpList_store_row rfl 48 _ _ rfl _ rfl _ rfl _ _ (heap_alloc_new _ _) (by rw [HWS.out]; rfl) (wtE_ones _) HWI.out _ (setRow_alloc _ _ _ _) ?_) | (refine wpList_load_w rfl 48 _ rfl _ rfl _ _ _ _ (heap_alloc_new _ _) Try.underlying48 rfl HWI.out ?_) | (refine wpList_build1 rfl 38 48 _ rfl _ rfl i0 _ Try.underlying38 hi hz0 (by rw [hz1, HWS.out]) (by rw [HWS.out]; decide) (by rw [HWS.out]; decide) ?_) | (at_builtin; refine wpList_append_own_at _ rfl _ _ 38 rfl w.heap.size 48 i0 _ 18 56 Try.underlying38 hi hz0 hz1 hz2 rfl (by decide) _ _ _ rfl ((HR5.out.alloc _).alloc _) ⟨_, 0, none⟩ 1 1 (wtE q.2).toList rfl (by rw [Array.length_toList, HWS.out]) (cells_at (heap_alloc_new _ _)) (wtE_ones q.2) (by unfold maxLen; omega) (by omega) (by simp; omega) ?_))
        intro v' w6 ho6 hg6 hnil6 hat6
        obtain ⟨Bk2, H2, l2, c2, h6⟩ := H5.out.2.push HLT.out (((Below.refl _ _).alloc (Nat.le_refl _) _).alloc (by simp) _) ho6 hg6 (fun k e => own_base' HR5.out e) HDUE.out
        have HS6 := hid h6
        obtain ⟨va6, cap6, rfl⟩ := ownsRow_shape ho6
        clear ho6 hg6 hnil6 hat6 h6
        go_wp2
        refine ⟨⟨L ++ [q.2], delM U a.key, Bk2, H2, l2, c2, HS6, by simp [Value.sliceLen]⟩, ?_⟩
        simp only [Value.sliceLen]; omega
end
end Go.Proofs.Ytkaalppmheikgaa
