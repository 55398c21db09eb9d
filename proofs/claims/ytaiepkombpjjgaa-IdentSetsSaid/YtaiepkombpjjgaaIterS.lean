/- (*Set).All's iterator: the contract, at whatever set. -/
import Derived.Test.YtaiepkombpjjgaaIter
import Derived.Laws.IdiomRangeMap
namespace Go.Proofs.Ytaiepkombpjjgaa
open Go.RowKit Go.Shelf
attribute [local go_sem] Oper.semAt_some

set_option maxRecDepth 100000 in
set_option maxHeartbeats 2000000 in
theorem all1_bare {n l : Nat} {J : List Id8 → World → Prop} {bx p : Nat} {W : World} (hbx : W.heap[bx]? = some (.cells #[.pointer (some ⟨p, 0, none⟩)] 40 (0, 0))) (hp : W.heap[p]? = some (.cells #[.map none] 67 (0, 0)))
    (hJ : AbidesFrom W.heap.size J) (h0 : J [] W) :
    CallsIn Fence.wide n Try.prog 50 #[.func (.yield l) #[] #[], .pointer (some ⟨bx, 0, none⟩)] W fun e W' => (∃ v, e = .returned v) ∧ J [] W' := by
  have hcell : W.cell? ⟨bx, 0, none⟩ = some (.pointer (some ⟨p, 0, none⟩)) := by rw [cell_of_row _ _ _ _ _ _ hbx]; rfl
  have hpc : W.cell? ⟨p, 0, none⟩ = some (.map none) := by rw [cell_of_row _ _ _ _ _ _ hp]; rfl
  have hrg := fun w => run_range_nilMap (P := Try.prog) w _ _ _ Try.underlying65
  have hnx := fun w ty => run_next_nilMap (P := Try.prog) w ty 0 0 #[]
  obtain ⟨i0, hi, hz0, hz1, hz2⟩ := info_parts Try.infoId
  refine callsIn_of_wp Try.func50 rfl trivial ?_ rfl
  refine wpIn_wide.2 ?_
  simp only [Try.ntmps50, List.size_toArray, List.length_cons, List.length_nil, Nat.reduceAdd, Nat.reduceSub, Array.replicate_succ, Array.replicate_zero, List.push_toArray, List.append_toArray, List.nil_append, List.cons_append]
  go_wp2_with (at_make; refine wpList_make_own _ rfl _ _ 52 rfl W.heap.size 23 i0 _ 8 Try.underlying52 hi hz0 hz1 _ _ _ 0 rfl rfl (by omega) (by rw [hz2]; omega) (by unfold maxLen; omega) (Nat.le_refl _) ?_)
  intro w1 hown hgrow
  have B1 : Hid (Below W.heap.size W w1) := hid ((Below.refl _ _).grown hgrow (Nat.le_refl _) (fun _ e => by cases e))
  have hc1 : w1.cell? ⟨bx, 0, none⟩ = some (.pointer (some ⟨p, 0, none⟩)) := (B1.out.cell (p := ⟨bx, 0, none⟩) (heap_lt hbx)).trans hcell
  have hp1 : w1.cell? ⟨p, 0, none⟩ = some (.map none) := (B1.out.cell (p := ⟨p, 0, none⟩) (heap_lt hp)).trans hpc
  have HO := hid hown
  have HJ := hid hJ
  have H0 := hid h0
  clear hown hgrow hcell hpc h0 hJ
  go_wp2_with fail
  go_loopw [3] (fun v wr => v = .slice (some ⟨W.heap.size, 0, none⟩) 0 0 ∧ wr = w1.alloc (.mapIter none 0 #[] 0)) (fun _ _ => 0)
  case atStart => exact ⟨rfl, rfl⟩
  case round =>
    obtain ⟨rfl, rfl⟩ := hrel
    have HC := hid (sortIds_any [] (by simp) (by simp) rfl (w1.alloc (.mapIter none 0 #[] 0)) (HO.out.alloc _))
    go_wp2_with (go_at_call 51; refine HC.out.mono ?_; rintro e' w3 ⟨rfl, ho3, hk3⟩; have HO3 := hid ho3; have HK3 := hid hk3; clear ho3 hk3)
    go_loopw [32] (fun i wr => i = .int .i64 0 ∧ wr = w3) (fun _ _ => 0)
    case atStart => exact ⟨rfl, rfl⟩
    case round =>
      obtain ⟨rfl, rfl⟩ := hrel
      go_wp2
      go_end0
      have hB3 := ((B1.out.alloc B1.out.size (.mapIter none 0 #[] 0)).trans (HK3.out.toBelow (by have := B1.out.size; simp; omega) (fun k _ hk => own_base HO.out hk)))
      exact ⟨⟨_, rfl⟩, HJ.out [] W _ none H0.out ⟨hB3.os, hB3.tape, hB3.output, hB3.size, fun k hk _ => hB3.block k hk⟩ (fun r e => by cases e)⟩

/-- What an iterator that All gave goes through, asked now. -/
def IterAt (w : World) (bx : Nat) (L : List Id8) : Prop :=
  ∃ pp, w.heap[bx]? = some (.cells #[.pointer pp] 40 (0, 0)) ∧
    ((pp = none ∧ L = []) ∨ ∃ p, pp = some ⟨p, 0, none⟩ ∧ ((w.heap[p]? = some (.cells #[.map none] 67 (0, 0)) ∧ L = []) ∨ ∃ b S, SetIs w p b S ∧ L.map Subtype.val = sortB S))
theorem IterAt.kept {w w' : World} {bx : Nat} {L : List Id8} (h : IterAt w bx L) (hb : Below w.heap.size w w') : IterAt w' bx L := by
  obtain ⟨pp, h1, h2⟩ := h
  refine ⟨pp, below_keep hb h1, ?_⟩
  rcases h2 with h2 | ⟨p, rfl, ⟨h3, h4⟩ | ⟨b, S, h3, h4⟩⟩
  · exact .inl h2
  · exact .inr ⟨p, rfl, .inl ⟨below_keep hb h3, h4⟩⟩
  · exact .inr ⟨p, rfl, .inr ⟨b, S, h3.kept hb, h4⟩⟩
/-- The sorted ids as such. -/
def idsOf (S : List (List Int)) (h : ∀ x ∈ S, B8 x) : List Id8 := att (sortB S) fun x hx => h x (sortB_mem.1 hx)
theorem idsOf_val (S : List (List Int)) (h : ∀ x ∈ S, B8 x) : (idsOf S h).map Subtype.val = sortB S := att_val _ _

/-- **(*Set).All's iterator goes through the ids in order.** -/
theorem iter_stops {n : Nat} (hn : 1 ≤ n) {O : World → Nat → Prop} {bx : Nat} {L : List Id8} {w : World} (hI : IterAt w bx L) (hlen : L.length ≤ 1099511627776)
    (hO : ∀ W W' k, (∀ j, j < w.heap.size → W'.heap[j]? = W.heap[j]?) → O W' k → O W k) (hO0 : ∀ k, O w k → k < w.heap.size) :
    SeqStopsK Fence.wide n Try.prog 50 #[.pointer (some ⟨bx, 0, none⟩)] (fun x : Id8 => #[.agg (bys x.1)]) (KO 23 O) (fun ys => ys = L) (fun pre => pre <+: L) L.length w := fun l J Jx W hW hJ _ hY h0 => by
  have hI' := hI.kept hW
  obtain ⟨pp, h1, h2⟩ := hI'
  rcases h2 with ⟨rfl, rfl⟩ | ⟨p, rfl, ⟨h3, rfl⟩ | ⟨b, S, h3, h4⟩⟩
  · exact (all1_nil h1 h0).mono fun e W' ⟨h, hj⟩ => ⟨h, .inl ⟨_, rfl, hj⟩⟩
  · exact (all1_bare h1 h3 hJ h0).mono fun e W' ⟨h, hj⟩ => ⟨h, .inl ⟨_, rfl, hj⟩⟩
  · have hls : S.length = L.length := by rw [← sortB_len S, ← h4, List.length_map]
    refine all1_set hn h1 h3 h4 (by omega) (fun W' hW' k hk => ?_) (fun A o k hA hk => ?_) hJ hY h0
    · have hb : ∀ j, j < w.heap.size → W'.heap[j]? = w.heap[j]? := fun j hj => (hW'.block j (by have := hW.size; omega)).trans (hW.block j hj)
      exact Nat.lt_of_lt_of_le (hO0 k (hO w W' k hb hk)) hW.size
    · exact hO A (A.alloc o) k (fun j hj => Below.heap_alloc _ _ _ (by have := hW.size; omega)) hk
end Go.Proofs.Ytaiepkombpjjgaa
