/- Other weights on the same edges: nothing else turns. Plain Lean; and lists of integers as an argument. -/
import Derived.Test.YtjhomkdnhdhffaaCoverW
namespace Go.Proofs.Ytjhomkdnhdhffaa
open Go.RowKit Go.ChangeShapes Go.WideShapes

def reW : List Ed → List Int → List Ed
  | x :: es, n :: ws => ⟨x.r, x.c, n⟩ :: reW es ws
  | es, [] => es
  | [], _ => []
theorem reW_nil (es : List Ed) : reW es [] = es := by cases es <;> rfl
theorem reW_len : ∀ (es : List Ed) (ws : List Int), (reW es ws).length = es.length
  | [], [] => rfl
  | [], _ :: _ => rfl
  | _ :: _, [] => rfl
  | x :: es, n :: ws => by simp [reW, reW_len es ws]
theorem reW_get : ∀ (es : List Ed) (ws : List Int) (k : Nat) (x : Ed), es[k]? = some x → k ≤ ws.length → (reW es (ws.take k))[k]? = some x
  | [], _, _, _, h, _ => by simp at h
  | a :: es, ws, 0, x, h, _ => by rw [List.take_zero, reW_nil]; exact h
  | a :: es, [], k + 1, x, _, hk => by simp at hk
  | a :: es, n :: ws, k + 1, x, h, hk => by
    rw [List.take_succ_cons]
    show (_ :: reW es (ws.take k))[k + 1]? = _
    rw [List.getElem?_cons_succ]
    exact reW_get es ws k x (by simpa using h) (by simpa using hk)
theorem reW_set : ∀ (es : List Ed) (ws : List Int) (k : Nat) (x : Ed) (n : Int), es[k]? = some x → ws[k]? = some n → (reW es (ws.take k)).set k ⟨x.r, x.c, n⟩ = reW es (ws.take (k + 1))
  | [], _, _, _, _, h, _ => by simp at h
  | a :: es, [], _, _, _, _, h => by simp at h
  | a :: es, m :: ws, 0, x, n, h, h2 => by
    simp at h h2; subst h; subst h2
    show (reW (a :: es) []).set 0 _ = reW (a :: es) [m]
    rw [reW_nil]
    show _ = _ :: reW es []
    rw [reW_nil]; rfl
  | a :: es, m :: ws, k + 1, x, n, h, h2 => by
    rw [List.take_succ_cons, List.take_succ_cons]
    show (_ :: reW es (ws.take k)).set (k + 1) _ = _ :: reW es (ws.take (k + 1))
    rw [List.set_cons_succ, reW_set es ws k x n (by simpa using h) (by simpa using h2)]
theorem reW_all : ∀ (es : List Ed) (ws : List Int) (k : Nat), (es.length ≤ k ∨ ws.length ≤ k) → reW es (ws.take k) = reW es ws
  | [], [], _, _ => by simp
  | [], _ :: _, 0, _ => rfl
  | [], _ :: _, k + 1, _ => rfl
  | a :: es, [], _, _ => by simp
  | a :: es, m :: ws, 0, h => by simp at h
  | a :: es, m :: ws, k + 1, h => by
    rw [List.take_succ_cons]
    show _ :: reW es (ws.take k) = _ :: reW es ws
    rw [reW_all es ws k (by simpa using h)]
theorem reW_mem : ∀ (es : List Ed) (ws : List Int), (∀ x ∈ es, EdOk x) → (∀ n ∈ ws, I64 n) → ∀ x ∈ reW es ws, EdOk x
  | [], [], _, _ => by simp [reW]
  | [], _ :: _, _, _ => by simp [reW]
  | a :: es, [], h, _ => h
  | a :: es, m :: ws, h, h2 => by
    intro x hx
    rcases List.mem_cons.1 hx with rfl | hx
    · have := h a (by simp)
      exact ⟨this.1, this.2.1, h2 m (by simp)⟩
    · exact reW_mem es ws (fun y hy => h y (by simp [hy])) (fun y hy => h2 y (by simp [hy])) x hx
def gW (g : Gr) (ws : List Int) : Gr := ⟨g.rows, g.cols, reW g.es ws⟩
theorem filter_reW (r : Nat) : ∀ (es : List Ed) (ws : List Int), ((reW es ws).filter fun x => decide (x.r = (r : Int))).map (fun x => x.c.toNat) = (es.filter fun x => decide (x.r = (r : Int))).map fun x => x.c.toNat
  | [], [] => rfl
  | [], _ :: _ => rfl
  | _ :: _, [] => rfl
  | a :: es, m :: ws => by
    show ((⟨a.r, a.c, m⟩ :: reW es ws).filter _).map _ = _
    rw [List.filter_cons, List.filter_cons]
    by_cases h : a.r = (r : Int)
    · simp only [h, decide_true, if_true, List.map_cons, filter_reW r es ws]
    · simp only [h, decide_false, Bool.false_eq_true, if_false, filter_reW r es ws]
theorem toOf_reW (es : List Ed) (ws : List Int) : toOf (reW es ws) = toOf es := by
  unfold toOf
  congr 1
  funext r
  exact filter_reW r es ws
theorem joinAll_reW : ∀ (es : List Ed) (ws : List Int), joinAll (reW es ws) = joinAll es := by
  have key : ∀ (es : List Ed) (ws : List Int) s, (reW es ws).foldl (fun s x => joinE s x.r.toNat x.c.toNat) s = es.foldl (fun s x => joinE s x.r.toNat x.c.toNat) s := by
    intro es
    induction es with
    | nil => intro ws s; cases ws <;> rfl
    | cons a es ih =>
      intro ws s
      cases ws with
      | nil => rfl
      | cons m ws => exact ih ws _
  intro es ws
  exact key es ws _
theorem most_reW (g : Gr) (ws : List Int) : (mostAt (gW g ws) (gW g ws).rows.toNat).l = (mostAt g g.rows.toNat).l := by
  unfold mostAt gW
  simp only [toOf_reW]
theorem rows_reW (g : Gr) (ws : List Int) : coverRows (gW g ws) = coverRows g := by
  unfold coverRows visOf gW
  simp only [toOf_reW]
theorem cols_reW (g : Gr) (ws : List Int) : coverCols (gW g ws) = coverCols g := by
  unfold coverCols visOf gW
  simp only [toOf_reW]
theorem parts_reW (g : Gr) (ws : List Int) : parts (gW g ws) = parts g := by
  unfold parts gW
  simp only [joinAll_reW]

/-! ### A list of integers as an argument -/
def intC (n : Int) : Array Value := #[.int .i64 n]
structure IntsOk (l : List Int) (cap : Nat) : Prop where
  all : ∀ n ∈ l, I64 n
  len : l.length ≤ cap
  cap : cap ≤ 9223372036854775807
section
variable {H : Type} {enc : TypeId × Value → H} {w : World} {base : Nat} {spare : Nat → Bool} {held : Bool}
theorem open_intlist {r : Reach} {b0 : Nat} {v : Value} {d : DataW H} {ps : List MemPlace} (hval : Value.okWide Try.prog w r b0 34 v) (h : DataW.Trod enc Try.prog w base spare held 34 v d ps) :
    ∃ x : List Int × Option Addr × Nat, (IntsOk x.1 x.2.2 ∧ RowsAt 1 intC w x.2.1 x.1) ∧ v = .slice x.2.1 x.1.length x.2.2 := by
  obtain ⟨a, len, cap, rfl⟩ := okWide_slice Try.underlying34 hval
  obtain ⟨fuel, hf⟩ := h
  obtain ⟨a', cap', l, hcs, hrows, hok, hle, hcap⟩ := open_rows (α := Int) (s := 1) (f := intC) (R := I64) Try.underlying34 (by kernel_rfl) (by omega) (fun n c y hc hy => by
    obtain ⟨b, hb, _, hw⟩ := DataW.trod_int Try.underlying3 hy
    exact ⟨b, bounds_i64 hw, by rw [hb]; rfl⟩) hf
  simp [Value.cells] at hcs
  obtain ⟨rfl, rfl, rfl⟩ := hcs
  exact ⟨(l, a, cap), ⟨⟨hok, hle, hcap⟩, hrows⟩, rfl⟩
end
end Go.Proofs.Ytjhomkdnhdhffaa
