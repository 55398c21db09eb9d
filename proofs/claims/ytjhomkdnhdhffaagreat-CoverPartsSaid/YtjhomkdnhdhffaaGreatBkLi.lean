/- What a Book holds of lists of lists of numbers: their marks are lists themselves, each in a block of its own. -/
import Derived.Test.YtjhomkdnhdhffaaGreatBkPl
namespace Go.Proofs.YtjhomkdnhdhffaaGreat
open Go.RowKit

def mkIntList (n : Nat) : List Value := [.int .i64 n]
theorem mkIntList_len (n : Nat) : (mkIntList n).length = 1 := rfl
/-- A mark. -/
def MkAt (B : Nat) (w : World) (n : Nat) (v : Value) : Prop := ∃ g, v = .slice (some ⟨g, 0, none⟩) 1 1 ∧ B ≤ g ∧ w.heap[g]? = some (.cells #[.int .i64 (-1000 - (n : Int))] 3 (0, 0))
/-- Blocks of numbers behind B are as they were. -/
def Mkp (B : Nat) (w w' : World) : Prop := ∀ g cs, B ≤ g → w.heap[g]? = some (.cells cs 3 (0, 0)) → w'.heap[g]? = w.heap[g]?
section
variable {B n : Nat} {w w' : World} {v : Value}
theorem MkAt.kept (h : MkAt B w n v) (k : Mkp B w w') : MkAt B w' n v := by
  obtain ⟨g, rfl, h1, h2⟩ := h
  exact ⟨g, rfl, h1, (k g _ h1 h2).trans h2⟩
theorem Mkp.below (h : Below w.heap.size w w') : Mkp B w w' := fun g _ _ hc => h.block g (heap_lt hc)
theorem Mkp.trans {w2 : World} (h : Mkp B w w') (k : Mkp B w' w2) : Mkp B w w2 := fun g cs hg hc => (k g cs hg ((h g cs hg hc).trans hc)).trans (h g cs hg hc)
theorem Mkp.setCell {b k : Nat} {cs : Array Value} {T : TypeId} {fr : Nat × Nat} (hb : w.heap[b]? = some (.cells cs T fr)) (hT : T ≠ 3) (u : Value) : Mkp B w (w.setCell ⟨b, k, none⟩ u) := fun g c2 _ hc => heap_setCell_ne (fun e => by
  subst e
  rw [hc] at hb; cases hb; exact hT rfl)
theorem Mkp.grown {row : Option Nat} (hg : w.grownBy w' row) (hr : ∀ k, row = some k → ∃ cs T fr, w.heap[k]? = some (.cells cs T fr) ∧ T ≠ 3) : Mkp B w w' := fun g c2 _ hc => hg.block g (heap_lt hc) fun e => by
  obtain ⟨cs, T, fr, h1, h2⟩ := hr g e.symm
  rw [hc] at h1; cases h1; exact h2 rfl
theorem Mkp.kp {S : Nat → Prop} (h : Kp S w w') (hS : ∀ g cs, B ≤ g → w.heap[g]? = some (.cells cs 3 (0, 0)) → ¬ S g) : Mkp B w w' := fun g cs hg hc => h.block g (heap_lt hc) (hS g cs hg hc)
end
def UptoQ (B : Nat) (w : World) (n k : Nat) (xs : List Value) : Prop := ∀ i, i < k → ∃ v, xs[i]? = some v ∧ MkAt B w n v
def IsQ (B : Nat) (w : World) (n m : Nat) (xs : List Value) : Prop := xs.length = m ∧ UptoQ B w n m xs
def ReadQ (B : Nat) (w : World) (n : Nat) (v : Value) (m : Nat) : Prop := ∃ a cap, v = .slice a m cap ∧ ∀ i, i < m → ∃ g u, a = some ⟨g, 0, none⟩ ∧ w.cell? ⟨g, i, none⟩ = some u ∧ MkAt B w n u
section
variable {B n m k : Nat} {w w' : World} {v : Value} {xs : List Value}
theorem UptoQ.kept (h : UptoQ B w n k xs) (hm : Mkp B w w') : UptoQ B w' n k xs := fun i hi => by
  obtain ⟨v, h1, h2⟩ := h i hi
  exact ⟨v, h1, h2.kept hm⟩
theorem IsQ.kept (h : IsQ B w n m xs) (hm : Mkp B w w') : IsQ B w' n m xs := ⟨h.1, h.2.kept hm⟩
theorem UptoQ.set (h : UptoQ B w n k xs) (hk : k < xs.length) (hv : MkAt B w n v) : UptoQ B w n (k + 1) (xs.set k v) := fun i hi => by
  by_cases e : k = i
  · subst e; exact ⟨v, List.getElem?_set_self hk, hv⟩
  · rw [List.getElem?_set_ne e]; exact h i (by omega)
theorem IsQ.push (h : IsQ B w n m xs) (hv : MkAt B w n v) : IsQ B w n (m + 1) (xs ++ [v]) := ⟨by rw [List.length_append, h.1]; rfl, fun i hi => by
  by_cases e : i < m
  · rw [List.getElem?_append_left (by rw [h.1]; exact e)]; exact h.2 i e
  · have e2 : i = m := by omega
    subst e2
    rw [List.getElem?_append_right (by rw [h.1]; exact Nat.le_refl _), h.1, Nat.sub_self]
    exact ⟨v, rfl, hv⟩⟩
theorem IsQ.read {base : Nat} {e : TypeId} (h : w.ownsRow base e 1 v m xs) (hx : IsQ B w n m xs) : ReadQ B w n v m := by
  obtain ⟨a, cap, rfl⟩ := ownsRow_shape h
  refine ⟨a, cap, rfl, fun i hi => ?_⟩
  obtain ⟨g, cap', hv⟩ := ownsRow_form' h (by omega)
  cases hv
  obtain ⟨u, h1, h2⟩ := hx.2 i hi
  exact ⟨g, u, rfl, by rw [h.cellAt _ (by omega)]; exact h1, h2⟩
theorem ReadQ.kept (h : ReadQ B w n v m) (hk : ∀ g, v.ownBlock = some g → w'.heap[g]? = w.heap[g]?) (hm : Mkp B w w') : ReadQ B w' n v m := by
  obtain ⟨a, cap, rfl, h2⟩ := h
  refine ⟨a, cap, rfl, fun i hi => ?_⟩
  obtain ⟨g, u, rfl, h3, h4⟩ := h2 i hi
  exact ⟨g, u, rfl, (cell_same' (hk g rfl)).trans h3, h4.kept hm⟩
end
abbrev TLL : TypeId := 65
abbrev THL : TypeId := 105
theorem tll_ne : (TLL : TypeId) ≠ 3 := by decide
theorem thl_ne : (THL : TypeId) ≠ 3 := by decide
/-! ### Filled -/
structure LotQ (B : Nat) (w : World) (fv : Value) (ls : List HL) (p : Nat) : Prop where
  lot : LotX TLL THL w fv ls
  each : ∀ (j : Nat) (h : HL), ls[j]? = some h → ∃ xs, w.ownsRow 0 TLL 1 h.v h.len xs ∧ (j < p → IsQ B w h.n h.len xs)
  un : ∀ (j : Nat) (h : HL), ls[j]? = some h → h.u = .slice none 0 0
def PartQ (B : Nat) (w : World) (h : HL) (k : Nat) : Prop := ∃ xs, w.ownsRow 0 TLL 1 h.v h.len xs ∧ UptoQ B w h.n k xs
section
variable {B : Nat} {w w' : World} {fv : Value} {ls : List HL} {p : Nat}
theorem LotA.toQ {mk : Nat → List Value} (h : LotA TLL THL 1 mk w fv ls 0) : LotQ B w fv ls 0 :=
  ⟨h.lot, fun j x hj => by obtain ⟨xs, h1, _⟩ := h.each j x hj; exact ⟨xs, h1, fun e => by omega⟩, h.un⟩
theorem LotQ.kept (h : LotQ B w fv ls p) (hk : ∀ b, LotS fv ls b → w'.heap[b]? = w.heap[b]?) (hm : Mkp B w w') : LotQ B w' fv ls p :=
  ⟨h.lot.kept hk, fun j x h1 => by
    obtain ⟨xs, h2, h3⟩ := h.each j x h1
    exact ⟨xs, ownsRow_other h2 fun b hb => hk b (.inr ⟨j, x, h1, .inl hb⟩), fun h4 => (h3 h4).kept hm⟩, h.un⟩
theorem LotQ.below (h : LotQ B w fv ls p) (hb : Below w.heap.size w w') : LotQ B w' fv ls p := h.kept (fun b hs => hb.block b (h.lot.lt hs)) (.below hb)
theorem LotQ.start (h : LotQ B w fv ls p) {j : Nat} {x : HL} (hj : ls[j]? = some x) : PartQ B w x 0 := by
  obtain ⟨xs, h1, _⟩ := h.each j x hj
  exact ⟨xs, h1, fun i hi => by omega⟩
theorem LotQ.store (h : LotQ B w fv ls p) {j : Nat} {x : HL} (hj : ls[j]? = some x) (hp : p ≤ j) {k : Nat} (hk : k < x.len) (hpt : PartQ B w x k) {v : Value} (hv : MkAt B w x.n v) :
    ∃ g cap, x.v = .slice (some ⟨g, 0, none⟩) x.len cap ∧ (w.cell? ⟨g, k, none⟩).isSome = true ∧ w.frozen? ⟨g, k, none⟩ = false ∧
      LotQ B (w.setCell ⟨g, k, none⟩ v) fv ls p ∧ PartQ B (w.setCell ⟨g, k, none⟩ v) x (k + 1) ∧ LotS fv ls g := by
  obtain ⟨xs, h1, h2⟩ := hpt
  obtain ⟨g, cap, hxv⟩ := ownsRow_form' h1 (by omega)
  have hg : LotS fv ls g := .inr ⟨j, x, hj, .inl (by rw [hxv]; rfl)⟩
  have hown := h1
  rw [hxv] at hown
  have hl : xs.length = x.len := by simpa using hown.1
  have hst := (hown.stored k v).1
  obtain ⟨c0, hc0⟩ := ownsRow_type hown rfl
  have hmk : Mkp B w (w.setCell ⟨g, k, none⟩ v) := Mkp.setCell hc0 tll_ne v
  refine ⟨g, cap, hxv, ?_, hown.frozenAt _, ⟨⟨?_, h.lot.apart, fun i y b h3 h4 => ?_, h.lot.num, h.lot.few, h.lot.ne⟩, fun i y h3 => ?_, h.un⟩, ⟨_, by rw [hxv]; exact hst, (h2.set (by omega) hv).kept hmk⟩, hg⟩
  · rw [hown.cellAt _ (by omega), List.getElem?_eq_getElem (by omega)]; rfl
  · refine ownsRow_other h.lot.out fun b hb => heap_setCell_ne ?_
    intro e; subst e
    exact h.lot.out_ne hj (.inl (by rw [hxv]; rfl)) hb
  · obtain ⟨cs, h5⟩ := h.lot.typ i y b h3 h4
    by_cases e : b = g
    · subst e
      exact ownsRow_type hst rfl
    · exact ⟨cs, (heap_setCell_ne e).trans h5⟩
  · by_cases e : i = j
    · subst e
      have : y = x := by rw [hj] at h3; cases h3; rfl
      subst this
      exact ⟨_, by rw [hxv]; exact hst, fun h5 => by omega⟩
    · obtain ⟨ys, h4, h5⟩ := h.each i y h3
      refine ⟨ys, ownsRow_other h4 fun b hb => heap_setCell_ne ?_, fun h6 => (h5 h6).kept hmk⟩
      intro e2; subst e2
      exact h.lot.apart i j y x b e h3 hj (.inl hb) (.inl (by rw [hxv]; rfl))
theorem LotQ.next (h : LotQ B w fv ls p) {x : HL} (hj : ls[p]? = some x) (hpt : PartQ B w x x.len) : LotQ B w fv ls (p + 1) := by
  refine ⟨h.lot, fun j y h1 => ?_, h.un⟩
  by_cases e : j = p
  · subst e
    have : y = x := by rw [hj] at h1; cases h1; rfl
    subst this
    obtain ⟨xs, h2, h3⟩ := hpt
    exact ⟨xs, h2, fun _ => ⟨by simpa using h2.1, h3⟩⟩
  · obtain ⟨xs, h2, h3⟩ := h.each j y h1
    exact ⟨xs, h2, fun h4 => h3 (by omega)⟩
end
/-! ### Grown -/
structure LotR (B : Nat) (w : World) (fv : Value) (ls : List HL) (q : Nat) : Prop where
  lot : LotX TLL THL w fv ls
  done : ∀ (j : Nat) (h : HL), j < q → ls[j]? = some h → ReadQ B w h.n h.v h.len ∧ ReadQ B w h.n h.u (h.len + 70)
  rest : ∀ (j : Nat) (h : HL), q ≤ j → ls[j]? = some h → (∃ xs, w.ownsRow 0 TLL 1 h.v h.len xs ∧ IsQ B w h.n h.len xs) ∧ h.u = .slice none 0 0
/-- The list that grows. -/
structure GrowsQ (B : Nat) (w0 w : World) (x : HL) (k : Nat) (u : Value) : Prop where
  own : ∃ xs, w.ownsRow 0 TLL 1 u (x.len + k) xs ∧ IsQ B w x.n (x.len + k) xs
  v : ReadQ B w x.n x.v x.len
  at_ : u.ownBlock = x.v.ownBlock ∨ ∃ g, u.ownBlock = some g ∧ w0.heap.size ≤ g
  vt : ∀ b, x.v.ownBlock = some b → ∃ cs, w.heap[b]? = some (.cells cs TLL (0, 0))
  mks : Mkp B w0 w
section
variable {B : Nat} {w w' : World} {fv : Value} {ls : List HL} {q : Nat}
theorem LotQ.grow (h : LotQ B w fv ls ls.length) : LotR B w fv ls 0 :=
  ⟨h.lot, fun j x hj => by omega, fun j x _ hx => by
    obtain ⟨xs, h1, h2⟩ := h.each j x hx
    exact ⟨⟨xs, h1, h2 (List.getElem?_eq_some_iff.1 hx).1⟩, h.un j x hx⟩⟩
theorem LotR.kept (h : LotR B w fv ls q) (hk : ∀ b, LotS fv ls b → w'.heap[b]? = w.heap[b]?) (hm : Mkp B w w') : LotR B w' fv ls q :=
  ⟨h.lot.kept hk, fun j x h1 h2 => ⟨(h.done j x h1 h2).1.kept (fun b hb => hk b (.inr ⟨j, x, h2, .inl hb⟩)) hm, (h.done j x h1 h2).2.kept (fun b hb => hk b (.inr ⟨j, x, h2, .inr hb⟩)) hm⟩, fun j x h1 h2 => by
    obtain ⟨⟨xs, h3, h4⟩, h5⟩ := h.rest j x h1 h2
    exact ⟨⟨xs, ownsRow_other h3 fun b hb => hk b (.inr ⟨j, x, h2, .inl hb⟩), h4.kept hm⟩, h5⟩⟩
theorem LotR.below (h : LotR B w fv ls q) (hb : Below w.heap.size w w') : LotR B w' fv ls q := h.kept (fun b hs => hb.block b (h.lot.lt hs)) (.below hb)
theorem LotR.begins (h : LotR B w fv ls q) {x : HL} (hq : ls[q]? = some x) : GrowsQ B w w x 0 x.v := by
  obtain ⟨⟨xs, h1, h2⟩, _⟩ := h.rest q x (Nat.le_refl _) hq
  exact ⟨⟨xs, h1, h2⟩, h2.read h1, .inl rfl, fun b hb => h.lot.typ q x b hq (.inl hb), fun _ _ _ _ => rfl⟩
theorem GrowsQ.kept {w0 : World} {x : HL} {k : Nat} {u : Value} (h : GrowsQ B w0 w x k u) (hb : Below w.heap.size w w') : GrowsQ B w0 w' x k u := by
  obtain ⟨xs, h1, h2⟩ := h.own
  refine ⟨⟨xs, ownsRow_other h1 fun b hb' => hb.block b (ownsRow_lt h1 hb'), h2.kept (.below hb)⟩, h.v.kept (fun b hv => ?_) (.below hb), h.at_, fun b hv => ?_, h.mks.trans (.below hb)⟩
  · obtain ⟨cs, h3⟩ := h.vt b hv
    exact hb.block b (heap_lt h3)
  · obtain ⟨cs, h3⟩ := h.vt b hv
    exact ⟨cs, below_keep hb h3⟩
/-- An element more. -/
theorem GrowsQ.push {w0 : World} {x : HL} {k gu ucap : Nat} {u m : Value} {xs : List Value} (h : GrowsQ B w0 w x k u) (hu : w.ownsRow 0 TLL 1 u (x.len + k) xs) (hxs : IsQ B w x.n (x.len + k) xs) (hmk : MkAt B w x.n m) (hs : w0.heap.size ≤ w.heap.size) (ho : w'.ownsRow 0 TLL 1 (.slice (some ⟨gu, 0, none⟩) (x.len + k + 1) ucap) (x.len + k + 1) (xs ++ [m]))
    (hg : (u.ownBlock = some gu ∧ w.grownBy w' (some gu)) ∨ (gu = w.heap.size ∧ w.grownBy w' none)) : GrowsQ B w0 w' x (k + 1) (.slice (some ⟨gu, 0, none⟩) (x.len + k + 1) ucap) := by
  have hkp : Mkp B w w' := by
    rcases hg with ⟨h2, h3⟩ | ⟨h2, h3⟩
    · refine .grown h3 fun k hk => ?_
      cases hk
      obtain ⟨cs, hc⟩ := ownsRow_type hu h2
      exact ⟨cs, _, _, hc, tll_ne⟩
    · exact .grown h3 fun k hk => by cases hk
  have hnew : IsQ B w' x.n (x.len + k + 1) (xs ++ [m]) := (hxs.push hmk).kept hkp
  have hrd : ReadQ B w' x.n (.slice (some ⟨gu, 0, none⟩) (x.len + k + 1) ucap) (x.len + k + 1) := hnew.read ho
  refine ⟨⟨_, ho, hnew⟩, ?_, ?_, fun b hb => ?_, h.mks.trans hkp⟩
  · by_cases e : x.v.ownBlock = some gu
    · obtain ⟨a, cap, hv, h2⟩ := h.v
      rw [hv] at e ⊢
      refine ⟨a, cap, rfl, fun i hi => ?_⟩
      obtain ⟨g2, u2, rfl, _⟩ := h2 i hi
      cases e
      obtain ⟨_, _, h5, h6⟩ := hrd
      cases h5
      obtain ⟨g3, u3, h7, h8⟩ := h6 i (by omega)
      cases h7
      exact ⟨_, _, rfl, h8⟩
    · refine h.v.kept (fun b hb => ?_) hkp
      obtain ⟨cs, h1⟩ := h.vt b hb
      rcases hg with ⟨h2, h3⟩ | ⟨h2, h3⟩
      · exact h3.block b (heap_lt h1) fun e2 => by cases e2; exact e hb
      · exact h3.block b (heap_lt h1) fun e2 => by cases e2
  · rcases hg with ⟨h2, h3⟩ | ⟨h2, h3⟩
    · rcases h.at_ with h4 | ⟨g, h4, h5⟩
      · left; rw [← h4, h2]; rfl
      · right; rw [h2] at h4; cases h4; exact ⟨gu, rfl, h5⟩
    · right; exact ⟨gu, rfl, by omega⟩
  · obtain ⟨cs, h1⟩ := h.vt b hb
    by_cases e : b = gu
    · subst e; exact ownsRow_type ho rfl
    · rcases hg with ⟨h2, h3⟩ | ⟨h2, h3⟩
      · exact ⟨cs, by rw [h3.block b (heap_lt h1) fun e2 => by cases e2; exact e rfl]; exact h1⟩
      · exact ⟨cs, by rw [h3.block b (heap_lt h1) fun e2 => by cases e2]; exact h1⟩
/-- The list has grown: w0, where it began. -/
theorem LotR.next {w0 : World} (h : LotR B w0 fv ls q) {x : HL} (hq : ls[q]? = some x) {u : Value} (hg : GrowsQ B w0 w x 70 u) (hk : ∀ b, b < w0.heap.size → x.v.ownBlock ≠ some b → w.heap[b]? = w0.heap[b]?) {g cap : Nat} (hv : fv = .slice (some ⟨g, 0, none⟩) ls.length cap) :
    LotR B (w.setCell ⟨g, q * 3 + 1, none⟩ u) fv (ls.set q { x with u := u }) (q + 1) := by
  have hql := (List.getElem?_eq_some_iff.1 hq).1
  have hgo : fv.ownBlock = some g := by rw [hv]; rfl
  have hgx : x.v.ownBlock ≠ some g := fun e => h.lot.out_ne hq (.inl e) hgo
  have hglt : g < w0.heap.size := h.lot.lt (.inl hgo)
  have hug : ∀ b, u.ownBlock = some b → b ≠ g := fun b hb e => by
    subst e
    rcases hg.at_ with h1 | ⟨g', h1, h2⟩
    · rw [hb] at h1; exact hgx h1.symm
    · rw [hb] at h1; cases h1; omega
  have hgw : w.heap[g]? = w0.heap[g]? := hk g hglt hgx
  obtain ⟨cg, hcg⟩ := ownsRow_type h.lot.out hgo
  have hms : Mkp B w (w.setCell ⟨g, q * 3 + 1, none⟩ u) := Mkp.setCell (hgw.trans hcg) thl_ne u
  have hm0 : Mkp B w0 (w.setCell ⟨g, q * 3 + 1, none⟩ u) := hg.mks.trans hms
  have get : ∀ (j : Nat) (y : HL), (ls.set q { x with u := u })[j]? = some y → (j ≠ q ∧ ls[j]? = some y) ∨ (j = q ∧ y = { x with u := u }) := by
    intro j y hy
    by_cases e : q = j
    · subst e; rw [List.getElem?_set_self hql] at hy; exact .inr ⟨rfl, (Option.some.inj hy).symm⟩
    · rw [List.getElem?_set_ne e] at hy; exact .inl ⟨fun e2 => e e2.symm, hy⟩
  have oth : ∀ (j : Nat) (y : HL) (b : Nat), j ≠ q → ls[j]? = some y → y.has b → (w.setCell ⟨g, q * 3 + 1, none⟩ u).heap[b]? = w0.heap[b]? := by
    intro j y b hj hy hb
    rw [heap_setCell_ne (fun e => h.lot.out_ne hy hb (by rw [e]; exact hgo))]
    exact hk b (h.lot.lt (.inr ⟨j, y, hy, hb⟩)) fun e => h.lot.apart j q y x b hj hy hq hb (.inl e)
  have new : ∀ b, u.ownBlock = some b → x.v.ownBlock = some b ∨ w0.heap.size ≤ b := fun b hb => by
    rcases hg.at_ with h1 | ⟨g', h1, h2⟩
    · left; rw [← h1]; exact hb
    · right; rw [hb] at h1; cases h1; exact h2
  have hown : w.ownsRow 0 THL 3 (.slice (some ⟨g, 0, none⟩) ls.length cap) ls.length (lotV ls) := by
    rw [← hv]
    exact ownsRow_other h.lot.out fun b hb => by
      rw [hgo] at hb; cases hb
      exact hgw
  obtain ⟨xs, hx1, hx2⟩ := hg.own
  refine ⟨⟨?_, fun i j hi hj b hij h1 h2 h3 h4 => ?_, fun j y b h1 h2 => ?_, fun j y h1 => ?_, by rw [List.length_set]; exact h.lot.few, h.lot.ne⟩, fun j y h1 h2 => ?_, fun j y h1 h2 => ?_⟩
  · rw [hv, List.length_set, ← lotV_setU ls q x u hq]
    exact (hown.stored (q * 3 + 1) u).1
  · rcases get i hi h1 with ⟨a1, a2⟩ | ⟨rfl, rfl⟩
    · rcases get j hj h2 with ⟨b1, b2⟩ | ⟨rfl, rfl⟩
      · exact h.lot.apart i j hi hj b hij a2 b2 h3 h4
      · rcases h4 with h4 | h4
        · exact h.lot.apart i j hi x b hij a2 hq h3 (.inl h4)
        · rcases new b h4 with h5 | h5
          · exact h.lot.apart i j hi x b hij a2 hq h3 (.inl h5)
          · have := h.lot.lt (.inr ⟨i, hi, a2, h3⟩); omega
    · rcases get j hj h2 with ⟨b1, b2⟩ | ⟨rfl, rfl⟩
      · rcases h3 with h3 | h3
        · exact h.lot.apart i j x hj b hij hq b2 (.inl h3) h4
        · rcases new b h3 with h5 | h5
          · exact h.lot.apart i j x hj b hij hq b2 (.inl h5) h4
          · have := h.lot.lt (.inr ⟨j, hj, b2, h4⟩); omega
      · exact hij rfl
  · rcases get j y h1 with ⟨a1, a2⟩ | ⟨rfl, rfl⟩
    · obtain ⟨cs, h5⟩ := h.lot.typ j y b a2 h2
      exact ⟨cs, (oth j y b a1 a2 h2).trans h5⟩
    · rcases h2 with h2 | h2
      · obtain ⟨cs, h5⟩ := hg.vt b h2
        exact ⟨cs, by rw [heap_setCell_ne (fun e => by subst e; exact hgx h2)]; exact h5⟩
      · obtain ⟨cs, h5⟩ := ownsRow_type hx1 h2
        exact ⟨cs, by rw [heap_setCell_ne (hug b h2)]; exact h5⟩
  · rcases get j y h1 with ⟨a1, a2⟩ | ⟨rfl, rfl⟩
    · exact h.lot.num j y a2
    · exact h.lot.num j x hq
  · rcases get j y h2 with ⟨a1, a2⟩ | ⟨rfl, rfl⟩
    · obtain ⟨c1, c2⟩ := h.done j y (by omega) a2
      exact ⟨c1.kept (fun b hb => oth j y b a1 a2 (.inl hb)) hm0, c2.kept (fun b hb => oth j y b a1 a2 (.inr hb)) hm0⟩
    · refine ⟨hg.v.kept (fun b hb => heap_setCell_ne fun e => by subst e; exact hgx hb) hms, ?_⟩
      exact (hx2.read hx1).kept (fun b hb => heap_setCell_ne (hug b hb)) hms
  · rcases get j y h2 with ⟨a1, a2⟩ | ⟨rfl, rfl⟩
    · obtain ⟨⟨ys, c1, c2⟩, c3⟩ := h.rest j y (by omega) a2
      exact ⟨⟨ys, ownsRow_other c1 fun b hb => oth j y b a1 a2 (.inl hb), c2.kept hm0⟩, c3⟩
    · omega
end
end Go.Proofs.YtjhomkdnhdhffaaGreat
