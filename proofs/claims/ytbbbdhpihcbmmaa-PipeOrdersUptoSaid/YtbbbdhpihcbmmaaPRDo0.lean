/- The reference's Do: its boxes. -/
import Derived.Test.YtbbbdhpihcbmmaaPMay
import Derived.Test.YtbbbdhpihcbmmaaGPut
namespace Go.Proofs.Ytbbbdhpihcbmmaa
open Go.RowKit Own

def RDoPost (r : DoR) (w : World) (e : Ending) (w' : World) : Prop :=
  ∃ dv bv, e = .returned (.tuple #[.agg #[.int .i64 r.code, .int .i64 r.size, dv], .agg #[.bool r.has, bv]]) ∧ ReadsB w' dv r.data ∧ ReadsB w' bv r.b ∧ Below w.heap.size w w'

/-- its boxes: the call, the object, the reply, the object behind it -/
structure RF (w0 : World) (c : CallIn) (dv : Value) (has : Bool) (bv : Value) (cb ob rb pb : Nat) (w : World) : Prop where
  call : w.heap[cb]? = some (.cells #[.int .i64 c.k, .string c.s, .int .i64 c.a, dv, .int .i64 c.n] 30 (0, 0))
  obj : w.heap[ob]? = some (.cells #[.bool has, bv] 38 (0, 0))
  rep : w.heap[rb]? = some (.cells #[.int .i64 0, .int .i64 0, .slice none 0 0] 26 (0, 0))
  out : w.heap[pb]? = some (.cells #[.bool false, .slice none 0 0] 38 (0, 0))
  below : Below w0.heap.size w0 w
  ger : w0.heap.size ≤ rb
  gep : w0.heap.size ≤ pb
  nrp : rb ≠ pb
section
variable {w0 w w' : World} {c : CallIn} {dv bv : Value} {has : Bool} {cb ob rb pb : Nat}
theorem RF.go (h : RF w0 c dv has bv cb ob rb pb w) (hb2 : Below w.heap.size w w') : RF w0 c dv has bv cb ob rb pb w' :=
  ⟨(hb2.block _ (Array.getElem?_eq_some_iff.1 h.call).1).trans h.call, (hb2.block _ (Array.getElem?_eq_some_iff.1 h.obj).1).trans h.obj, (hb2.block _ (Array.getElem?_eq_some_iff.1 h.rep).1).trans h.rep, (hb2.block _ (Array.getElem?_eq_some_iff.1 h.out).1).trans h.out, h.below.trans (hb2.mono h.below.size), h.ger, h.gep, h.nrp⟩
theorem RF.facts (h : RF w0 c dv has bv cb ob rb pb w) : w.cell? ⟨cb, 0, none⟩ = some (.int .i64 c.k) ∧ w.cell? ⟨cb, 1, none⟩ = some (.string c.s) ∧ w.cell? ⟨cb, 2, none⟩ = some (.int .i64 c.a) ∧ w.cell? ⟨cb, 3, none⟩ = some dv ∧ w.cell? ⟨cb, 4, none⟩ = some (.int .i64 c.n) ∧
    w.cell? ⟨ob, 0, none⟩ = some (.bool has) ∧ w.cell? ⟨ob, 1, none⟩ = some bv ∧ w.cell? ⟨rb, 0, none⟩ = some (.int .i64 0) ∧ w.cell? ⟨rb, 1, none⟩ = some (.int .i64 0) ∧ w.cell? ⟨rb, 2, none⟩ = some (.slice none 0 0) ∧ w.cell? ⟨pb, 0, none⟩ = some (.bool false) ∧ w.cell? ⟨pb, 1, none⟩ = some (.slice none 0 0) ∧
    w.frozen? ⟨rb, 0, none⟩ = false ∧ w.frozen? ⟨rb, 1, none⟩ = false ∧ w.frozen? ⟨rb, 2, none⟩ = false ∧ w.frozen? ⟨pb, 0, none⟩ = false ∧ w.frozen? ⟨pb, 1, none⟩ = false :=
  ⟨by rw [cell_of_row _ _ 0 _ _ _ h.call]; rfl, by rw [cell_of_row _ _ 1 _ _ _ h.call]; rfl, by rw [cell_of_row _ _ 2 _ _ _ h.call]; rfl, by rw [cell_of_row _ _ 3 _ _ _ h.call]; rfl, by rw [cell_of_row _ _ 4 _ _ _ h.call]; rfl,
    by rw [cell_of_row _ _ 0 _ _ _ h.obj]; rfl, by rw [cell_of_row _ _ 1 _ _ _ h.obj]; rfl, by rw [cell_of_row _ _ 0 _ _ _ h.rep]; rfl, by rw [cell_of_row _ _ 1 _ _ _ h.rep]; rfl, by rw [cell_of_row _ _ 2 _ _ _ h.rep]; rfl, by rw [cell_of_row _ _ 0 _ _ _ h.out]; rfl, by rw [cell_of_row _ _ 1 _ _ _ h.out]; rfl,
    frozen_of_block h.rep 0, frozen_of_block h.rep 1, frozen_of_block h.rep 2, frozen_of_block h.out 0, frozen_of_block h.out 1⟩
/-- the answer is laid -/
theorem RF.fin (h : RF w0 c dv has bv cb ob rb pb w) (x y z p q : Value) : Below w0.heap.size w0 (((((w.setCell ⟨rb, 0, none⟩ x).setCell ⟨rb, 1, none⟩ y).setCell ⟨rb, 2, none⟩ z).setCell ⟨pb, 0, none⟩ p).setCell ⟨pb, 1, none⟩ q) ∧
    (∀ base v l, OwnB base v l w → OwnB base v l (((((w.setCell ⟨rb, 0, none⟩ x).setCell ⟨rb, 1, none⟩ y).setCell ⟨rb, 2, none⟩ z).setCell ⟨pb, 0, none⟩ p).setCell ⟨pb, 1, none⟩ q)) := by
  have h0 := h.rep
  have h1 := Own.heap_setCell_same h0 0 x
  have h2 := Own.heap_setCell_same h1 1 y
  have far : ∀ (W : World) (j : Nat) (u : Value), (W.setCell ⟨rb, j, none⟩ u).heap[pb]? = W.heap[pb]? := fun W j u => Below.heap_setCell _ _ _ _ (fun e => h.nrp e.symm)
  have h3 : (((w.setCell ⟨rb, 0, none⟩ x).setCell ⟨rb, 1, none⟩ y).setCell ⟨rb, 2, none⟩ z).heap[pb]? = some (.cells #[.bool false, .slice none 0 0] 38 (0, 0)) := by rw [far, far, far]; exact h.out
  have h4 := Own.heap_setCell_same h3 0 p
  refine ⟨((((h.below.setCell h.ger x).setCell h.ger y).setCell h.ger z).setCell h.gep p).setCell h.gep q, fun base v l ho => ?_⟩
  exact ((((ho.setOther h0 (by decide) 0 x).setOther h1 (by decide) 1 y).setOther h2 (by decide) 2 z).setOther h3 (by decide) 0 p).setOther h4 (by decide) 1 q
theorem rf_may (h : RF w0 c dv has bv cb ob rb pb w) (hd : ReadsB w0 dv c.d) (hs : c.s.size ≤ 1048576) :
    Calls Try.prog 10 #[callV c dv] w fun e w' => e = .returned (.bool (mayB c)) ∧ RF w0 c dv has bv cb ob rb pb w' := by
  refine (rmay_any c dv w (hd.below h.below) hs).mono ?_
  rintro e w' ⟨rfl, hb⟩
  exact ⟨rfl, h.go hb⟩
end
/-- the boxes stand behind the first lines -/
theorem rf_start (c : CallIn) (dv : Value) (has : Bool) (bv : Value) (w : World) : RF w c dv has bv w.heap.size (w.heap.size + 1) (w.heap.size + 1 + 1) (w.heap.size + 1 + 1 + 1)
    ((((w.alloc (.cells #[.int .i64 c.k, .string c.s, .int .i64 c.a, dv, .int .i64 c.n] 30)).alloc (.cells #[.bool has, bv] 38)).alloc (.cells #[.int .i64 0, .int .i64 0, .slice none 0 0] 26)).alloc (.cells #[.bool false, .slice none 0 0] 38)) := by
  obtain ⟨wa, ha⟩ : ∃ wa, wa = w.alloc (.cells #[.int .i64 c.k, .string c.s, .int .i64 c.a, dv, .int .i64 c.n] 30) := ⟨_, rfl⟩
  obtain ⟨wb, hwb⟩ : ∃ wb, wb = wa.alloc (.cells #[.bool has, bv] 38) := ⟨_, rfl⟩
  obtain ⟨wc, hc⟩ : ∃ wc, wc = wb.alloc (.cells #[.int .i64 0, .int .i64 0, .slice none 0 0] 26) := ⟨_, rfl⟩
  obtain ⟨wd, hd⟩ : ∃ wd, wd = wc.alloc (.cells #[.bool false, .slice none 0 0] 38) := ⟨_, rfl⟩
  rw [← ha, ← hwb, ← hc, ← hd]
  have sa : wa.heap.size = w.heap.size + 1 := by rw [ha]; exact Array.size_push _
  have sb : wb.heap.size = w.heap.size + 1 + 1 := by rw [hwb, ← sa]; exact Array.size_push _
  have sc : wc.heap.size = w.heap.size + 1 + 1 + 1 := by rw [hc, ← sb]; exact Array.size_push _
  have b0 : Below w.heap.size w wa := by rw [ha]; exact (Below.refl _ _).alloc (Nat.le_refl _) _
  have b1 : Below wa.heap.size wa wb := by rw [hwb]; exact (Below.refl _ _).alloc (Nat.le_refl _) _
  have b2 : Below wb.heap.size wb wc := by rw [hc]; exact (Below.refl _ _).alloc (Nat.le_refl _) _
  have b3 : Below wc.heap.size wc wd := by rw [hd]; exact (Below.refl _ _).alloc (Nat.le_refl _) _
  have b5 : Below wb.heap.size wb wd := b2.trans (b3.mono b2.size)
  have b6 : Below wa.heap.size wa wd := b1.trans (b5.mono b1.size)
  have x0 : wa.heap[w.heap.size]? = some (.cells #[.int .i64 c.k, .string c.s, .int .i64 c.a, dv, .int .i64 c.n] 30 (0, 0)) := by rw [ha]; exact heap_alloc_new w _
  have x1 : wb.heap[w.heap.size + 1]? = some (.cells #[.bool has, bv] 38 (0, 0)) := by rw [hwb, ← sa]; exact heap_alloc_new wa _
  have x2 : wc.heap[w.heap.size + 1 + 1]? = some (.cells #[.int .i64 0, .int .i64 0, .slice none 0 0] 26 (0, 0)) := by rw [hc, ← sb]; exact heap_alloc_new wb _
  have x3 : wd.heap[w.heap.size + 1 + 1 + 1]? = some (.cells #[.bool false, .slice none 0 0] 38 (0, 0)) := by rw [hd, ← sc]; exact heap_alloc_new wc _
  exact ⟨(b6.block _ (by omega)).trans x0, (b5.block _ (by omega)).trans x1, (b3.block _ (by omega)).trans x2, x3, b0.trans (b6.mono b0.size), by omega, by omega, by omega⟩
end Go.Proofs.Ytbbbdhpihcbmmaa
