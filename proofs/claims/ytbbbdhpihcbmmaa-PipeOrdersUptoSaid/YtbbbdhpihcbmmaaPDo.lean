/- The walk of pipe's Do: the parts. -/
import Derived.Test.YtbbbdhpihcbmmaaGSized
namespace Go.Proofs.Ytbbbdhpihcbmmaa
open Go.RowKit Own

/-- what Do tells, and what is behind it -/
structure DoR where
  code : Int
  size : Int
  data : List UInt8
  has : Bool
  b : List UInt8
def doR (c : CallIn) (has : Bool) (b0 : List UInt8) : DoR :=
  let b := if has then b0 else []
  if ¬ MayC c then ⟨1, 0, [], has, b⟩
  else if c.k = 1 then (if has then ⟨6, 0, [], has, b⟩ else ⟨0, 0, [], true, []⟩)
  else if has = false then ⟨4, 0, [], has, b⟩
  else if c.k = 2 ∨ c.k = 3 then
    match writtenR b (if c.k = 3 then b.length else c.a.toNat) c.d with
    | none => ⟨3, 0, [], has, b⟩
    | some o => ⟨0, 0, [], true, o⟩
  else if c.k = 4 then (if 4096 < c.n then ⟨3, 0, [], has, b⟩ else ⟨0, 0, [], true, sizedL b c.n.toNat⟩)
  else if c.k = 5 then ⟨0, 0, (b.drop (min c.a.toNat b.length)).take (min c.n.toNat (b.length - min c.a.toNat b.length)), true, b⟩
  else if c.k = 6 then ⟨0, b.length, [], true, b⟩
  else ⟨0, 0, [], false, []⟩
def DoPost (r : DoR) (w : World) (e : Ending) (w' : World) : Prop :=
  ∃ dv bv, e = .returned (.tuple #[.agg #[.int .i64 r.code, .int .i64 r.size, dv], .bool r.has, bv]) ∧ OwnB w.heap.size dv r.data w' ∧ OwnB w.heap.size bv r.b w' ∧ Below w.heap.size w w'

theorem refused_any (code : Int) (hb sb : Nat) (has : Bool) (A : Option Addr) (n c : Nat) (w : World) (h1 : w.cell? ⟨hb, 0, none⟩ = some (.bool has)) (h2 : w.cell? ⟨sb, 0, none⟩ = some (.slice A n c)) :
    Calls Try.prog 20 #[.int .i64 code, .pointer (some ⟨hb, 0, none⟩), .pointer (some ⟨sb, 0, none⟩)] w fun e w' => e = .returned (.tuple #[.agg #[.int .i64 code, .int .i64 0, .slice none 0 0], .bool has, .slice A n c]) ∧ Below w.heap.size w w' := by
  have k1 := fun o => (((Below.refl w.heap.size w).alloc (Nat.le_refl _) o).cell (World.block_lt_of_cell? w _ h1)).trans h1
  have k2 := fun o => (((Below.refl w.heap.size w).alloc (Nat.le_refl _) o).cell (World.block_lt_of_cell? w _ h2)).trans h2
  have HB : Hid (∀ o, Below w.heap.size w (w.alloc o).drew) := fun o => ((Below.refl w.heap.size w).alloc (Nat.le_refl _) o).drew
  clear h1 h2
  go_enter Try.func20, Try.ntmps20
  go_wp2_with fail
  go_region
  all_goals
    go_wp2_with fail
    exact bodyPost_ret (v := .tuple #[.agg #[.int .i64 code, .int .i64 0, .slice none 0 0], .bool has, .slice A n c]) (by simp [results, Try.results20, go_sem]) rfl ⟨rfl, HB.out _⟩

theorem OwnB.setOther {base : Nat} {v : Value} {l : List UInt8} {w : World} (h : OwnB base v l w) {rb : Nat} {cs : Array Value} {t : TypeId} (hr : w.heap[rb]? = some (.cells cs t (0, 0))) (ht : t ≠ 5) (j : Nat) (x : Value) : OwnB base v l (w.setCell ⟨rb, j, none⟩ x) := by
  rcases h with h | ⟨g, c, cur, h1, h2, h3, h4⟩
  · exact .inl h
  · have hne : g ≠ rb := by rintro rfl; rw [hr] at h3; cases h3; exact ht rfl
    exact .inr ⟨g, c, cur, h1, h2, by rw [Below.heap_setCell _ _ _ _ (by simpa using hne)]; exact h3, h4⟩

/-- Do's boxes: the call, 'has', the reply, 'same' -/
structure DF (w0 : World) (c : CallIn) (dv : Value) (has : Bool) (sv : Value) (sl : List UInt8) (cb hb rb sb : Nat) (w : World) : Prop where
  call : w.heap[cb]? = some (.cells #[.int .i64 c.k, .string c.s, .int .i64 c.a, dv, .int .i64 c.n] 30 (0, 0))
  hasB : w.heap[hb]? = some (.cells #[.bool has] 4 (0, 0))
  rep : w.heap[rb]? = some (.cells #[.int .i64 0, .int .i64 0, .slice none 0 0] 26 (0, 0))
  same : w.heap[sb]? = some (.cells #[sv] 23 (0, 0))
  below : Below w0.heap.size w0 w
  ge : w0.heap.size ≤ rb
  own : OwnB w0.heap.size sv sl w
section
variable {w0 w w' : World} {c : CallIn} {dv sv : Value} {has : Bool} {sl : List UInt8} {cb hb rb sb : Nat}
theorem DF.go (h : DF w0 c dv has sv sl cb hb rb sb w) (hb2 : Below w.heap.size w w') : DF w0 c dv has sv sl cb hb rb sb w' :=
  ⟨(hb2.block _ (Array.getElem?_eq_some_iff.1 h.call).1).trans h.call, (hb2.block _ (Array.getElem?_eq_some_iff.1 h.hasB).1).trans h.hasB, (hb2.block _ (Array.getElem?_eq_some_iff.1 h.rep).1).trans h.rep, (hb2.block _ (Array.getElem?_eq_some_iff.1 h.same).1).trans h.same, h.below.trans (hb2.mono h.below.size), h.ge, h.own.below hb2⟩
theorem DF.facts (h : DF w0 c dv has sv sl cb hb rb sb w) : w.cell? ⟨cb, 0, none⟩ = some (.int .i64 c.k) ∧ w.cell? ⟨cb, 1, none⟩ = some (.string c.s) ∧ w.cell? ⟨cb, 2, none⟩ = some (.int .i64 c.a) ∧ w.cell? ⟨cb, 3, none⟩ = some dv ∧ w.cell? ⟨cb, 4, none⟩ = some (.int .i64 c.n) ∧
    w.cell? ⟨hb, 0, none⟩ = some (.bool has) ∧ w.cell? ⟨sb, 0, none⟩ = some sv ∧ w.cell? ⟨rb, 0, none⟩ = some (.int .i64 0) ∧ w.cell? ⟨rb, 1, none⟩ = some (.int .i64 0) ∧ w.cell? ⟨rb, 2, none⟩ = some (.slice none 0 0) ∧ w.frozen? ⟨rb, 0, none⟩ = false ∧ w.frozen? ⟨rb, 1, none⟩ = false ∧ w.frozen? ⟨rb, 2, none⟩ = false :=
  ⟨by rw [cell_of_row _ _ 0 _ _ _ h.call]; rfl, by rw [cell_of_row _ _ 1 _ _ _ h.call]; rfl, by rw [cell_of_row _ _ 2 _ _ _ h.call]; rfl, by rw [cell_of_row _ _ 3 _ _ _ h.call]; rfl, by rw [cell_of_row _ _ 4 _ _ _ h.call]; rfl,
    by rw [cell_of_row _ _ 0 _ _ _ h.hasB]; rfl, by rw [cell_of_row _ _ 0 _ _ _ h.same]; rfl, by rw [cell_of_row _ _ 0 _ _ _ h.rep]; rfl, by rw [cell_of_row _ _ 1 _ _ _ h.rep]; rfl, by rw [cell_of_row _ _ 2 _ _ _ h.rep]; rfl, frozen_of_block h.rep 0, frozen_of_block h.rep 1, frozen_of_block h.rep 2⟩
/-- the reply is laid -/
theorem DF.fin (h : DF w0 c dv has sv sl cb hb rb sb w) (x y z : Value) : Below w0.heap.size w0 (((w.setCell ⟨rb, 0, none⟩ x).setCell ⟨rb, 1, none⟩ y).setCell ⟨rb, 2, none⟩ z) ∧
    (∀ base v l, OwnB base v l w → OwnB base v l (((w.setCell ⟨rb, 0, none⟩ x).setCell ⟨rb, 1, none⟩ y).setCell ⟨rb, 2, none⟩ z)) := by
  have h0 := h.rep
  have h1 := Own.heap_setCell_same h0 0 x
  have h2 := Own.heap_setCell_same h1 1 y
  refine ⟨((h.below.setCell h.ge x).setCell h.ge y).setCell h.ge z, fun base v l ho => ?_⟩
  exact ((ho.setOther h0 (by decide) 0 x).setOther h1 (by decide) 1 y).setOther h2 (by decide) 2 z
theorem df_check (h : DF w0 c dv has sv sl cb hb rb sb w) (hd : ReadsB w0 dv c.d) (hs : c.s.size ≤ 140737488351232) :
    Calls Try.prog 15 #[callV c dv] w fun e w' => e = .returned (.int .i64 (mayN c)) ∧ DF w0 c dv has sv sl cb hb rb sb w' := by
  refine (pcheck_any c dv w (hd.below h.below) hs).mono ?_
  rintro e w' ⟨rfl, hb⟩
  exact ⟨rfl, h.go hb⟩
theorem df_refused (h : DF w0 c dv has sv sl cb hb rb sb w) (code : Int) :
    Calls Try.prog 20 #[.int .i64 code, .pointer (some ⟨hb, 0, none⟩), .pointer (some ⟨sb, 0, none⟩)] w fun e w' => e = .returned (.tuple #[.agg #[.int .i64 code, .int .i64 0, .slice none 0 0], .bool has, sv]) ∧ DF w0 c dv has sv sl cb hb rb sb w' := by
  obtain ⟨A, n, cc, rfl⟩ : ∃ A n cc, sv = .slice A n cc := by
    rcases h.own with ⟨rfl, _⟩ | ⟨g, cc, cur, rfl, _⟩
    · exact ⟨_, _, _, rfl⟩
    · exact ⟨_, _, _, rfl⟩
  obtain ⟨_, _, _, _, _, h1, h2, _⟩ := h.facts
  refine (refused_any code hb sb has A n cc w h1 h2).mono ?_
  rintro e w' ⟨rfl, hb⟩
  exact ⟨rfl, h.go hb⟩
end
/-- the boxes stand behind the first lines -/
theorem df_start (c : CallIn) (dv : Value) (has : Bool) (sv : Value) (sl : List UInt8) (w w1 : World) (hb : Below (((w.alloc (.cells #[.int .i64 c.k, .string c.s, .int .i64 c.a, dv, .int .i64 c.n] 30)).alloc (.cells #[.bool has] 4)).alloc (.cells #[.int .i64 0, .int .i64 0, .slice none 0 0] 26)).heap.size (((w.alloc (.cells #[.int .i64 c.k, .string c.s, .int .i64 c.a, dv, .int .i64 c.n] 30)).alloc (.cells #[.bool has] 4)).alloc (.cells #[.int .i64 0, .int .i64 0, .slice none 0 0] 26)) w1)
    (ho : OwnB w.heap.size sv sl w1) : DF w c dv has sv sl w.heap.size (w.heap.size + 1) (w.heap.size + 2) w1.heap.size (w1.alloc (.cells #[sv] 23)) := by
  obtain ⟨wa, ha⟩ : ∃ wa, wa = w.alloc (.cells #[.int .i64 c.k, .string c.s, .int .i64 c.a, dv, .int .i64 c.n] 30) := ⟨_, rfl⟩
  obtain ⟨wb, hwb⟩ : ∃ wb, wb = wa.alloc (.cells #[.bool has] 4) := ⟨_, rfl⟩
  obtain ⟨wc, hc⟩ : ∃ wc, wc = wb.alloc (.cells #[.int .i64 0, .int .i64 0, .slice none 0 0] 26) := ⟨_, rfl⟩
  rw [← ha, ← hwb, ← hc] at hb
  have sa : wa.heap.size = w.heap.size + 1 := by rw [ha]; simp
  have sb : wb.heap.size = w.heap.size + 2 := by rw [hwb]; simp [sa]
  have sc : wc.heap.size = w.heap.size + 3 := by rw [hc]; simp [sb]
  have b0 : Below w.heap.size w wa := by rw [ha]; exact (Below.refl _ _).alloc (Nat.le_refl _) _
  have b1 : Below wa.heap.size wa wb := by rw [hwb]; exact (Below.refl _ _).alloc (Nat.le_refl _) _
  have b2 : Below wb.heap.size wb wc := by rw [hc]; exact (Below.refl _ _).alloc (Nat.le_refl _) _
  have b3 : Below w1.heap.size w1 (w1.alloc (.cells #[sv] 23)) := (Below.refl _ _).alloc (Nat.le_refl _) _
  have b4 : Below wc.heap.size wc (w1.alloc (.cells #[sv] 23)) := hb.trans (b3.mono hb.size)
  have b5 : Below wb.heap.size wb (w1.alloc (.cells #[sv] 23)) := b2.trans (b4.mono b2.size)
  have b6 : Below wa.heap.size wa (w1.alloc (.cells #[sv] 23)) := b1.trans (b5.mono b1.size)
  have x0 : wa.heap[w.heap.size]? = some (.cells #[.int .i64 c.k, .string c.s, .int .i64 c.a, dv, .int .i64 c.n] 30 (0, 0)) := by rw [ha]; exact heap_alloc_new w _
  have x1 : wb.heap[w.heap.size + 1]? = some (.cells #[.bool has] 4 (0, 0)) := by rw [hwb, ← sa]; exact heap_alloc_new wa _
  have x2 : wc.heap[w.heap.size + 2]? = some (.cells #[.int .i64 0, .int .i64 0, .slice none 0 0] 26 (0, 0)) := by rw [hc, ← sb]; exact heap_alloc_new wb _
  exact ⟨(b6.block _ (by omega)).trans x0, (b5.block _ (by omega)).trans x1, (b4.block _ (by omega)).trans x2, heap_alloc_new w1 _, b0.trans (b6.mono b0.size), by omega, ho.below b3⟩
end Go.Proofs.Ytbbbdhpihcbmmaa
