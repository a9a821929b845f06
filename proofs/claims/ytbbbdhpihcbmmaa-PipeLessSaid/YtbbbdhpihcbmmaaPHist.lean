/- The walk of CheckHistory. -/
import Derived.Test.YtbbbdhpihcbmmaaPHist0
namespace Go.Proofs.Ytbbbdhpihcbmmaa
open Go.RowKit Own
open Go.Maps (Keyed)

/-- what is kept, and the event at hand in its box -/
structure EX (w0 : World) (m1 m2 m3 n : Nat) (st : CS) (eb : Nat) (x : EvIn) (dv rv : Value) (w : World) : Prop where
  ch : CH w0 m1 m2 m3 n st w
  box : w.heap[eb]? = some (.cells (evC x dv rv) 44 (0, 0))
section
variable {w0 w w' : World} {m1 m2 m3 n eb : Nat} {st : CS} {x : EvIn} {dv rv : Value}
theorem EX.go (h : EX w0 m1 m2 m3 n st eb x dv rv w) (hb : Below w.heap.size w w') : EX w0 m1 m2 m3 n st eb x dv rv w' :=
  ⟨h.ch.go hb, (hb.block _ (Array.getElem?_eq_some_iff.1 h.box).1).trans h.box⟩
theorem EX.facts (h : EX w0 m1 m2 m3 n st eb x dv rv w) : w.cell? ⟨eb, 0, none⟩ = some (.int .i64 x.kc) ∧ w.cell? ⟨eb, 1, none⟩ = some (.int .i64 x.ks) ∧ w.cell? ⟨eb, 2, none⟩ = some (.bool x.done) ∧ w.cell? ⟨eb, 3, none⟩ = some (.bool x.unk) ∧ w.cell? ⟨eb, 4, none⟩ = some (.int .i64 x.call.k) ∧ w.cell? ⟨eb, 5, none⟩ = some (.string x.call.s) ∧
    w.cell? ⟨eb, 6, none⟩ = some (.int .i64 x.call.a) ∧ w.cell? ⟨eb, 7, none⟩ = some dv ∧ w.cell? ⟨eb, 8, none⟩ = some (.int .i64 x.call.n) ∧ w.cell? ⟨eb, 9, none⟩ = some (.int .i64 x.rep.code) ∧ w.cell? ⟨eb, 10, none⟩ = some (.int .i64 x.rep.size) ∧ w.cell? ⟨eb, 11, none⟩ = some rv := by
  have hc : ∀ j u, (evC x dv rv)[j]? = some u → w.cell? ⟨eb, j, none⟩ = some u := fun j u hu => by rw [cell_of_row _ _ j _ _ _ h.box]; exact hu
  exact ⟨hc 0 _ rfl, hc 1 _ rfl, hc 2 _ rfl, hc 3 _ rfl, hc 4 _ rfl, hc 5 _ rfl, hc 6 _ rfl, hc 7 _ rfl, hc 8 _ rfl, hc 9 _ rfl, hc 10 _ rfl, hc 11 _ rfl⟩
theorem EX.keep (h : EX w0 m1 m2 m3 n st eb x dv rv w) {m : Nat} (hm : ∃ es c, w.heap[m]? = some (.map es c)) (hc : Chg [m] w w') : w'.heap[eb]? = some (.cells (evC x dv rv) 44 (0, 0)) := by
  refine (hc.block _ (Array.getElem?_eq_some_iff.1 h.box).1 ?_).trans h.box
  rw [List.mem_singleton]
  rintro rfl
  obtain ⟨es, c, hm⟩ := hm
  rw [h.box] at hm; cases hm
theorem MapIs.isMap {P : Program} {k : TypeId} {b m : Nat} {f : Value → Option Value} (h : MapIs P k b m f w) : ∃ es c, w.heap[b]? = some (.map es c) := by
  obtain ⟨es, c, hb, _⟩ := h
  exact ⟨es, c, hb⟩
theorem EX.put1 (h : EX w0 m1 m2 m3 n st eb x dv rv w) {a b : Int} (ha : (Lit.int .i64 a).wf = true) (hb : (Lit.int .i64 b).wf = true) : ∃ w', (Instr.mapUpdate 70 (.map (some m1)) (K2 a b) (.bool true)).run Try.prog w = .ok () w' ∧ EX w0 m1 m2 m3 (n + 1) { st with bs := (a, b) :: st.bs } eb x dv rv w' := by
  obtain ⟨w', h1, h2, h3⟩ := h.ch.put1 ha hb
  obtain ⟨f, q, _⟩ := h.ch.a1
  exact ⟨w', h1, h3, h.keep q.isMap h2⟩
theorem EX.put2 (h : EX w0 m1 m2 m3 n st eb x dv rv w) {a b : Int} (ha : (Lit.int .i64 a).wf = true) (hb : (Lit.int .i64 b).wf = true) : ∃ w', (Instr.mapUpdate 70 (.map (some m2)) (K2 a b) (.bool true)).run Try.prog w = .ok () w' ∧ EX w0 m1 m2 m3 (n + 1) { st with es := (a, b) :: st.es } eb x dv rv w' := by
  obtain ⟨w', h1, h2, h3⟩ := h.ch.put2 ha hb
  obtain ⟨f, q, _⟩ := h.ch.a2
  exact ⟨w', h1, h3, h.keep q.isMap h2⟩
theorem EX.put3 (h : EX w0 m1 m2 m3 n st eb x dv rv w) {s : ByteArray} (hs : s.size ≤ 140737488351232) (m : Nat) : ∃ w', (Instr.mapUpdate 36 (.map (some m3)) (.string s) (.int .i64 (cntN (s :: st.ns) s : Int))).run Try.prog w = .ok () w' ∧ EX w0 m1 m2 m3 (n + 1) { st with ns := s :: st.ns, most := m } eb x dv rv w' := by
  obtain ⟨w', h1, h2, h3⟩ := h.ch.put3 s hs m
  obtain ⟨f, q, _⟩ := h.ch.a3
  exact ⟨w', h1, h3, h.keep q.isMap h2⟩
end
theorem CH.start (w : World) : CH w w.heap.size (w.heap.size + 1) (w.heap.size + 2) 0 ⟨[], [], [], 0⟩ (((w.alloc (.map #[] 0)).alloc (.map #[] 0)).alloc (.map #[] 0)) := by
  obtain ⟨wa, ha⟩ : ∃ wa, wa = w.alloc (.map #[] 0) := ⟨_, rfl⟩
  obtain ⟨wb, hb⟩ : ∃ wb, wb = wa.alloc (.map #[] 0) := ⟨_, rfl⟩
  have sa : wa.heap.size = w.heap.size + 1 := by rw [ha]; simp
  have sb : wb.heap.size = w.heap.size + 2 := by rw [hb]; simp [sa]
  have q1 : MapIs Try.prog 42 w.heap.size 0 noKeys wa := by rw [ha]; exact MapIs.made w
  have q2 : MapIs Try.prog 42 wa.heap.size 0 noKeys wb := by rw [hb]; exact MapIs.made wa
  have q3 : MapIs Try.prog 9 wb.heap.size 0 noKeys (wb.alloc (.map #[] 0)) := MapIs.made wb
  have b1 : Below wa.heap.size wa wb := by rw [hb]; exact (Below.refl _ _).alloc (Nat.le_refl _) _
  have b2 : Below wb.heap.size wb (wb.alloc (.map #[] 0)) := (Below.refl _ _).alloc (Nat.le_refl _) _
  have b0 : Below w.heap.size w wa := by rw [ha]; exact (Below.refl _ _).alloc (Nat.le_refl _) _
  have b12 := b1.trans (b2.mono b1.size)
  rw [← ha, ← hb]
  rw [sa] at q2
  rw [sb] at q3
  exact ⟨⟨_, q1.same (b12.block _ (by omega)), KeySet.nil⟩, ⟨_, q2.same (b2.block _ (by omega)), KeySet.nil⟩, ⟨_, q3, CntMap.nil⟩, by omega, by omega, by omega, Nat.le_refl _, by omega, by omega, b0.trans (b12.mono b0.size)⟩
theorem cntN_le (N : List ByteArray) (s : ByteArray) : cntN N s ≤ N.length := List.length_filter_le ..
end Go.Proofs.Ytbbbdhpihcbmmaa
