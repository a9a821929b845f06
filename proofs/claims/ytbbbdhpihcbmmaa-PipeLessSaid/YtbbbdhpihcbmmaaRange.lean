/- 'for k, v := range m': one step, whatever the order. No program in sight (but for its name). -/
import Derived.Test.YtbbbdhpihcbmmaaMap2
import Derived.Maps.RangeRun
namespace Go.Proofs.Ytbbbdhpihcbmmaa
open Go.RowKit Own
open Go.MapKept (Stamped stamped_iff)
open Go.ChangeMaps (setBlock)

/-- an iterator over a map that stands still -/
structure RI (it mb : Nat) (es : Array MapEntry) (clock : Nat) (seen : Array Nat) (w : World) : Prop where
  it : ∃ c0, clock ≤ c0 ∧ w.heap[it]? = some (.mapIter (some mb) clock seen c0)
  map : w.heap[mb]? = some (.map es clock)
  st : Stamped es clock
theorem RI.same {it mb clock : Nat} {es : Array MapEntry} {seen : Array Nat} {w w' : World} (h : RI it mb es clock seen w) (h1 : w'.heap[it]? = w.heap[it]?) (h2 : w'.heap[mb]? = w.heap[mb]?) : RI it mb es clock seen w' := by
  obtain ⟨c0, hc, hi⟩ := h.it
  exact ⟨⟨c0, hc, h1.trans hi⟩, h2.trans h.map, h.st⟩
theorem RI.lt {it mb clock : Nat} {es : Array MapEntry} {seen : Array Nat} {w : World} (h : RI it mb es clock seen w) : it < w.heap.size ∧ mb < w.heap.size := by
  obtain ⟨c0, hc, hi⟩ := h.it
  exact ⟨(Array.getElem?_eq_some_iff.1 hi).1, (Array.getElem?_eq_some_iff.1 h.map).1⟩
theorem RI.go {it mb clock : Nat} {es : Array MapEntry} {seen : Array Nat} {w w' : World} (h : RI it mb es clock seen w) (hb : Below w.heap.size w w') : RI it mb es clock seen w' := h.same (hb.block _ h.lt.1) (hb.block _ h.lt.2)
theorem RI.start {mb clock : Nat} {es : Array MapEntry} {w : World} (hm : w.heap[mb]? = some (.map es clock)) (hs : Stamped es clock) : RI w.heap.size mb es clock #[] (w.alloc (.mapIter (some mb) clock #[] clock)) :=
  ⟨⟨clock, Nat.le_refl _, heap_alloc_new w _⟩, (((Below.refl _ _).alloc (Nat.le_refl _) _).block mb (Array.getElem?_eq_some_iff.1 hm).1).trans hm, hs⟩

theorem filter_le {α : Type} (p q : α → Bool) (h : ∀ x, q x = true → p x = true) : ∀ l : List α, (l.filter q).length ≤ (l.filter p).length
  | [] => Nat.le_refl _
  | a :: r => by
    have ih := filter_le p q h r
    by_cases hq : q a = true
    · simp [hq, h a hq]; exact ih
    · by_cases hp : p a = true
      · simp [hq, hp]; omega
      · simp [hq, hp]; exact ih
theorem filter_lt {α : Type} (p q : α → Bool) (h : ∀ x, q x = true → p x = true) (e : α) (hp : p e = true) (hq : q e = false) : ∀ l : List α, e ∈ l → (l.filter q).length < (l.filter p).length
  | [], he => by cases he
  | a :: r, he => by
    have hle := filter_le p q h r
    rcases List.mem_cons.1 he with rfl | he
    · simp [hq, hp]; omega
    · have ih := filter_lt p q h e hp hq r he
      by_cases hqa : q a = true
      · simp [hqa, h a hqa]; exact ih
      · by_cases hpa : p a = true
        · simp [hqa, hpa]; omega
        · simp [hqa, hpa]; exact ih
theorem left_push (es : Array MapEntry) (seen : Array Nat) (e : MapEntry) (he : e ∈ (leftOf es seen).toList) : (leftOf es (seen.push e.born)).size < (leftOf es seen).size := by
  have he2 : e ∈ es.toList ∧ (!seen.contains e.born) = true := by
    unfold leftOf at he
    rw [Array.toList_filter] at he
    exact List.mem_filter.1 he
  have key := filter_lt (fun x : MapEntry => !seen.contains x.born) (fun x => !(seen.push e.born).contains x.born) (fun x hx => by
    simp at hx ⊢
    exact hx.1) e he2.2 (by simp) es.toList he2.1
  have h1 : ∀ s : Array Nat, (leftOf es s).size = (es.toList.filter (fun x : MapEntry => !s.contains x.born)).length := fun s => by
    unfold leftOf
    rw [← Array.toList_filter, Array.length_toList]
  rw [h1, h1]
  exact key

/-- one step of the range -/
theorem RI.next {P : Program} {it mb clock : Nat} {es : Array MapEntry} {seen : Array Nat} {w : World} (h : RI it mb es clock seen w) (hne : it ≠ mb) :
    ((leftOf es seen).size = 0 ∧ ∀ ty, (Instr.next (.pointer (some ⟨it, 0, none⟩)) false ty).run P w = .ok (.tuple #[.bool false]) w) ∨
    ∃ e ∈ (leftOf es seen).toList, ∃ w2 : World, (∀ ty, (Instr.next (.pointer (some ⟨it, 0, none⟩)) false ty).run P w = .ok (.tuple #[.bool true, e.key, e.val]) w2) ∧ RI it mb es clock (seen.push e.born) w2 ∧ Chg [it] w w2 ∧
      (Instr.entry (.pointer (some ⟨it, 0, none⟩))).run P w2 = .ok (.tuple #[e.key, e.val]) w2 ∧ e ∈ es.toList := by
  obtain ⟨c0, hc, hi⟩ := h.it
  have hs := (stamped_iff es clock).1 h.st
  -- the type is only handed on: the step is the same for each
  have law := fun ty => run_next_at (P := P) w ty it mb clock c0 seen es clock hi h.map hs.1 hc
  have hty : ∀ ty, (Instr.next (.pointer (some ⟨it, 0, none⟩)) false ty).run P w = (Instr.next (.pointer (some ⟨it, 0, none⟩)) false 0).run P w := fun _ => rfl
  rcases law 0 with ⟨h0, hr⟩ | ⟨e, he, w1, hal, hr⟩
  · exact .inl ⟨h0, fun ty => (hty ty).trans hr⟩
  · right
    have hmem : e ∈ es.toList := by
      unfold leftOf at he
      rw [Array.toList_filter] at he
      exact (List.mem_filter.1 he).1
    have hb1 : Chg [it] w w1 := by
      rcases hal with rfl | rfl
      · exact Chg.refl _ _
      · exact (Chg.refl _ _).drew
    have hi1 : w1.heap[it]? = some (.mapIter (some mb) clock seen c0) := by rcases hal with rfl | rfl <;> exact hi
    have hm1 : w1.heap[mb]? = some (.map es clock) := by rcases hal with rfl | rfl <;> exact h.map
    have hi2 : (setBlock w1 it (.mapIter (some mb) clock (seen.push e.born) clock)).heap[it]? = some (.mapIter (some mb) clock (seen.push e.born) clock) := by
      simp [setBlock, (Array.getElem?_eq_some_iff.1 hi1).1]
    have hc2 := chg_setBlock it (.mapIter (some mb) clock (seen.push e.born) clock) w1
    have hm2 : (setBlock w1 it (.mapIter (some mb) clock (seen.push e.born) clock)).heap[mb]? = some (.map es clock) := (hc2.block mb (Array.getElem?_eq_some_iff.1 hm1).1 (by simpa using fun e => hne e.symm)).trans hm1
    exact ⟨e, he, _, fun ty => (hty ty).trans hr, ⟨⟨clock, Nat.le_refl _, hi2⟩, hm2, h.st⟩, hb1.trans hc2 (fun x hx _ => hx), run_entry_at _ it mb clock seen es clock e hi2 hm2 hmem hs.2.1, hmem⟩
/-- how many rounds are left -/
noncomputable def itLeft (it mb : Nat) (w : World) : Nat := match w.heap[it]?, w.heap[mb]? with
  | some (.mapIter _ _ seen _), some (.map es _) => (leftOf es seen).size
  | _, _ => 0
theorem RI.left {it mb clock : Nat} {es : Array MapEntry} {seen : Array Nat} {w : World} (h : RI it mb es clock seen w) : itLeft it mb w = (leftOf es seen).size := by
  obtain ⟨c0, hc, hi⟩ := h.it
  unfold itLeft
  rw [hi, h.map]
end Go.Proofs.Ytbbbdhpihcbmmaa
