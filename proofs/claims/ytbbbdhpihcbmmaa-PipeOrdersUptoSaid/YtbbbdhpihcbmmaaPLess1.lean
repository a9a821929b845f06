/- PipeLess: events in a row of the law's own. -/
import Derived.Test.YtbbbdhpihcbmmaaPLess0
import Derived.Test.YtbbbdhpihcbmmaaPEvsIn
import Derived.Test.YtbbbdhpihcbmmaaGSized
import Derived.Laws.IdiomCopy
namespace Go.Proofs.Ytbbbdhpihcbmmaa
open Go.RowKit Own

abbrev EvV := EvIn × Value × Value
def evL (p : EvV) : List Value := (evC p.1 p.2.1 p.2.2).toList
def cellsEv (L : List EvV) : List Value := L.flatMap evL
theorem evL_len (p : EvV) : (evL p).length = 12 := rfl
theorem cellsEv_len : ∀ L : List EvV, (cellsEv L).length = L.length * 12
  | [] => rfl
  | p :: L => by
    have := cellsEv_len L
    unfold cellsEv at this ⊢
    rw [List.flatMap_cons, List.length_append, evL_len, this, List.length_cons]; omega
theorem cellsEv_append (L M : List EvV) : cellsEv (L ++ M) = cellsEv L ++ cellsEv M := by simp [cellsEv]
theorem cellsEv_at : ∀ (L : List EvV) (i : Nat) (hi : i < L.length) (j : Nat), j < 12 → (cellsEv L)[i * 12 + j]? = (evL (L[i]'hi))[j]?
  | [], i, hi, _, _ => by cases hi
  | p :: L, 0, _, j, hj => by
    have h5 := evL_len p
    simp only [cellsEv, List.flatMap_cons, Nat.zero_mul, Nat.zero_add]
    rw [List.getElem?_append_left (by omega)]; rfl
  | p :: L, i + 1, hi, j, hj => by
    have h5 := evL_len p
    have ih := cellsEv_at L i (by simpa using hi) j hj
    simp only [cellsEv, List.flatMap_cons] at ih ⊢
    rw [List.getElem?_append_right (by omega), show (i + 1) * 12 + j - (evL p).length = i * 12 + j by omega, ih]; rfl
theorem cellsEv_take (L : List EvV) (i : Nat) (j : Nat) (u : Value) (h : (cellsEv (L.take i))[j]? = some u) : (cellsEv L)[j]? = some u := by
  have e : cellsEv L = cellsEv (L.take i) ++ cellsEv (L.drop i) := by rw [← cellsEv_append, List.take_append_drop]
  rw [e, List.getElem?_append_left (List.getElem?_eq_some_iff.1 h).1]; exact h
theorem cellsEv_drop (L : List EvV) (i : Nat) (hi : i ≤ L.length) (j : Nat) : (cellsEv (L.drop i))[j]? = (cellsEv L)[i * 12 + j]? := by
  have e : cellsEv L = cellsEv (L.take i) ++ cellsEv (L.drop i) := by rw [← cellsEv_append, List.take_append_drop]
  have hl : (cellsEv (L.take i)).length = i * 12 := by rw [cellsEv_len, List.length_take]; congr 1; omega
  rw [e, List.getElem?_append_right (by omega), hl]
  congr 1; omega
theorem infoEv : (Try.prog.info? 44).map (fun i => (i.zero, i.size, i.bytes)) = some (some (.agg #[.int .i64 0, .int .i64 0, .bool false, .bool false, .int .i64 0, .string ⟨#[]⟩, .int .i64 0, .slice none 0 0, .int .i64 0, .int .i64 0, .int .i64 0, .slice none 0 0]), 12, 128) := by kernel_rfl
def EvReads (w : World) (p : EvV) : Prop := ReadsB w p.2.1 p.1.call.d ∧ ReadsB w p.2.2 p.1.rep.d
theorem EvReads.one {w : World} {p : EvV} (h : EvReads w p) : ∀ u ∈ evL p, u.oneCell' = true := by
  obtain ⟨⟨xc, xk, done, unk, ⟨k, s, a, d, n⟩, ⟨code, size, rd⟩⟩, dv, rv⟩ := p
  obtain ⟨dA, dc, h1⟩ := h.1.slice
  obtain ⟨rA, rc, h2⟩ := h.2.slice
  dsimp only at h1 h2
  subst h1
  subst h2
  intro u hu
  simp only [evL, evC, List.mem_cons, List.mem_nil_iff, or_false] at hu
  rcases hu with rfl | rfl | rfl | rfl | rfl | rfl | rfl | rfl | rfl | rfl | rfl | rfl <;> rfl
theorem evs_one {w : World} {L : List EvV} (h : ∀ p ∈ L, EvReads w p) : ∀ u ∈ cellsEv L, u.oneCell' = true := by
  intro u hu
  obtain ⟨p, hp, hu⟩ := List.mem_flatMap.1 hu
  exact (h p hp).one u hu
/-- events as they lie -/
theorem evs_open {w : World} {b : Nat} : ∀ (xs : List EvIn) (off : Nat), (∀ i (hi : i < xs.length), EvAt w b (off + i * 12) (xs[i]'hi)) → ∃ L : List EvV, L.map Prod.fst = xs ∧ (∀ j u, (cellsEv L)[j]? = some u → w.cell? ⟨b, off + j, none⟩ = some u) ∧ ∀ p ∈ L, EvReads w p
  | [], _, _ => ⟨[], rfl, fun _ _ h => by simp [cellsEv] at h, fun _ h => by cases h⟩
  | x :: xs, off, h => by
    obtain ⟨dv, rv, h0, h1, h2⟩ := h 0 (by simp)
    obtain ⟨L, e, hc, hr⟩ := evs_open xs (off + 12) fun i hi => by
      have := h (i + 1) (by simpa using hi)
      rw [show off + (i + 1) * 12 = off + 12 + i * 12 by omega] at this
      exact this
    refine ⟨(x, dv, rv) :: L, by rw [List.map_cons, e], fun j u hu => ?_, fun p hp => ?_⟩
    · have h5 := evL_len (x, dv, rv)
      simp only [cellsEv, List.flatMap_cons] at hu
      by_cases hj : j < 12
      · rw [List.getElem?_append_left (by omega)] at hu
        have := h0 j u (by rw [← Array.getElem?_toList]; exact hu)
        simpa using this
      · rw [List.getElem?_append_right (by omega), h5] at hu
        have := hc (j - 12) u hu
        rwa [show off + 12 + (j - 12) = off + j by omega] at this
    · rcases List.mem_cons.1 hp with rfl | hp
      · exact ⟨h1, h2⟩
      · exact hr p hp
theorem evs_own {W : World} {B g cap : Nat} {L : List EvV} (h : W.ownsRow B 44 12 (.slice (some ⟨g, 0, none⟩) L.length cap) L.length (cellsEv L)) (hr : ∀ p ∈ L, EvReads W p) : ReadsEvs W (.slice (some ⟨g, 0, none⟩) L.length cap) (L.map Prod.fst) := by
  refine .inr ⟨g, 0, cap, by rw [List.length_map], fun i hi => ?_⟩
  have hi' : i < L.length := by simpa using hi
  simp only [List.getElem_map]
  refine ⟨(L[i]'hi').2.1, (L[i]'hi').2.2, fun j u hu => ?_, hr _ (List.getElem_mem hi')⟩
  have hj : j < 12 := by have := (Array.getElem?_eq_some_iff.1 hu).1; simpa [evC] using this
  have := h.cells (g := g) rfl (i * 12 + j) u (by rw [cellsEv_at L i hi' j hj]; unfold evL; rw [Array.getElem?_toList]; exact hu)
  rw [Addr.add_lit, Nat.zero_add] at this
  rw [Nat.zero_add]; exact this
/-- 'append(v, m...)' of events -/
theorem app_evs (Y : World) (B n c : Nat) (A : Option Addr) (L M : List EvV) (hown : Y.ownsRow B 44 12 (.slice A n c) n (cellsEv L)) (a : Addr) (cm : Nat) (hc : ∀ j u, (cellsEv M)[j]? = some u → Y.cell? (a.add j) = some u) (h1 : ∀ p ∈ M, EvReads Y p)
    (hn : n ≤ 1000) (hm : M.length ≤ 1000) (hB : B ≤ Y.heap.size) : ∃ A' c' W, (appendH #[34, 34] 34 #[.slice A n c, .slice (some a) M.length cm]).run Try.prog Y = .ok (.slice A' (n + M.length) c') W ∧
      W.ownsRow B 44 12 (.slice A' (n + M.length) c') (n + M.length) (cellsEv (L ++ M)) ∧ Below B Y W := by
  obtain ⟨i0, hi, hz0, hz1, hz2⟩ := info_parts infoEv
  obtain ⟨v', W, hr, hownW, hg, _, _⟩ := run_append_own_at (P := Try.prog) Y B 34 34 44 i0 _ 12 128 Try.underlying34 hi hz0 hz1 hz2 rfl (by decide) (.slice A n c) n (cellsEv L) hown a M.length cm (cellsEv M) (cellsEv_len M) hc (evs_one h1) (by unfold maxLen; omega) (by omega) hB
  obtain ⟨A', c', rfl⟩ := own_slice hownW
  exact ⟨A', c', W, hr, by rw [cellsEv_append]; exact hownW, (Below.refl B Y).grown hg hB (fun k hk => (hown.lt k hk).1)⟩
/-- '[]api.Event{}' -/
theorem made_evs (W : World) : (W.alloc (.cells #[] 44)).ownsRow W.heap.size 44 12 (.slice (some ⟨W.heap.size, 0, none⟩) 0 0) 0 (cellsEv []) :=
  World.ownsRow_made W #[] 0 (Nat.le_refl _) (by unfold maxLen; omega) rfl
/-- an event of the row is another now -/
theorem evs_set {w0 W : World} {B g cap i : Nat} {L : List EvV} (h : W.ownsRow B 44 12 (.slice (some ⟨g, 0, none⟩) L.length cap) L.length (cellsEv L)) (hi : i < L.length) (p : EvV) (hw0 : Below w0.heap.size w0 W) (hB : w0.heap.size ≤ B) (hr : ∀ q ∈ L, EvReads w0 q) (hp : EvReads w0 p) :
    ReadsEvs (W.setCells g (i * 12) (evL p)) (.slice (some ⟨g, 0, none⟩) L.length cap) ((L.map Prod.fst).set i p.1) ∧ Below w0.heap.size w0 (W.setCells g (i * 12) (evL p)) := by
  have hg : B ≤ g := (h.lt g rfl).1
  have hcell : ∀ k j u, k < L.length → j < 12 → (cellsEv L)[k * 12 + j]? = some u → W.cell? ⟨g, k * 12 + j, none⟩ = some u := fun k j u _ _ hu => by
    have := h.cells (g := g) rfl (k * 12 + j) u hu
    rwa [Addr.add_lit, Nat.zero_add] at this
  have hb : Below w0.heap.size w0 (W.setCells g (i * 12) (evL p)) := by
    obtain ⟨r1, r2, r3, r4⟩ := setCells_rest (b := g) (evL p) (i * 12) W
    refine ⟨r1.trans hw0.os, r2.trans hw0.tape, r3.trans hw0.output, by rw [r4]; exact hw0.size, fun k hk => ?_⟩
    exact (heap_setCells_other (evL p) (i * 12) W k (by omega)).trans (hw0.block k hk)
  have hrd : ∀ q, EvReads w0 q → EvReads (W.setCells g (i * 12) (evL p)) q := fun q hq => ⟨hq.1.below hb, hq.2.below hb⟩
  refine ⟨.inr ⟨g, 0, cap, by simp, fun k hk => ?_⟩, hb⟩
  have hk' : k < L.length := by simpa using hk
  rw [Nat.zero_add, List.getElem_set]
  by_cases e : i = k
  · subst e
    rw [if_pos rfl]
    refine ⟨p.2.1, p.2.2, fun j u hu => ?_, hrd p hp⟩
    have hj : j < 12 := by have := (Array.getElem?_eq_some_iff.1 hu).1; simpa [evC] using this
    have h9 := World.cell?_setCells_in g (evL p) (i * 12) W (fun j hj => by
      have hj : j < 12 := hj
      have hlen := evL_len (L[i]'hi)
      rw [hcell i j ((evL (L[i]'hi))[j]'(by omega)) hi hj (by rw [cellsEv_at L i hi j hj]; exact List.getElem?_eq_getElem _)]
      rfl) j hj
    rw [h9]
    rw [← Array.getElem?_toList] at hu
    have : (evL p)[j]? = some u := hu
    rw [← this]; exact (List.getElem?_eq_getElem _).symm
  · rw [if_neg e]
    simp only [List.getElem_map]
    refine ⟨(L[k]'hk').2.1, (L[k]'hk').2.2, fun j u hu => ?_, hrd _ (hr _ (List.getElem_mem hk'))⟩
    have hj : j < 12 := by have := (Array.getElem?_eq_some_iff.1 hu).1; simpa [evC] using this
    rw [World.cell?_setCells_out g (evL p) (i * 12) W ⟨g, k * 12 + j, none⟩ (fun _ _ => by
      have := evL_len p
      simp only []
      omega)]
    exact hcell k j u hk' hj (by rw [cellsEv_at L k hk' j hj]; unfold evL; rw [Array.getElem?_toList]; exact hu)
end Go.Proofs.Ytbbbdhpihcbmmaa
