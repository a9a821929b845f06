/- A slice of events that came in. -/
import Derived.Test.YtbbbdhpihcbmmaaPCalls
import Derived.Test.YtbbbdhpihcbmmaaPEv
import Derived.Deep.Strs
namespace Go.Proofs.Ytbbbdhpihcbmmaa
open Go.RowKit Own
open Go.ChangeShapes Go.WideShapes Go.ChangeAt

theorem cellsEvent : Try.prog.cellsOf 44 = 12 := by kernel_rfl
theorem cellsKey : Try.prog.cellsOf 42 = 2 := by kernel_rfl
theorem cellsReply : Try.prog.cellsOf 26 = 3 := by kernel_rfl
theorem cellsBool : Try.prog.cellsOf 4 = 1 := by kernel_rfl
theorem cellsErrno : Try.prog.cellsOf 24 = 1 := by kernel_rfl
theorem bytesEvent : Try.prog.bytesOf 44 = 128 := by kernel_rfl

theorem open_event {H : Type} {enc : TypeId × Value → H} {w : World} {base : Nat} {held : Bool} {n : Nat} {c0 c1 c2 c3 c4 c5 c6 c7 c8 c9 c10 c11 : Value} {x : DataW H × List MemPlace}
    (h : DataW.trod enc Try.prog w base (fun _ => true) held n 44 [c0, c1, c2, c3, c4, c5, c6, c7, c8, c9, c10, c11] = some x) (hw : ∀ y ∈ x.1.weights Try.prog 44, y ≤ reachBytes) :
    ∃ (r : EvIn), EvOk r ∧ c0 = .int .i64 r.kc ∧ c1 = .int .i64 r.ks ∧ c2 = .bool r.done ∧ c3 = .bool r.unk ∧ c4 = .int .i64 r.call.k ∧ c5 = .string r.call.s ∧ c6 = .int .i64 r.call.a ∧ ReadsB w c7 r.call.d ∧ c8 = .int .i64 r.call.n ∧ c9 = .int .i64 r.rep.code ∧ c10 = .int .i64 r.rep.size ∧ ReadsB w c11 r.rep.d := by
  obtain ⟨y0, y1, y2, y3, y4, m, rfl, t0, t1, t2, t3, t4⟩ := trod_struct5 Try.underlying44 h
  simp only [cellsKey, cellsBool, cellsCall, cellsReply, List.drop_zero, List.drop_succ_cons, List.take_succ_cons, List.take_zero] at t0 t1 t2 t3 t4
  have hall : ∀ (j : Nat) (t : TypeId) (z : DataW H), [42, 4, 4, 30, 26][j]? = some t → [y0.1, y1.1, y2.1, y3.1, y4.1][j]? = some z → ∀ y ∈ z.weights Try.prog t, y ≤ reachBytes := fun j t z ht hz y hy => hw y (by
    rw [DataW.weights, Try.underlying44]
    exact DataW.weights_mem_each (j := j) ht hz y hy)
  obtain ⟨z0, z1, m2, hx0, _, k0, k1⟩ := trod_struct2 Try.underlying42 t0
  obtain ⟨b1, hb1, _⟩ := DataW.trod_bool Try.underlying4 t1
  obtain ⟨b2, hb2, _⟩ := DataW.trod_bool Try.underlying4 t2
  obtain ⟨c, hcok, rfl, rfl, rfl, hrd, rfl⟩ := open_call t3 (hall 3 _ _ rfl rfl)
  obtain ⟨q0, q1, q2, m4, hx4, _, r0, r1, r2⟩ := Go.Deep.trod_struct3 Try.underlying26 t4
  simp only [cellsI, cellsErrno, cellsB, List.drop_zero, List.drop_succ_cons, List.take_succ_cons, List.take_zero] at k0 k1 r0 r1 r2
  obtain ⟨a0, hc0, _, w0⟩ := DataW.trod_int Try.underlying3 k0
  obtain ⟨a1, hc1, _, w1⟩ := DataW.trod_int Try.underlying3 k1
  obtain ⟨a9, hc9, _, _⟩ := DataW.trod_int Try.underlying24 r0
  obtain ⟨a10, hc10, _, _⟩ := DataW.trod_int Try.underlying3 r1
  obtain rfl : c0 = .int .i64 a0 := by simpa using hc0
  obtain rfl : c1 = .int .i64 a1 := by simpa using hc1
  obtain rfl : c2 = .bool b1 := by simpa using hb1
  obtain rfl : c3 = .bool b2 := by simpa using hb2
  obtain rfl : c9 = .int .i64 a9 := by simpa using hc9
  obtain rfl : c10 = .int .i64 a10 := by simpa using hc10
  obtain ⟨l, hl, hd⟩ := open_bytes1 r2
  refine ⟨⟨a0, a1, b1, b2, c, ⟨a9, a10, l⟩⟩, ⟨w0, w1, hcok, sized_bytes hd fun y hy => hall 4 _ _ rfl rfl y ?_⟩, rfl, rfl, rfl, rfl, rfl, rfl, rfl, hrd, rfl, rfl, rfl, hl⟩
  rw [hx4, DataW.weights, Try.underlying26]
  exact DataW.weights_mem_each (j := 2) rfl rfl y hy

theorem open_events {H : Type} {enc : TypeId × Value → H} {w : World} {base : Nat} {held : Bool} {r : Reach} {b0 : Nat} {v : Value} {d : DataW H} {p : List MemPlace}
    (hv : Value.okWide Try.prog w r b0 34 v) (h : DataW.Trod enc Try.prog w base (fun _ => true) held 34 v d p) (hw : ∀ y ∈ d.weights Try.prog 34, y ≤ reachBytes) :
    ∃ xs, (xs = [] ∨ ReadsEvs w v xs) ∧ (∀ x ∈ xs, EvOk x) ∧ xs.length ≤ 140737488351232 ∧ ∃ A c, v = .slice A xs.length c ∧ xs.length ≤ c := by
  obtain ⟨a0, len, cap, rfl⟩ := okWide_slice Try.underlying34 hv
  obtain ⟨fuel, hf⟩ := h
  rcases Go.Deep.open_slice Try.underlying34 hf with ⟨hcs, hx⟩ | ⟨a, len', cap', m, n, D, Pl, hcs, _, hle, _, hm, hx, hel⟩
  · have hz : Value.slice a0 len cap = .slice none 0 0 := by simpa [Value.cells] using hcs
    exact ⟨[], .inl rfl, fun x hx => (by cases hx), Nat.zero_le _, none, 0, hz, Nat.le_refl _⟩
  · have hlm : len' ≤ m := by rw [hm]; split <;> omega
    cases hx
    have hcs' : Value.slice a0 len cap = .slice (some a) len' cap' := by simpa [Value.cells] using hcs
    cases hcs'
    have each : ∀ i, i < len → ∃ x : EvIn, EvOk x ∧ ∃ c7 c11, w.cell? (a.add (i * 12)) = some (.int .i64 x.kc) ∧ (∀ j u, (evC x c7 c11)[j]? = some u → w.cell? ((a.add (i * 12)).add j) = some u) ∧ ReadsB w c7 x.call.d ∧ ReadsB w c11 x.rep.d := by
      intro i hi
      obtain ⟨cs', h1, h2⟩ := hel i (by omega)
      rw [cellsEvent] at h1
      obtain ⟨_, hlen, hcell⟩ := World.cells?_some h1
      match cs', hlen with
      | [c0, c1, c2, c3, c4, c5, c6, c7, c8, c9, c10, c11], _ =>
        obtain ⟨x, hok, rfl, rfl, rfl, rfl, rfl, rfl, rfl, hr, rfl, rfl, rfl, hr2⟩ := open_event h2 (fun y hy => hw y (by
          rw [DataW.weights, Try.underlying34]
          exact List.mem_cons_of_mem _ (List.mem_append_left _ (mem_weightsAll (List.mem_map.2 ⟨i, List.mem_range.2 hi, rfl⟩) hy))))
        have h00 := hcell 0 (by omega)
        refine ⟨x, hok, c7, c11, by rw [Addr.add_zero'] at h00; exact h00, fun j u hu => ?_, hr, hr2⟩
        have hj : j < 12 := by have := (Array.getElem?_eq_some_iff.1 hu).1; simpa [evC] using this
        have hc := hcell j hj
        rw [hc]
        have : (evC x c7 c11).toList[j]? = some u := by rw [Array.getElem?_toList]; exact hu
        exact this
    obtain ⟨F, hF⟩ := Go.Deep.choose_lt each
    have hlen : len * 128 ≤ reachBytes := by
      refine Nat.le_trans ?_ (hw _ (by
        rw [DataW.weights, Try.underlying34]
        exact List.mem_cons_self ..))
      rw [bytesEvent]
      simp
      omega
    refine ⟨(List.range len).map F, ?_, fun x hx => ?_, ?_, some a, cap, by simp, by simpa using hle⟩
    · obtain ⟨bk, off, spot⟩ := a
      by_cases h0 : 0 < len
      · have hspot : spot = none := by
          obtain ⟨_, _, _, e0, _⟩ := hF 0 h0
          simpa [Addr.add] using World.cell?_spot e0
        subst hspot
        refine .inr (.inr ⟨bk, off, cap, by simp, fun i hi => ?_⟩)
        have hi' : i < len := by simpa using hi
        obtain ⟨_, c7, c11, _, e1, e2, e3⟩ := hF i hi'
        simp only [List.getElem_map, List.getElem_range]
        refine ⟨c7, c11, fun j u hu => ?_, e2, e3⟩
        have := e1 j u hu
        rwa [Go.WideShapes.add_plain, Go.WideShapes.add_plain] at this
      · obtain rfl : len = 0 := by omega
        exact .inl rfl
    · obtain ⟨i, hi, rfl⟩ := List.mem_map.1 hx
      exact (hF i (List.mem_range.1 hi)).1
    · simp only [List.length_map, List.length_range]
      simp only [reachBytes] at hlen
      omega
end Go.Proofs.Ytbbbdhpihcbmmaa
