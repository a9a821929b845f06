/- Calls that came in: one by value, and a slice of them. -/
import Derived.Test.YtbbbdhpihcbmmaaPDo4
import Derived.Lib.SmallJoins
import Derived.Deep.Slices
import Derived.Deep.Grids
namespace Go.Proofs.Ytbbbdhpihcbmmaa
open Go.RowKit Own
open Go.ChangeShapes Go.WideShapes Go.ChangeAt

structure CallOk (x : CallIn) : Prop where
  k : (Lit.int .i64 x.k).wf = true
  a : (Lit.int .i64 x.a).wf = true
  n : (Lit.int .i64 x.n).wf = true
  s : x.s.size ≤ 140737488351232
  d : x.d.length ≤ 140737488351232
def CallAt (w : World) (blk o : Nat) (x : CallIn) : Prop :=
  ∃ v, w.cell? ⟨blk, o, none⟩ = some (.int .i64 x.k) ∧ w.cell? ⟨blk, o + 1, none⟩ = some (.string x.s) ∧ w.cell? ⟨blk, o + 2, none⟩ = some (.int .i64 x.a) ∧ w.cell? ⟨blk, o + 3, none⟩ = some v ∧ w.cell? ⟨blk, o + 4, none⟩ = some (.int .i64 x.n) ∧ ReadsB w v x.d
def ReadsCalls (w : World) (v : Value) (xs : List CallIn) : Prop :=
  (v = .slice none 0 0 ∧ xs = []) ∨ ∃ a c, v = .slice (some a) xs.length c ∧ ∀ i (hi : i < xs.length), ∃ b off, a = ⟨b, off, none⟩ ∧ CallAt w b (off + i * 5) (xs[i]'hi)
theorem CallAt.below {w w1 : World} {blk o : Nat} {x : CallIn} (h : CallAt w blk o x) (hb : Below w.heap.size w w1) : CallAt w1 blk o x := by
  obtain ⟨v, h0, h1, h2, h3, h4, h5⟩ := h
  have hlt : blk < w.heap.size := World.block_lt_of_cell? w _ h0
  exact ⟨v, (hb.cell hlt).trans h0, (hb.cell hlt).trans h1, (hb.cell hlt).trans h2, (hb.cell hlt).trans h3, (hb.cell hlt).trans h4, h5.below hb⟩
theorem ReadsCalls.slice {w : World} {v : Value} {xs : List CallIn} (h : ReadsCalls w v xs) : ∃ A c, v = .slice A xs.length c := by
  rcases h with ⟨rfl, rfl⟩ | ⟨a, c, rfl, _⟩
  · exact ⟨none, 0, rfl⟩
  · exact ⟨_, c, rfl⟩
theorem ReadsCalls.at_ {w : World} {v : Value} {xs : List CallIn} (h : ReadsCalls w v xs) {i : Nat} (hi : i < xs.length) : ∃ b off c, v = .slice (some ⟨b, off, none⟩) xs.length c ∧ CallAt w b (off + i * 5) (xs[i]'hi) := by
  rcases h with ⟨_, rfl⟩ | ⟨a, c, rfl, hc⟩
  · cases hi
  · obtain ⟨b, off, rfl, h⟩ := hc i hi
    exact ⟨b, off, c, rfl, h⟩

theorem cellsCall : Try.prog.cellsOf 30 = 5 := by kernel_rfl
theorem cellsI : Try.prog.cellsOf 3 = 1 := by kernel_rfl
theorem cellsB : Try.prog.cellsOf 23 = 1 := by kernel_rfl
theorem cellsS : Try.prog.cellsOf 9 = 1 := by kernel_rfl
theorem mem_weightsAll {H : Type} {P : Program} {e : TypeId} {d : DataW H} {x : Nat} : ∀ {ds : List (DataW H)}, d ∈ ds → x ∈ d.weights P e → x ∈ DataW.weightsAll P e ds
  | d0 :: ds, hd, hx => by
    rw [DataW.weightsAll, List.mem_append]
    rcases List.mem_cons.1 hd with rfl | hd
    · exact .inl hx
    · exact .inr (mem_weightsAll hd hx)

theorem trod_struct5 {H : Type} {enc : TypeId × Value → H} {P : Program} {w : World} {base : Nat} {spare : Nat → Bool} {held : Bool} {t : TypeId} {f0 f1 f2 f3 f4 : Field} {fuel : Nat} {cs : List Value} {x : DataW H × List MemPlace}
    (ht : P.underlying t = some (.struct #[f0, f1, f2, f3, f4])) (h : DataW.trod enc P w base spare held fuel t cs = some x) :
    ∃ y0 y1 y2 y3 y4 n, x = (.agg [y0.1, y1.1, y2.1, y3.1, y4.1], y0.2 ++ (y1.2 ++ (y2.2 ++ (y3.2 ++ y4.2)))) ∧ DataW.trod enc P w base spare held n f0.type ((cs.drop f0.offset).take (P.cellsOf f0.type)) = some y0 ∧
      DataW.trod enc P w base spare held n f1.type ((cs.drop f1.offset).take (P.cellsOf f1.type)) = some y1 ∧ DataW.trod enc P w base spare held n f2.type ((cs.drop f2.offset).take (P.cellsOf f2.type)) = some y2 ∧
      DataW.trod enc P w base spare held n f3.type ((cs.drop f3.offset).take (P.cellsOf f3.type)) = some y3 ∧ DataW.trod enc P w base spare held n f4.type ((cs.drop f4.offset).take (P.cellsOf f4.type)) = some y4 := by
  obtain ⟨ys, n, _, rfl, _, hlen, hf⟩ := DataW.trod_struct ht h
  match ys, hlen with
  | [y0, y1, y2, y3, y4], _ => exact ⟨y0, y1, y2, y3, y4, n, by simp, by simpa using hf 0 f0 rfl, by simpa using hf 1 f1 rfl, by simpa using hf 2 f2 rfl, by simpa using hf 3 f3 rfl, by simpa using hf 4 f4 rfl⟩

theorem open_call {H : Type} {enc : TypeId × Value → H} {w : World} {base : Nat} {held : Bool} {n : Nat} {c0 c1 c2 c3 c4 : Value} {x : DataW H × List MemPlace}
    (h : DataW.trod enc Try.prog w base (fun _ => true) held n 30 [c0, c1, c2, c3, c4] = some x) (hw : ∀ y ∈ x.1.weights Try.prog 30, y ≤ reachBytes) :
    ∃ r : CallIn, CallOk r ∧ c0 = .int .i64 r.k ∧ c1 = .string r.s ∧ c2 = .int .i64 r.a ∧ ReadsB w c3 r.d ∧ c4 = .int .i64 r.n := by
  obtain ⟨y0, y1, y2, y3, y4, m, rfl, t0, t1, t2, t3, t4⟩ := trod_struct5 Try.underlying30 h
  simp only [cellsI, cellsB, cellsS, List.drop_zero, List.drop_succ_cons, List.take_succ_cons, List.take_zero] at t0 t1 t2 t3 t4
  obtain ⟨a0, hc0, _, w0⟩ := DataW.trod_int Try.underlying3 t0
  obtain ⟨s1, hc1, hx1, _⟩ := DataW.trod_string Try.underlying9 t1
  obtain ⟨a2, hc2, _, w2⟩ := DataW.trod_int Try.underlying3 t2
  obtain ⟨a4, hc4, _, w4⟩ := DataW.trod_int Try.underlying3 t4
  obtain rfl : c0 = .int .i64 a0 := by simpa using hc0
  obtain rfl : c1 = .string s1 := by simpa using hc1
  obtain rfl : c2 = .int .i64 a2 := by simpa using hc2
  obtain rfl : c4 = .int .i64 a4 := by simpa using hc4
  obtain ⟨l, hl, hd⟩ := open_bytes1 t3
  have hall : ∀ (j : Nat) (t : TypeId) (z : DataW H), [3, 9, 3, 23, 3][j]? = some t → [y0.1, y1.1, y2.1, y3.1, y4.1][j]? = some z → ∀ y ∈ z.weights Try.prog t, y ≤ reachBytes := fun j t z ht hz y hy => hw y (by
    rw [DataW.weights, Try.underlying30]
    exact DataW.weights_mem_each (j := j) ht hz y hy)
  refine ⟨⟨a0, s1, a2, l, a4⟩, ⟨w0, w2, w4, ?_, sized_bytes hd (hall 3 _ _ rfl rfl)⟩, rfl, rfl, rfl, hl, rfl⟩
  have h1 := hall 1 _ _ rfl rfl s1.data.toList.length (by rw [hx1]; simp [DataW.weights])
  have : s1.size = s1.data.toList.length := by show s1.data.size = _; simp
  show s1.size ≤ 140737488351232
  simp only [reachBytes] at h1
  omega

theorem open_call_val {H : Type} {enc : TypeId × Value → H} {w : World} {base : Nat} {held : Bool} {r : Reach} {b0 : Nat} {v : Value} {d : DataW H} {p : List MemPlace}
    (hv : Value.okWide Try.prog w r b0 30 v) (h : DataW.Trod enc Try.prog w base (fun _ => true) held 30 v d p) (hw : ∀ y ∈ d.weights Try.prog 30, y ≤ reachBytes) :
    ∃ (x : CallIn) (c3 : Value), CallOk x ∧ v = callV x c3 ∧ ReadsB w c3 x.d := by
  obtain ⟨cs, rfl, hsz5⟩ := okWide_struct Try.underlying30 hv
  obtain ⟨l⟩ := cs
  match l, hsz5.trans cellsCall with
  | [c0, c1, c2, c3, c4], _ =>
    obtain ⟨fuel, hf⟩ := h
    obtain ⟨x, hok, rfl, rfl, rfl, hr, rfl⟩ := open_call (by simpa [Value.cells] using hf) hw
    exact ⟨x, c3, hok, rfl, hr⟩

theorem open_calls {H : Type} {enc : TypeId × Value → H} {w : World} {base : Nat} {held : Bool} {r : Reach} {b0 : Nat} {v : Value} {d : DataW H} {p : List MemPlace}
    (hv : Value.okWide Try.prog w r b0 22 v) (h : DataW.Trod enc Try.prog w base (fun _ => true) held 22 v d p) (hw : ∀ y ∈ d.weights Try.prog 22, y ≤ reachBytes) :
    ∃ xs, ReadsCalls w v xs ∧ (∀ x ∈ xs, CallOk x) := by
  obtain ⟨a0, len, cap, rfl⟩ := okWide_slice Try.underlying22 hv
  obtain ⟨fuel, hf⟩ := h
  rcases Go.Deep.open_slice Try.underlying22 hf with ⟨hcs, hx⟩ | ⟨a, len', cap', m, n, D, Pl, hcs, _, hle, _, hm, hx, hel⟩
  · exact ⟨[], .inl ⟨by simpa [Value.cells] using hcs, rfl⟩, by simp⟩
  · have hlm : len' ≤ m := by rw [hm]; split <;> omega
    cases hx
    have hcs' : Value.slice a0 len cap = .slice (some a) len' cap' := by simpa [Value.cells] using hcs
    cases hcs'
    have each : ∀ i, i < len → ∃ x : CallIn, CallOk x ∧ ∃ c3, w.cell? (a.add (i * 5)) = some (.int .i64 x.k) ∧ w.cell? ((a.add (i * 5)).add 1) = some (.string x.s) ∧ w.cell? ((a.add (i * 5)).add 2) = some (.int .i64 x.a) ∧ w.cell? ((a.add (i * 5)).add 3) = some c3 ∧ w.cell? ((a.add (i * 5)).add 4) = some (.int .i64 x.n) ∧ ReadsB w c3 x.d := by
      intro i hi
      obtain ⟨cs', h1, h2⟩ := hel i (by omega)
      rw [cellsCall] at h1
      obtain ⟨_, hlen, hcell⟩ := World.cells?_some h1
      match cs', hlen with
      | [c0, c1, c2, c3, c4], _ =>
        obtain ⟨x, hok, rfl, rfl, rfl, hr, rfl⟩ := open_call h2 (fun y hy => hw y (by
          rw [DataW.weights, Try.underlying22]
          exact List.mem_cons_of_mem _ (List.mem_append_left _ (mem_weightsAll (List.mem_map.2 ⟨i, List.mem_range.2 hi, rfl⟩) hy))))
        exact ⟨x, hok, c3, hcell 0 (by omega), hcell 1 (by omega), hcell 2 (by omega), hcell 3 (by omega), hcell 4 (by omega), hr⟩
    obtain ⟨F, hF⟩ := Go.Deep.choose_lt each
    refine ⟨(List.range len).map F, ?_, fun x hx => ?_⟩
    · refine .inr ⟨a, cap, by simp, fun i hi => ?_⟩
      have hi' : i < len := by simpa using hi
      obtain ⟨_, c3, e0, e1, e2, e3, e4, e5⟩ := hF i hi'
      obtain ⟨bk, off, spot⟩ := a
      have hspot : spot = none := by
        obtain ⟨_, _, e0, _⟩ := hF 0 (by omega)
        simpa [Addr.add] using World.cell?_spot e0
      subst hspot
      rw [Go.WideShapes.add_plain] at e0 e1 e2 e3 e4
      rw [Go.WideShapes.add_plain] at e1 e2 e3 e4
      simp only [List.getElem_map, List.getElem_range]
      exact ⟨bk, off, rfl, c3, e0, e1, e2, e3, e4, e5⟩
    · obtain ⟨i, hi, rfl⟩ := List.mem_map.1 hx
      exact (hF i (List.mem_range.1 hi)).1
end Go.Proofs.Ytbbbdhpihcbmmaa
