/- A slice of acts that came in. -/
import Derived.Test.YtlieepbmmfdeoaaBytesIn
import Derived.Lib.SmallJoins
import Derived.Deep.Slices
namespace Go.Proofs.Ytlieepbmmfdeoaa
open Go.RowKit Own
open Go.ChangeShapes Go.WideShapes Go.ChangeAt

structure ActIn where
  d : Int
  a : Int
  b : Int
  l : List UInt8
instance : Inhabited ActIn := ⟨⟨0, 0, 0, []⟩⟩
structure ActOk (x : ActIn) : Prop where
  a : (Lit.int .i64 x.a).wf = true
  b : (Lit.int .i64 x.b).wf = true
  l : x.l.length ≤ 140737488351232
def ActAt (w : World) (blk o : Nat) (x : ActIn) : Prop :=
  ∃ v, w.cell? ⟨blk, o, none⟩ = some (.int .i64 x.d) ∧ w.cell? ⟨blk, o + 1, none⟩ = some (.int .i64 x.a) ∧ w.cell? ⟨blk, o + 2, none⟩ = some (.int .i64 x.b) ∧ w.cell? ⟨blk, o + 3, none⟩ = some v ∧ ReadsB w v x.l
def ReadsActs (w : World) (v : Value) (xs : List ActIn) : Prop :=
  (v = .slice none 0 0 ∧ xs = []) ∨ ∃ a c, v = .slice (some a) xs.length c ∧ ∀ i (hi : i < xs.length), ∃ b off, a = ⟨b, off, none⟩ ∧ ActAt w b (off + i * 4) (xs[i]'hi)
theorem ActAt.below {w w1 : World} {blk o : Nat} {x : ActIn} (h : ActAt w blk o x) (hb : Below w.heap.size w w1) : ActAt w1 blk o x := by
  obtain ⟨v, h0, h1, h2, h3, h4⟩ := h
  have hlt : blk < w.heap.size := World.block_lt_of_cell? w _ h0
  exact ⟨v, (hb.cell hlt).trans h0, (hb.cell hlt).trans h1, (hb.cell hlt).trans h2, (hb.cell hlt).trans h3, h4.below hb⟩
theorem ReadsActs.below {w w1 : World} {v : Value} {xs : List ActIn} (h : ReadsActs w v xs) (hb : Below w.heap.size w w1) : ReadsActs w1 v xs := by
  rcases h with h | ⟨a, c, hv, hc⟩
  · exact .inl h
  · refine .inr ⟨a, c, hv, fun i hi => ?_⟩
    obtain ⟨b, off, ha, h⟩ := hc i hi
    exact ⟨b, off, ha, h.below hb⟩
theorem ReadsActs.slice {w : World} {v : Value} {xs : List ActIn} (h : ReadsActs w v xs) : ∃ A c, v = .slice A xs.length c := by
  rcases h with ⟨rfl, rfl⟩ | ⟨a, c, rfl, _⟩
  · exact ⟨none, 0, rfl⟩
  · exact ⟨_, c, rfl⟩
theorem ReadsActs.at_ {w : World} {v : Value} {xs : List ActIn} (h : ReadsActs w v xs) {i : Nat} (hi : i < xs.length) : ∃ b off c, v = .slice (some ⟨b, off, none⟩) xs.length c ∧ ActAt w b (off + i * 4) (xs[i]'hi) := by
  rcases h with ⟨_, rfl⟩ | ⟨a, c, rfl, hc⟩
  · cases hi
  · obtain ⟨b, off, rfl, h⟩ := hc i hi
    exact ⟨b, off, c, rfl, h⟩

theorem cellsAct : Try.prog.cellsOf 28 = 4 := by kernel_rfl
theorem cellsI : Try.prog.cellsOf 3 = 1 := by kernel_rfl
theorem cellsB : Try.prog.cellsOf 26 = 1 := by kernel_rfl
theorem mem_weightsAll {H : Type} {P : Program} {e : TypeId} {d : DataW H} {x : Nat} : ∀ {ds : List (DataW H)}, d ∈ ds → x ∈ d.weights P e → x ∈ DataW.weightsAll P e ds
  | d0 :: ds, hd, hx => by
    rw [DataW.weightsAll, List.mem_append]
    rcases List.mem_cons.1 hd with rfl | hd
    · exact .inl hx
    · exact .inr (mem_weightsAll hd hx)

theorem open_act {H : Type} {enc : TypeId × Value → H} {w : World} {base : Nat} {spare : Nat → Bool} {held : Bool} {n : Nat} {c0 c1 c2 c3 : Value} {x : DataW H × List MemPlace}
    (h : DataW.trod enc Try.prog w base spare held n 28 [c0, c1, c2, c3] = some x) (hw : ∀ y ∈ x.1.weights Try.prog 28, y ≤ reachBytes) :
    ∃ r : ActIn, ActOk r ∧ c0 = .int .i64 r.d ∧ c1 = .int .i64 r.a ∧ c2 = .int .i64 r.b ∧ ReadsB w c3 r.l := by
  obtain ⟨y0, y1, y2, y3, m, rfl, _, t0, t1, t2, t3⟩ := Go.Joins.trod_struct4 Try.underlying28 h
  simp only [cellsI, cellsB, List.drop_zero, List.drop_succ_cons, List.take_succ_cons, List.take_zero] at t0 t1 t2 t3
  obtain ⟨a0, hc0, _⟩ := DataW.trod_int Try.underlying3 t0
  obtain ⟨a1, hc1, _, w1⟩ := DataW.trod_int Try.underlying3 t1
  obtain ⟨a2, hc2, _, w2⟩ := DataW.trod_int Try.underlying3 t2
  obtain rfl : c0 = .int .i64 a0 := by simpa using hc0
  obtain rfl : c1 = .int .i64 a1 := by simpa using hc1
  obtain rfl : c2 = .int .i64 a2 := by simpa using hc2
  obtain ⟨l, hl, hd⟩ := open_bytes1 t3
  refine ⟨⟨a0, a1, a2, l⟩, ⟨w1, w2, sized_bytes hd fun y hy => hw y ?_⟩, rfl, rfl, rfl, hl⟩
  rw [DataW.weights, Try.underlying28]
  exact DataW.weights_mem_each (j := 3) rfl rfl y hy

theorem open_acts {H : Type} {enc : TypeId × Value → H} {w : World} {base : Nat} {spare : Nat → Bool} {held : Bool} {r : Reach} {b0 : Nat} {v : Value} {d : DataW H} {p : List MemPlace}
    (hv : Value.okWide Try.prog w r b0 22 v) (h : DataW.Trod enc Try.prog w base spare held 22 v d p) (hw : ∀ y ∈ d.weights Try.prog 22, y ≤ reachBytes) :
    ∃ xs, ReadsActs w v xs ∧ ∀ x ∈ xs, ActOk x := by
  obtain ⟨a0, len, cap, rfl⟩ := okWide_slice Try.underlying22 hv
  obtain ⟨fuel, hf⟩ := h
  rcases Go.Deep.open_slice Try.underlying22 hf with ⟨hcs, hx⟩ | ⟨a, len', cap', m, n, D, Pl, hcs, _, hle, _, hm, hx, hel⟩
  · exact ⟨[], .inl ⟨by simpa [Value.cells] using hcs, rfl⟩, fun x hx => by cases hx⟩
  · have hlm : len' ≤ m := by rw [hm]; split <;> omega
    cases hx
    have hcs' : Value.slice a0 len cap = .slice (some a) len' cap' := by simpa [Value.cells] using hcs
    cases hcs'
    have each : ∀ i, i < len → ∃ x : ActIn, ActOk x ∧ ∃ c3, w.cell? (a.add (i * 4)) = some (.int .i64 x.d) ∧ w.cell? ((a.add (i * 4)).add 1) = some (.int .i64 x.a) ∧ w.cell? ((a.add (i * 4)).add 2) = some (.int .i64 x.b) ∧ w.cell? ((a.add (i * 4)).add 3) = some c3 ∧ ReadsB w c3 x.l := by
      intro i hi
      obtain ⟨cs', h1, h2⟩ := hel i (by omega)
      rw [cellsAct] at h1
      obtain ⟨_, hlen, hcell⟩ := World.cells?_some h1
      match cs', hlen with
      | [c0, c1, c2, c3], _ =>
        obtain ⟨x, hok, rfl, rfl, rfl, hr⟩ := open_act h2 (fun y hy => hw y (by
          rw [DataW.weights, Try.underlying22]
          exact List.mem_cons_of_mem _ (List.mem_append_left _ (mem_weightsAll (List.mem_map.2 ⟨i, List.mem_range.2 hi, rfl⟩) hy))))
        exact ⟨x, hok, c3, hcell 0 (by omega), hcell 1 (by omega), hcell 2 (by omega), hcell 3 (by omega), hr⟩
    obtain ⟨F, hF⟩ := Go.Deep.choose_lt each
    refine ⟨(List.range len).map F, ?_, fun x hx => ?_⟩
    · refine .inr ⟨a, cap, by simp, fun i hi => ?_⟩
      have hi' : i < len := by simpa using hi
      obtain ⟨_, c3, e0, e1, e2, e3, e4⟩ := hF i hi'
      obtain ⟨bk, off, spot⟩ := a
      have hspot : spot = none := by
        obtain ⟨_, _, e0, _⟩ := hF 0 (by omega)
        simpa [Addr.add] using World.cell?_spot e0
      subst hspot
      rw [Go.WideShapes.add_plain] at e0 e1 e2 e3
      rw [Go.WideShapes.add_plain] at e1 e2 e3
      simp only [List.getElem_map, List.getElem_range]
      exact ⟨bk, off, rfl, c3, e0, e1, e2, e3, e4⟩
    · obtain ⟨i, hi, rfl⟩ := List.mem_map.1 hx
      exact (hF i (List.mem_range.1 hi)).1
end Go.Proofs.Ytlieepbmmfdeoaa
