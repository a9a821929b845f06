/- Acts that came in: one by value, and a slice of them. -/
import Derived.Test.YtjlbamjebidhgaaBytesIn
import Derived.Test.YtjlbamjebidhgaaRepeat
import Derived.Lib.SmallJoins
import Derived.Deep.Slices
import Derived.Deep.Grids
namespace Go.Proofs.Ytjlbamjebidhgaa
open Go.RowKit Own
open Go.ChangeShapes Go.WideShapes Go.ChangeAt

structure ActIn where
  d : Int
  a : Int
  l : List UInt8
  x : UInt8
  cs : List Bool
instance : Inhabited ActIn := ⟨⟨0, 0, [], 0, []⟩⟩
structure ActOk (x : ActIn) : Prop where
  a : (Lit.int .i64 x.a).wf = true
  l : x.l.length ≤ 140737488351232
  cs : x.cs.length ≤ 140737488351232
def ActAt (w : World) (blk o : Nat) (x : ActIn) : Prop :=
  ∃ v c, w.cell? ⟨blk, o, none⟩ = some (.int .i64 x.d) ∧ w.cell? ⟨blk, o + 1, none⟩ = some (.int .i64 x.a) ∧ w.cell? ⟨blk, o + 2, none⟩ = some v ∧ w.cell? ⟨blk, o + 3, none⟩ = some (.int .u8 (x.x.toNat : Int)) ∧ w.cell? ⟨blk, o + 4, none⟩ = some c ∧ ReadsB w v x.l ∧ ReadsC w c x.cs
def ReadsActs (w : World) (v : Value) (xs : List ActIn) : Prop :=
  (v = .slice none 0 0 ∧ xs = []) ∨ ∃ a c, v = .slice (some a) xs.length c ∧ ∀ i (hi : i < xs.length), ∃ b off, a = ⟨b, off, none⟩ ∧ ActAt w b (off + i * 5) (xs[i]'hi)
theorem ActAt.below {w w1 : World} {blk o : Nat} {x : ActIn} (h : ActAt w blk o x) (hb : Below w.heap.size w w1) : ActAt w1 blk o x := by
  obtain ⟨v, c, h0, h1, h2, h3, h4, h5, h6⟩ := h
  have hlt : blk < w.heap.size := World.block_lt_of_cell? w _ h0
  exact ⟨v, c, (hb.cell hlt).trans h0, (hb.cell hlt).trans h1, (hb.cell hlt).trans h2, (hb.cell hlt).trans h3, (hb.cell hlt).trans h4, h5.below hb, h6.below hb⟩
theorem ReadsActs.below {w w1 : World} {v : Value} {xs : List ActIn} (h : ReadsActs w v xs) (hb : Below w.heap.size w w1) : ReadsActs w1 v xs := by
  rcases h with h | ⟨a, c, hv, hc⟩
  · exact .inl h
  · refine .inr ⟨a, c, hv, fun i hi => ?_⟩
    obtain ⟨b, off, ha, h⟩ := hc i hi
    exact ⟨b, off, ha, h.below hb⟩
theorem ReadsActs.slice {w : World} {v : Value} {xs : List ActIn} (h : ReadsActs w v xs) : ∃ A c, v = .slice A xs.length c := by
  rcases h with ⟨rfl, rfl⟩ | ⟨a, c, rfl, _⟩
  · exact ⟨none, 0, rfl⟩
  · exact ⟨_, c, rfl⟩
theorem ReadsActs.at_ {w : World} {v : Value} {xs : List ActIn} (h : ReadsActs w v xs) {i : Nat} (hi : i < xs.length) : ∃ b off c, v = .slice (some ⟨b, off, none⟩) xs.length c ∧ ActAt w b (off + i * 5) (xs[i]'hi) := by
  rcases h with ⟨_, rfl⟩ | ⟨a, c, rfl, hc⟩
  · cases hi
  · obtain ⟨b, off, rfl, h⟩ := hc i hi
    exact ⟨b, off, c, rfl, h⟩

theorem cellsAct : Try.prog.cellsOf 31 = 5 := by kernel_rfl
theorem cellsI : Try.prog.cellsOf 3 = 1 := by kernel_rfl
theorem cellsB : Try.prog.cellsOf 23 = 1 := by kernel_rfl
theorem cellsU : Try.prog.cellsOf 5 = 1 := by kernel_rfl
theorem cellsC : Try.prog.cellsOf 29 = 1 := by kernel_rfl
theorem cellsT : Try.prog.cellsOf 4 = 1 := by kernel_rfl
theorem bytesAct : Try.prog.bytesOf 31 = 72 := by kernel_rfl
theorem bytesBool : Try.prog.bytesOf 4 = 1 := by kernel_rfl
theorem mem_weightsAll {H : Type} {P : Program} {e : TypeId} {d : DataW H} {x : Nat} : ∀ {ds : List (DataW H)}, d ∈ ds → x ∈ d.weights P e → x ∈ DataW.weightsAll P e ds
  | d0 :: ds, hd, hx => by
    rw [DataW.weightsAll, List.mem_append]
    rcases List.mem_cons.1 hd with rfl | hd
    · exact .inl hx
    · exact .inr (mem_weightsAll hd hx)

theorem open_flags1 {H : Type} {enc : TypeId × Value → H} {w : World} {base : Nat} {held : Bool} {fuel : Nat} {v : Value} {x : DataW H × List MemPlace}
    (hf : DataW.trod enc Try.prog w base (fun _ => true) held fuel 29 [v] = some x) (hw : ∀ y ∈ x.1.weights Try.prog 29, y ≤ reachBytes) :
    ∃ l, ReadsC w v l ∧ l.length ≤ 140737488351232 := by
  rcases Go.Deep.open_bools Try.underlying29 Try.underlying4 cellsT hf with ⟨hcs, rfl⟩ | ⟨a, len, cap, B, hcs, _, hle, _, rfl, hcell⟩
  · simp only [List.cons.injEq, and_true] at hcs
    exact ⟨[], .inl ⟨hcs, rfl⟩, by simp⟩
  · simp only [List.cons.injEq, and_true] at hcs
    refine ⟨(List.range len).map B, .inr ⟨a, cap, by simpa using hcs, fun j u hu => ?_⟩, ?_⟩
    · simp only [boolV, List.map_map, List.getElem?_map, Option.map_eq_some_iff] at hu
      obtain ⟨z, hz, rfl⟩ := hu
      have hj : j < len := by have := (List.getElem?_eq_some_iff.1 hz).1; simpa using this
      have : z = j := by
        have := (List.getElem?_eq_some_iff.1 hz).2
        simpa using this.symm
      subst this
      exact hcell _ (by omega)
    · have := hw ((len + (cap - len)) * Try.prog.bytesOf 4) (by simp [DataW.weights, Go.Deep.boolRow, Try.underlying29])
      rw [bytesBool] at this
      simp only [reachBytes] at this
      simp only [List.length_map, List.length_range]
      omega

theorem trod_struct5 {H : Type} {enc : TypeId × Value → H} {P : Program} {w : World} {base : Nat} {spare : Nat → Bool} {held : Bool} {t : TypeId} {f0 f1 f2 f3 f4 : Field} {fuel : Nat} {cs : List Value} {x : DataW H × List MemPlace}
    (ht : P.underlying t = some (.struct #[f0, f1, f2, f3, f4])) (h : DataW.trod enc P w base spare held fuel t cs = some x) :
    ∃ y0 y1 y2 y3 y4 n, x = (.agg [y0.1, y1.1, y2.1, y3.1, y4.1], y0.2 ++ (y1.2 ++ (y2.2 ++ (y3.2 ++ y4.2)))) ∧ DataW.trod enc P w base spare held n f0.type ((cs.drop f0.offset).take (P.cellsOf f0.type)) = some y0 ∧
      DataW.trod enc P w base spare held n f1.type ((cs.drop f1.offset).take (P.cellsOf f1.type)) = some y1 ∧ DataW.trod enc P w base spare held n f2.type ((cs.drop f2.offset).take (P.cellsOf f2.type)) = some y2 ∧
      DataW.trod enc P w base spare held n f3.type ((cs.drop f3.offset).take (P.cellsOf f3.type)) = some y3 ∧ DataW.trod enc P w base spare held n f4.type ((cs.drop f4.offset).take (P.cellsOf f4.type)) = some y4 := by
  obtain ⟨ys, n, _, rfl, _, hlen, hf⟩ := DataW.trod_struct ht h
  match ys, hlen with
  | [y0, y1, y2, y3, y4], _ => exact ⟨y0, y1, y2, y3, y4, n, by simp, by simpa using hf 0 f0 rfl, by simpa using hf 1 f1 rfl, by simpa using hf 2 f2 rfl, by simpa using hf 3 f3 rfl, by simpa using hf 4 f4 rfl⟩

theorem open_act {H : Type} {enc : TypeId × Value → H} {w : World} {base : Nat} {held : Bool} {n : Nat} {c0 c1 c2 c3 c4 : Value} {x : DataW H × List MemPlace}
    (h : DataW.trod enc Try.prog w base (fun _ => true) held n 31 [c0, c1, c2, c3, c4] = some x) (hw : ∀ y ∈ x.1.weights Try.prog 31, y ≤ reachBytes) :
    ∃ r : ActIn, ActOk r ∧ c0 = .int .i64 r.d ∧ c1 = .int .i64 r.a ∧ ReadsB w c2 r.l ∧ c3 = .int .u8 (r.x.toNat : Int) ∧ ReadsC w c4 r.cs := by
  obtain ⟨y0, y1, y2, y3, y4, m, rfl, t0, t1, t2, t3, t4⟩ := trod_struct5 Try.underlying31 h
  simp only [cellsI, cellsB, cellsU, cellsC, List.drop_zero, List.drop_succ_cons, List.take_succ_cons, List.take_zero] at t0 t1 t2 t3 t4
  obtain ⟨a0, hc0, _⟩ := DataW.trod_int Try.underlying3 t0
  obtain ⟨a1, hc1, _, w1⟩ := DataW.trod_int Try.underlying3 t1
  obtain ⟨a3, hc3, _, w3⟩ := DataW.trod_int Try.underlying5 t3
  obtain rfl : c0 = .int .i64 a0 := by simpa using hc0
  obtain rfl : c1 = .int .i64 a1 := by simpa using hc1
  obtain rfl : c3 = .int .u8 a3 := by simpa using hc3
  obtain ⟨l, hl, hd⟩ := open_bytes1 t2
  obtain ⟨cs, hcs, hcl⟩ := open_flags1 t4 (fun y hy => hw y (by
    rw [DataW.weights, Try.underlying31]
    exact DataW.weights_mem_each (j := 4) rfl rfl y hy))
  refine ⟨⟨a0, a1, l, UInt8.ofNat a3.toNat, cs⟩, ⟨w1, sized_bytes hd fun y hy => hw y ?_, hcl⟩, rfl, rfl, hl, ?_, hcs⟩
  · rw [DataW.weights, Try.underlying31]
    exact DataW.weights_mem_each (j := 2) rfl rfl y hy
  · rw [toNat_ofNat (wf_u8 w3)]

theorem open_act_val {H : Type} {enc : TypeId × Value → H} {w : World} {base : Nat} {held : Bool} {r : Reach} {b0 : Nat} {v : Value} {d : DataW H} {p : List MemPlace}
    (hv : Value.okWide Try.prog w r b0 31 v) (h : DataW.Trod enc Try.prog w base (fun _ => true) held 31 v d p) (hw : ∀ y ∈ d.weights Try.prog 31, y ≤ reachBytes) :
    ∃ (x : ActIn) (c2 c4 : Value), ActOk x ∧ v = .agg #[.int .i64 x.d, .int .i64 x.a, c2, .int .u8 (x.x.toNat : Int), c4] ∧ ReadsB w c2 x.l ∧ ReadsC w c4 x.cs := by
  obtain ⟨cs, rfl, hsz5⟩ := okWide_struct Try.underlying31 hv
  obtain ⟨l⟩ := cs
  match l, hsz5.trans cellsAct with
  | [c0, c1, c2, c3, c4], _ =>
    obtain ⟨fuel, hf⟩ := h
    obtain ⟨x, hok, rfl, rfl, hr, rfl, hrc⟩ := open_act (by simpa [Value.cells] using hf) hw
    exact ⟨x, c2, c4, hok, rfl, hr, hrc⟩

theorem open_acts {H : Type} {enc : TypeId × Value → H} {w : World} {base : Nat} {held : Bool} {r : Reach} {b0 : Nat} {v : Value} {d : DataW H} {p : List MemPlace}
    (hv : Value.okWide Try.prog w r b0 22 v) (h : DataW.Trod enc Try.prog w base (fun _ => true) held 22 v d p) (hw : ∀ y ∈ d.weights Try.prog 22, y ≤ reachBytes) :
    ∃ xs, ReadsActs w v xs ∧ (∀ x ∈ xs, ActOk x) ∧ xs.length ≤ 140737488351232 := by
  obtain ⟨a0, len, cap, rfl⟩ := okWide_slice Try.underlying22 hv
  obtain ⟨fuel, hf⟩ := h
  rcases Go.Deep.open_slice Try.underlying22 hf with ⟨hcs, hx⟩ | ⟨a, len', cap', m, n, D, Pl, hcs, _, hle, _, hm, hx, hel⟩
  · exact ⟨[], .inl ⟨by simpa [Value.cells] using hcs, rfl⟩, by simp, by simp⟩
  · have hlm : len' ≤ m := by rw [hm]; split <;> omega
    cases hx
    have hcs' : Value.slice a0 len cap = .slice (some a) len' cap' := by simpa [Value.cells] using hcs
    cases hcs'
    have each : ∀ i, i < len → ∃ x : ActIn, ActOk x ∧ ∃ c2 c4, w.cell? (a.add (i * 5)) = some (.int .i64 x.d) ∧ w.cell? ((a.add (i * 5)).add 1) = some (.int .i64 x.a) ∧ w.cell? ((a.add (i * 5)).add 2) = some c2 ∧ w.cell? ((a.add (i * 5)).add 3) = some (.int .u8 (x.x.toNat : Int)) ∧ w.cell? ((a.add (i * 5)).add 4) = some c4 ∧ ReadsB w c2 x.l ∧ ReadsC w c4 x.cs := by
      intro i hi
      obtain ⟨cs', h1, h2⟩ := hel i (by omega)
      rw [cellsAct] at h1
      obtain ⟨_, hlen, hcell⟩ := World.cells?_some h1
      match cs', hlen with
      | [c0, c1, c2, c3, c4], _ =>
        obtain ⟨x, hok, rfl, rfl, hr, rfl, hrc⟩ := open_act h2 (fun y hy => hw y (by
          rw [DataW.weights, Try.underlying22]
          exact List.mem_cons_of_mem _ (List.mem_append_left _ (mem_weightsAll (List.mem_map.2 ⟨i, List.mem_range.2 hi, rfl⟩) hy))))
        exact ⟨x, hok, c2, c4, hcell 0 (by omega), hcell 1 (by omega), hcell 2 (by omega), hcell 3 (by omega), hcell 4 (by omega), hr, hrc⟩
    obtain ⟨F, hF⟩ := Go.Deep.choose_lt each
    refine ⟨(List.range len).map F, ?_, fun x hx => ?_, ?_⟩
    · refine .inr ⟨a, cap, by simp, fun i hi => ?_⟩
      have hi' : i < len := by simpa using hi
      obtain ⟨_, c2, c4, e0, e1, e2, e3, e4, e5, e6⟩ := hF i hi'
      obtain ⟨bk, off, spot⟩ := a
      have hspot : spot = none := by
        obtain ⟨_, _, _, e0, _⟩ := hF 0 (by omega)
        simpa [Addr.add] using World.cell?_spot e0
      subst hspot
      rw [Go.WideShapes.add_plain] at e0 e1 e2 e3 e4
      rw [Go.WideShapes.add_plain] at e1 e2 e3 e4
      simp only [List.getElem_map, List.getElem_range]
      exact ⟨bk, off, rfl, c2, c4, e0, e1, e2, e3, e4, e5, e6⟩
    · obtain ⟨i, hi, rfl⟩ := List.mem_map.1 hx
      exact (hF i (List.mem_range.1 hi)).1
    · have h1 := hw (((List.range len).length + (m - len)) * Try.prog.bytesOf 31) (by simp [DataW.weights, Try.underlying22])
      rw [bytesAct] at h1
      simp only [reachBytes, List.length_range] at h1
      simp only [List.length_map, List.length_range]
      omega
end Go.Proofs.Ytjlbamjebidhgaa
