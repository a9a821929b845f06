/- A call that comes in, of little bulk: its name is short. Calls that came in, of little bulk: few, and their names short. -/
import Derived.Test.YtbbbdhpihcbmmaaPCalls
import Derived.Test.YtbbbdhpihcbmmaaRows
namespace Go.Proofs.Ytbbbdhpihcbmmaa
open Go.RowKit Own
open Go.ChangeShapes Go.WideShapes Go.ChangeAt

theorem open_call_bulk {H : Type} {enc : TypeId × Value → H} {w : World} {base : Nat} {held : Bool} {n : Nat} {c0 c1 c2 c3 c4 : Value} {x : DataW H × List MemPlace}
    (h : DataW.trod enc Try.prog w base (fun _ => true) held n 30 [c0, c1, c2, c3, c4] = some x) (s : ByteArray) (hs : c1 = .string s) : s.size ≤ Rows.uptoBulk x.1 := by
  obtain ⟨y0, y1, y2, y3, y4, m, rfl, t0, t1, t2, t3, t4⟩ := trod_struct5 Try.underlying30 h
  simp only [cellsS, List.drop_succ_cons, List.drop_zero, List.take_succ_cons, List.take_zero] at t1
  obtain ⟨s1, hc1, hx1, _⟩ := DataW.trod_string Try.underlying9 t1
  obtain rfl : c1 = .string s1 := by simpa using hc1
  cases hs
  have hz : s.size = s.data.toList.length := by show s.data.size = _; simp
  have hb : Rows.uptoBulk y1.1 = s.data.toList.length + 1 := by rw [hx1]; simp [Rows.uptoBulk]
  simp only [Rows.uptoBulk, Rows.uptoBulkAll, hb]
  omega

theorem open_call_val_bulk {H : Type} {enc : TypeId × Value → H} {w : World} {base : Nat} {held : Bool} {r : Reach} {b0 : Nat} {v : Value} {d : DataW H} {p : List MemPlace}
    (hv : Value.okWide Try.prog w r b0 30 v) (h : DataW.Trod enc Try.prog w base (fun _ => true) held 30 v d p) (hw : ∀ y ∈ d.weights Try.prog 30, y ≤ reachBytes) :
    ∃ (x : CallIn) (c3 : Value), CallOk x ∧ v = callV x c3 ∧ ReadsB w c3 x.d ∧ x.s.size ≤ Rows.uptoBulk d := by
  obtain ⟨cs, rfl, hsz5⟩ := okWide_struct Try.underlying30 hv
  obtain ⟨l⟩ := cs
  match l, hsz5.trans cellsCall with
  | [c0, c1, c2, c3, c4], _ =>
    obtain ⟨fuel, hf⟩ := h
    have hf' : DataW.trod enc Try.prog w base (fun _ => true) held fuel 30 [c0, c1, c2, c3, c4] = some (d, p) := by simpa [Value.cells] using hf
    have hb := open_call_bulk hf'
    obtain ⟨x, hok, rfl, rfl, rfl, hr, rfl⟩ := open_call hf' hw
    exact ⟨x, c3, hok, rfl, hr, hb x.s rfl⟩
end Go.Proofs.Ytbbbdhpihcbmmaa
namespace Go.Proofs.Ytbbbdhpihcbmmaa
open Go.RowKit Own
open Go.ChangeShapes Go.WideShapes Go.ChangeAt

theorem bulk_pos {H : Type} (d : DataW H) : 1 ≤ Rows.uptoBulk d := by
  cases d with
  | lit l => cases l <;> simp [Rows.uptoBulk]
  | _ => simp [Rows.uptoBulk]
theorem bulkAll_mem {H : Type} {d : DataW H} : ∀ {ds : List (DataW H)}, d ∈ ds → Rows.uptoBulk d ≤ Rows.uptoBulkAll ds
  | e :: ds, h => by
    rw [Rows.uptoBulkAll]
    rcases List.mem_cons.1 h with rfl | h
    · omega
    · have := bulkAll_mem h; omega
theorem bulkAll_len {H : Type} : ∀ ds : List (DataW H), ds.length ≤ Rows.uptoBulkAll ds
  | [] => Nat.zero_le _
  | e :: ds => by
    have h1 := bulkAll_len ds
    have h2 := bulk_pos e
    rw [Rows.uptoBulkAll, List.length_cons]; omega
theorem open_calls_bulk {H : Type} {enc : TypeId × Value → H} {w : World} {base : Nat} {held : Bool} {r : Reach} {b0 : Nat} {v : Value} {d : DataW H} {p : List MemPlace}
    (hv : Value.okWide Try.prog w r b0 22 v) (h : DataW.Trod enc Try.prog w base (fun _ => true) held 22 v d p) (hw : ∀ y ∈ d.weights Try.prog 22, y ≤ reachBytes) :
    ∃ xs, ReadsCalls w v xs ∧ (∀ x ∈ xs, CallOk x ∧ x.s.size ≤ Rows.uptoBulk d) ∧ xs.length ≤ Rows.uptoBulk d := by
  obtain ⟨a0, len, cap, rfl⟩ := okWide_slice Try.underlying22 hv
  obtain ⟨fuel, hf⟩ := h
  rcases Go.Deep.open_slice Try.underlying22 hf with ⟨hcs, hx⟩ | ⟨a, len', cap', m, n, D, Pl, hcs, _, hle, _, hm, hx, hel⟩
  · exact ⟨[], .inl ⟨by simpa [Value.cells] using hcs, rfl⟩, by simp, Nat.zero_le _⟩
  · have hlm : len' ≤ m := by rw [hm]; split <;> omega
    cases hx
    have hcs' : Value.slice a0 len cap = .slice (some a) len' cap' := by simpa [Value.cells] using hcs
    cases hcs'
    have each : ∀ i, i < len → ∃ x : CallIn, (CallOk x ∧ x.s.size ≤ Rows.uptoBulk (D i)) ∧ ∃ c3, w.cell? (a.add (i * 5)) = some (.int .i64 x.k) ∧ w.cell? ((a.add (i * 5)).add 1) = some (.string x.s) ∧ w.cell? ((a.add (i * 5)).add 2) = some (.int .i64 x.a) ∧ w.cell? ((a.add (i * 5)).add 3) = some c3 ∧ w.cell? ((a.add (i * 5)).add 4) = some (.int .i64 x.n) ∧ ReadsB w c3 x.d := by
      intro i hi
      obtain ⟨cs', h1, h2⟩ := hel i (by omega)
      rw [cellsCall] at h1
      obtain ⟨_, hlen, hcell⟩ := World.cells?_some h1
      match cs', hlen with
      | [c0, c1, c2, c3, c4], _ =>
        have hbk := open_call_bulk h2
        obtain ⟨x, hok, rfl, rfl, rfl, hr, rfl⟩ := open_call h2 (fun y hy => hw y (by
          rw [DataW.weights, Try.underlying22]
          exact List.mem_cons_of_mem _ (List.mem_append_left _ (mem_weightsAll (List.mem_map.2 ⟨i, List.mem_range.2 hi, rfl⟩) hy))))
        exact ⟨x, ⟨hok, hbk x.s rfl⟩, c3, hcell 0 (by omega), hcell 1 (by omega), hcell 2 (by omega), hcell 3 (by omega), hcell 4 (by omega), hr⟩
    obtain ⟨F, hF⟩ := Go.Deep.choose_lt each
    refine ⟨(List.range len).map F, ?_, fun x hx => ?_, ?_⟩
    · refine .inr ⟨a, cap, by simp, fun i hi => ?_⟩
      have hi' : i < len := by simpa using hi
      obtain ⟨_, c3, e0, e1, e2, e3, e4, e5⟩ := hF i hi'
      obtain ⟨bk, off, spot⟩ := a
      have hspot : spot = none := by
        obtain ⟨_, _, e0, _⟩ := hF 0 (by omega)
        simpa [Addr.add] using World.cell?_spot e0
      subst hspot
      rw [Go.WideShapes.add_plain] at e0 e1 e2 e3 e4
      rw [Go.WideShapes.add_plain] at e1 e2 e3 e4
      simp only [List.getElem_map, List.getElem_range]
      exact ⟨bk, off, rfl, c3, e0, e1, e2, e3, e4, e5⟩
    · obtain ⟨i, hi, rfl⟩ := List.mem_map.1 hx
      have hi' := List.mem_range.1 hi
      have h1 := (hF i hi').1
      refine ⟨h1.1, Nat.le_trans h1.2 ?_⟩
      have := bulkAll_mem (ds := (List.range len).map D) (List.mem_map.2 ⟨i, hi, rfl⟩)
      simp only [Rows.uptoBulk]; omega
    · have := bulkAll_len ((List.range len).map D)
      simp only [Rows.uptoBulk, List.length_map, List.length_range] at this ⊢
      omega
end Go.Proofs.Ytbbbdhpihcbmmaa
