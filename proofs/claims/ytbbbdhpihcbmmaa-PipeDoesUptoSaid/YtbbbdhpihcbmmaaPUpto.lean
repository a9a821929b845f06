/- A call that comes in, of little bulk: its name is short. -/
import Derived.Test.YtbbbdhpihcbmmaaPCalls
import Derived.Test.YtbbbdhpihcbmmaaRows
namespace Go.Proofs.Ytbbbdhpihcbmmaa
open Go.RowKit Own
open Go.ChangeShapes Go.WideShapes Go.ChangeAt

theorem open_call_bulk {H : Type} {enc : TypeId × Value → H} {w : World} {base : Nat} {held : Bool} {n : Nat} {c0 c1 c2 c3 c4 : Value} {x : DataW H × List MemPlace}
    (h : DataW.trod enc Try.prog w base (fun _ => true) held n 30 [c0, c1, c2, c3, c4] = some x) (s : ByteArray) (hs : c1 = .string s) : s.size ≤ Rows.uptoBulk x.1 := by
  obtain ⟨y0, y1, y2, y3, y4, m, rfl, t0, t1, t2, t3, t4⟩ := trod_struct5 Try.underlying30 h
  simp only [cellsS, List.drop_succ_cons, List.drop_zero, List.take_succ_cons, List.take_zero] at t1
  obtain ⟨s1, hc1, hx1, _⟩ := DataW.trod_string Try.underlying9 t1
  obtain rfl : c1 = .string s1 := by simpa using hc1
  cases hs
  have hz : s.size = s.data.toList.length := by show s.data.size = _; simp
  have hb : Rows.uptoBulk y1.1 = s.data.toList.length + 1 := by rw [hx1]; simp [Rows.uptoBulk]
  simp only [Rows.uptoBulk, Rows.uptoBulkAll, hb]
  omega

theorem open_call_val_bulk {H : Type} {enc : TypeId × Value → H} {w : World} {base : Nat} {held : Bool} {r : Reach} {b0 : Nat} {v : Value} {d : DataW H} {p : List MemPlace}
    (hv : Value.okWide Try.prog w r b0 30 v) (h : DataW.Trod enc Try.prog w base (fun _ => true) held 30 v d p) (hw : ∀ y ∈ d.weights Try.prog 30, y ≤ reachBytes) :
    ∃ (x : CallIn) (c3 : Value), CallOk x ∧ v = callV x c3 ∧ ReadsB w c3 x.d ∧ x.s.size ≤ Rows.uptoBulk d := by
  obtain ⟨cs, rfl, hsz5⟩ := okWide_struct Try.underlying30 hv
  obtain ⟨l⟩ := cs
  match l, hsz5.trans cellsCall with
  | [c0, c1, c2, c3, c4], _ =>
    obtain ⟨fuel, hf⟩ := h
    have hf' : DataW.trod enc Try.prog w base (fun _ => true) held fuel 30 [c0, c1, c2, c3, c4] = some (d, p) := by simpa [Value.cells] using hf
    have hb := open_call_bulk hf'
    obtain ⟨x, hok, rfl, rfl, rfl, hr, rfl⟩ := open_call hf' hw
    exact ⟨x, c3, hok, rfl, hr, hb x.s rfl⟩
end Go.Proofs.Ytbbbdhpihcbmmaa
