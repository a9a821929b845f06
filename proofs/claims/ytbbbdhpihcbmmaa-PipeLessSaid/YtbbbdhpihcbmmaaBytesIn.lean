/- A slice of bytes that came in; and the call's own copy of it. -/
import Derived.Test.YtbbbdhpihcbmmaaClone
import Derived.ProofKit
import Derived.OpenShut
import Derived.SizedLaws
import Derived.Maps.AppendAt
namespace Go.Proofs.Ytbbbdhpihcbmmaa
open Go.RowKit Own
open Go.ChangeShapes Go.WideShapes Go.ChangeAt

theorem wf_u8 {n : Int} (h : (Lit.int .u8 n).wf = true) : 0 ≤ n ∧ n < 256 := by
  simp [Lit.wf, IntKind.min, IntKind.max, IntKind.signed, IntKind.bits] at h
  omega
theorem cellsByte : Try.prog.cellsOf 5 = 1 := by kernel_rfl
theorem bytesByte : Try.prog.bytesOf 5 = 1 := by kernel_rfl
theorem toNat_ofNat {z : Int} (h : 0 ≤ z ∧ z < 256) : ((UInt8.ofNat z.toNat).toNat : Int) = z := by
  simp [UInt8.toNat_ofNat']; omega

/-- '[]byte' that came in: its bytes, its datum's length -/
theorem open_bytes1 {H : Type} {enc : TypeId × Value → H} {w : World} {base : Nat} {spare : Nat → Bool} {held : Bool} {fuel : Nat} {v : Value} {x : DataW H × List MemPlace}
    (hf : DataW.trod enc Try.prog w base spare held fuel 23 [v] = some x) :
    ∃ l, ReadsB w v l ∧ (x.1 = .nil ∧ l = [] ∨ ∃ el sp, x.1 = .slice el sp ∧ el.length = l.length) := by
  rcases open_ints Try.underlying23 Try.underlying5 cellsByte hf with ⟨hcs, rfl⟩ | ⟨a, len', cap', zs, hcs, _, hle, hmax, hall, rfl, hcell, hwf⟩
  · simp only [List.cons.injEq, and_true] at hcs
    exact ⟨[], .inl ⟨hcs, rfl⟩, .inl ⟨rfl, rfl⟩⟩
  · simp only [List.cons.injEq, and_true] at hcs
    have hzl : len' ≤ zs.length := by rw [hall]; split <;> omega
    refine ⟨(zs.take len').map fun z => UInt8.ofNat z.toNat, .inr ⟨a, cap', ?_, ?_⟩, .inr ⟨_, _, rfl, ?_⟩⟩
    · simp only [List.length_map, List.length_take, Nat.min_eq_left hzl]
      exact hcs
    · intro j u hu
      simp only [u8s, List.map_map, List.getElem?_map, Option.map_eq_some_iff] at hu
      obtain ⟨z, hz, rfl⟩ := hu
      rw [List.getElem?_take] at hz
      split at hz
      · rw [hcell j (by omega)]
        have hzm : z ∈ zs := List.mem_of_getElem? hz
        have : zs.getD j 0 = z := by simp [List.getD, hz]
        rw [this]
        simp only [Function.comp]
        rw [toNat_ofNat (wf_u8 (hwf z hzm))]
      · cases hz
    · simp [ChangeShapes.lits]
theorem open_bytes {H : Type} {enc : TypeId × Value → H} {w : World} {base : Nat} {spare : Nat → Bool} {held : Bool} {r : Reach} {b0 : Nat} {v : Value} {d : DataW H} {p : List MemPlace}
    (hv : Value.okWide Try.prog w r b0 23 v) (h : DataW.Trod enc Try.prog w base spare held 23 v d p) :
    ∃ l, ReadsB w v l ∧ (d = .nil ∧ l = [] ∨ ∃ el sp, d = .slice el sp ∧ el.length = l.length) := by
  obtain ⟨a0, len, cap, rfl⟩ := okWide_slice Try.underlying23 hv
  obtain ⟨fuel, hf⟩ := h
  exact open_bytes1 hf
theorem sized_bytes {H : Type} {d : DataW H} {l : List UInt8} (h : d = .nil ∧ l = [] ∨ ∃ el sp, d = .slice el sp ∧ el.length = l.length) (hw : ∀ y ∈ d.weights Try.prog 23, y ≤ reachBytes) : l.length ≤ 140737488351232 := by
  rcases h with ⟨_, rfl⟩ | ⟨el, sp, rfl, hel⟩
  · simp
  · have := hw ((el.length + sp.length) * Try.prog.bytesOf 5) (by simp [DataW.weights, Try.underlying23])
    rw [bytesByte] at this
    simp only [reachBytes] at this
    omega

/-- 'string(b)' -/
theorem conv_reads {w : World} {v : Value} {l : List UInt8} (h : ReadsB w v l) : (convert 23 9 v).run Try.prog w = .ok (.string ⟨l.toArray⟩) w := by
  rcases h with ⟨rfl, rfl⟩ | ⟨a, c, rfl, hc⟩
  · exact run_convert_bytes_nil w 23 5 Try.underlying23 Try.underlying5 0 0 9 Try.underlying9
  · exact run_convert_bytes_back w 23 9 5 a c l Try.underlying23 Try.underlying5 Try.underlying9 (fun j hj => hc j _ (by simp [u8s, hj]))

/-- an append whose run is known -/
theorem wpList_append_run {P : Program} {ops : Array Oper} {rest : List Oper} {o : Oper} {a : Act} {Q : Exit → Act → World → Prop} {W W' : World} {s x : Operand} {t : TypeId} {v y v' : Value}
    (hgd : o.guard = none) (ho : o.op = .call { callee := .builtin .append, args := #[s, x], argTypes := #[t, t] }) (hs : a.eval s = v) (hx : a.eval x = y)
    (hr : (Builtin.append_ #[t, t] o.type #[v, y]).run P W = .ok v' W') (h : wpList P ops Q rest (a.put o.dst v') W') : wpList P ops Q (o :: rest) a W := by
  refine wpList_plain hgd fun K' hK' => ?_
  unfold Oper.wp execOp
  simp only [ho, resolve, invoke, builtin, Sem.run_bind, Sem.run_pure, Result.andThen_ok, List.map_toArray, List.map_cons, List.map_nil, hs, hx, hr]
  exact hK' _ _ h

/-- 'append([]byte{}, b...)' -/
theorem own_copy (v : Value) (l : List UInt8) (w : World) (h : ReadsB w v l) (hl : l.length ≤ 140737488351232) :
    ∃ ov wA, (Builtin.append_ #[23, 23] 23 #[.slice (some ⟨w.heap.size, 0, none⟩) 0 0, v]).run Try.prog (w.alloc (.cells #[] 5)) = .ok ov wA ∧
      wA.ownsRow w.heap.size 5 1 ov l.length (u8s l) ∧ Below w.heap.size w wA := by
  obtain ⟨i0, hi, hz0, hz1, hz2⟩ := info_parts infoByte
  have hmade : (w.alloc (.cells #[] 5)).ownsRow w.heap.size 5 1 (.slice (some ⟨w.heap.size, 0, none⟩) 0 0) 0 [] :=
    World.ownsRow_made w #[] 0 (Nat.le_refl _) (by unfold maxLen; omega) rfl
  have hbel : Below w.heap.size w (w.alloc (.cells #[] 5)) := (Below.refl _ _).alloc (Nat.le_refl _) _
  have hsz : w.heap.size ≤ (w.alloc (.cells #[] 5)).heap.size := hbel.size
  rcases h with ⟨rfl, rfl⟩ | ⟨a, c, rfl, hc⟩
  · refine ⟨.slice (some ⟨w.heap.size, 0, none⟩) 0 0, _, ?_, hmade, hbel⟩
    simp [Builtin.append_, run_underlying Try.underlying23, Result.andThen, Builtin.lenOf, Builtin.firstCells, storeCells]
  · have hc2 : ∀ j u, (u8s l)[j]? = some u → (w.alloc (.cells #[] 5)).cell? (a.add j) = some u := fun j u hu => by
      have h1 := hc j u hu
      rw [hbel.cell (p := a.add j) (World.block_lt_of_cell? w _ h1)]
      exact h1
    obtain ⟨v1, w1, hr, hown, hg, _, _⟩ := run_append_own_at (P := Try.prog) (w.alloc (.cells #[] 5)) w.heap.size 23 23 5 i0 (.int .u8 0) 1 1 Try.underlying23 hi hz0 hz1 hz2 rfl (by decide) _ 0 [] hmade a l.length c (u8s l) (by rw [u8s_length]; omega) hc2 (u8s_one l) (by unfold maxLen; omega) (by omega) hsz
    exact ⟨v1, w1, hr, by simpa using hown, hbel.grown hg hsz (fun k hk => (hmade.lt k hk).1)⟩
end Go.Proofs.Ytbbbdhpihcbmmaa
