/- BallotAgrees: whoever prepares, and whatever is lost, once a value is chosen no other one ever is: true of every number and every script. -/
import Derived.Test.YtaopfgoofhojeaaAgr3
import Derived.Test.YtaopfgoofhojeaaLaw
import Derived.Lib.SmallJoins
import Derived.Deep.Slices
namespace Go.Proofs.Ytaopfgoofhojeaa.ballotAgrees
open Go.RowKit Own
open Go.ChangeShapes Go.WideShapes Go.ChangeAt

theorem cellsStep : Try.prog.cellsOf 37 = 4 := by kernel_rfl
theorem cellsI : Try.prog.cellsOf 3 = 1 := by kernel_rfl
theorem cellsT : Try.prog.cellsOf 4 = 1 := by kernel_rfl
theorem open_step {H : Type} {enc : TypeId × Value → H} {w : World} {base : Nat} {spare : Nat → Bool} {held : Bool} {n : Nat} {c0 c1 c2 c3 : Value} {x : DataW H × List MemPlace}
    (h : DataW.trod enc Try.prog w base spare held n 37 [c0, c1, c2, c3] = some x) :
    ∃ r : StepIn, c0 = .int .i64 r.mon ∧ c1 = .bool r.acc ∧ c2 = .int .u8 r.at_ ∧ c3 = .int .u8 (r.val.toNat : Int) := by
  obtain ⟨y0, y1, y2, y3, m, rfl, _, t0, t1, t2, t3⟩ := Go.Joins.trod_struct4 Try.underlying37 h
  simp only [cellsI, cellsT, cellsByte, List.drop_zero, List.drop_succ_cons, List.take_succ_cons, List.take_zero] at t0 t1 t2 t3
  obtain ⟨a0, hc0, _⟩ := DataW.trod_int Try.underlying3 t0
  obtain ⟨a1, hc1, _⟩ := DataW.trod_bool Try.underlying4 t1
  obtain ⟨a2, hc2, _, w2⟩ := DataW.trod_int Try.underlying5 t2
  obtain ⟨a3, hc3, _, w3⟩ := DataW.trod_int Try.underlying5 t3
  obtain rfl : c0 = .int .i64 a0 := by simpa using hc0
  obtain rfl : c1 = .bool a1 := by simpa using hc1
  obtain rfl : c2 = .int .u8 a2 := by simpa using hc2
  obtain rfl : c3 = .int .u8 a3 := by simpa using hc3
  exact ⟨⟨a0, a1, a2, UInt8.ofNat a3.toNat⟩, rfl, rfl, rfl, by rw [toNat_ofNat (wf_u8 w3)]⟩

theorem open_steps {H : Type} {enc : TypeId × Value → H} {w : World} {base : Nat} {spare : Nat → Bool} {held : Bool} {r : Reach} {b0 : Nat} {v : Value} {d : DataW H} {p : List MemPlace}
    (hv : Value.okWide Try.prog w r b0 33 v) (h : DataW.Trod enc Try.prog w base spare held 33 v d p) :
    ∃ xs, ReadsSteps w v xs := by
  obtain ⟨a0, len, cap, rfl⟩ := okWide_slice Try.underlying33 hv
  obtain ⟨fuel, hf⟩ := h
  rcases Go.Deep.open_slice Try.underlying33 hf with ⟨hcs, hx⟩ | ⟨a, len', cap', m, n, D, Pl, hcs, _, hle, _, hm, hx, hel⟩
  · have hcs' : Value.slice a0 len cap = .slice none 0 0 := by simpa [Value.cells] using hcs
    cases hcs'
    exact ⟨[], .inl ⟨rfl, none, 0, rfl⟩⟩
  · have hlm : len' ≤ m := by rw [hm]; split <;> omega
    cases hx
    have hcs' : Value.slice a0 len cap = .slice (some a) len' cap' := by simpa [Value.cells] using hcs
    cases hcs'
    have each : ∀ i, i < len → ∃ x : StepIn, w.cell? (a.add (i * 4)) = some (.int .i64 x.mon) ∧ w.cell? ((a.add (i * 4)).add 1) = some (.bool x.acc) ∧ w.cell? ((a.add (i * 4)).add 2) = some (.int .u8 x.at_) ∧ w.cell? ((a.add (i * 4)).add 3) = some (.int .u8 (x.val.toNat : Int)) := by
      intro i hi
      obtain ⟨cs', h1, h2⟩ := hel i (by omega)
      rw [cellsStep] at h1
      obtain ⟨_, hlen, hcell⟩ := World.cells?_some h1
      match cs', hlen with
      | [c0, c1, c2, c3], _ =>
        obtain ⟨x, rfl, rfl, rfl, rfl⟩ := open_step h2
        exact ⟨x, hcell 0 (by omega), hcell 1 (by omega), hcell 2 (by omega), hcell 3 (by omega)⟩
    by_cases hl0 : len = 0
    · subst hl0
      exact ⟨[], .inl ⟨rfl, _, _, rfl⟩⟩
    · have hne : Nonempty StepIn := ⟨⟨0, false, 0, 0⟩⟩
      obtain ⟨F, hF⟩ : ∃ F : Nat → StepIn, ∀ i, i < len → w.cell? (a.add (i * 4)) = some (.int .i64 (F i).mon) ∧ w.cell? ((a.add (i * 4)).add 1) = some (.bool (F i).acc) ∧ w.cell? ((a.add (i * 4)).add 2) = some (.int .u8 (F i).at_) ∧ w.cell? ((a.add (i * 4)).add 3) = some (.int .u8 ((F i).val.toNat : Int)) := by
        refine ⟨fun i => if h : i < len then Classical.choose (each i h) else ⟨0, false, 0, 0⟩, fun i hi => ?_⟩
        simp only [dif_pos hi]
        exact Classical.choose_spec (each i hi)
      refine ⟨(List.range len).map F, ?_⟩
      obtain ⟨bk, off, spot⟩ := a
      have hspot : spot = none := by
        obtain ⟨e0, _⟩ := hF 0 (by omega)
        simpa [Addr.add] using World.cell?_spot e0
      subst hspot
      refine .inr ⟨bk, off, cap, by simp, fun i hi => ?_⟩
      have hi' : i < len := by simpa using hi
      obtain ⟨e0, e1, e2, e3⟩ := hF i hi'
      rw [Go.WideShapes.add_plain] at e0 e1 e2 e3
      rw [Go.WideShapes.add_plain] at e1 e2 e3
      simp only [List.getElem_map, List.getElem_range]
      exact ⟨e0, e1, e2, e3⟩

set_option maxRecDepth 100000 in
theorem lifted (os : Os) (started : os.Started) (H : Type) (enc : TypeId × Value → H) :
    ReturnsInHanded {} Try.checked os 4 .any (Rows.ballotAgreesSpec.pre6 enc Try.prog Try.f4 Rows.ballotAgreesRow.domain false) (Rows.ballotAgreesSpec.post enc Try.prog Try.f4 false true false false) := by
  refine returnsInHanded_of_change_sized (C := Try.checked) Law.own started (by kernel_rfl) Try.func4
    (ChangeSpec.witness6 (enc := enc) (C := Try.checked) false ⟨#[], #[.int .i64 0, .slice none 0 0], []⟩ 8 (by kernel_rfl) (by kernel_rfl) (by kernel_rfl) (by kernel_rfl)) ?_
  intro W base args ds gs before hval0 hW hcnd hsz _
  have hval : ∀ (j : Nat) t v, Try.f4.params[j]? = some t → args[j]? = some v → Value.okWide Try.prog W .any base t v := hval0
  have hW' := hW
  obtain ⟨p, q, hA0, hV, rfl, hfz, hnd⟩ := hW
  have hA : DataW.TrodAll enc Try.prog W 0 (fun _ => true) true Try.f4.params.toList args.toList ds p := hA0
  rw [Try.params4] at hA hval
  obtain ⟨v0, vs0, d0, ds0, p0, q0, hargs, rfl, rfl, h0, r0⟩ := trodAll_cons hA
  obtain ⟨v1, vs1, d1, ds1, p1, q1, rfl, rfl, rfl, h1, r1⟩ := trodAll_cons r0
  obtain ⟨rfl, rfl, rfl⟩ := trodAll_nil r1
  obtain rfl : args = #[v0, v1] := by cases args; simp_all
  obtain ⟨rfl, rfl⟩ := trodVars_none hV
  obtain ⟨n0, rfl, rfl, rfl, _⟩ := open_int Try.underlying3 (hval 0 3 v0 rfl rfl) h0
  obtain ⟨xs, hx⟩ := open_steps (hval 1 33 v1 rfl rfl) h1
  exact (agrees_walk n0 v1 xs W hx).mono fun e W' ⟨he, hb⟩ => ⟨_, he, Law.post hW' (by kernel_rfl) rfl rfl (by kernel_rfl) hb⟩

theorem proved : Rows.BallotAgreesSaid :=
  OpenClaim.holds_of_wide 4 Try.f4 rfl rfl rfl rfl rfl rfl rfl ⟨rfl, rfl, rfl, rfl, rfl⟩ rfl rfl rfl rfl rfl (by kernel_rfl) Try.func4 (by kernel_rfl)
    (of_decide_eq_true (by kernel_rfl)) (by unfold Func.isWrapper; first | (rw [if_pos (by decide +kernel)]; kernel_rfl) | (rw [if_neg (by decide +kernel)]; exact ⟨rfl, rfl⟩))
    (fun os started H enc _ => lifted os started H enc)
#print axioms proved
end Go.Proofs.Ytaopfgoofhojeaa.ballotAgrees
