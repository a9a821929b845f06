/- PipeLess: what is right is right still, if a call's end is left out or nobody knows what came of it. -/
import Derived.Test.YtbbbdhpihcbmmaaPLess4
import Derived.Test.YtbbbdhpihcbmmaaLaw
import Derived.Deep.CondSized
namespace Go.Proofs.Ytbbbdhpihcbmmaa.pipeLess
open Go.RowKit Own
open Go.ChangeShapes Go.WideShapes Go.ChangeAt

theorem pless_any (v : Value) (tt : Int) (xs : List EvIn) (w : World) (hv : xs = [] ∨ ReadsEvs w v xs) (hok : ∀ x ∈ xs, EvOk x) (hn : xs.length ≤ 140737488351232) (hsl : ∃ A c, v = .slice A xs.length c ∧ xs.length ≤ c) :
    Calls Try.prog 5 #[v, .int .i64 tt] w fun e w' => e = .returned (.bool true) ∧ Below w.heap.size w w' := by
  by_cases h : heavyB xs = true ∨ xs = [] ∨ ¬ chkH xs = 0 ∨ ¬ RightB xs
  · exact pless_awake v tt xs w hv hok hn hsl h
  · have h1 : heavyB xs = false := by
      cases hb : heavyB xs with
      | true => exact absurd (.inl hb) h
      | false => rfl
    have h2 : xs ≠ [] := fun hx => h (.inr (.inl hx))
    have h3 : chkH xs = 0 := Classical.byContradiction fun hx => h (.inr (.inr (.inl hx)))
    have h4 : RightB xs := Classical.byContradiction fun hx => h (.inr (.inr (.inr hx)))
    exact pless_main v tt xs w (hv.resolve_left h2) hok hsl h1 h2 h3 h4

set_option maxRecDepth 100000 in
theorem lifted (os : Os) (started : os.Started) (H : Type) (enc : TypeId × Value → H) :
    ReturnsInHanded {} Try.checked os 5 .any (Rows.pipeLessSpec.pre6 enc Try.prog Try.f5 Rows.pipeLessRow.domain false) (Rows.pipeLessSpec.post enc Try.prog Try.f5 false true false false) := by
  refine returnsInHanded_of_change_sized (C := Try.checked) Law.own started (by kernel_rfl) Try.func5
    (ChangeSpec.witness6 (enc := enc) (C := Try.checked) false ⟨#[], #[.slice none 0 0, .int .i64 0], []⟩ 8 (by kernel_rfl) (by kernel_rfl) (by kernel_rfl) (by kernel_rfl)) ?_
  intro W base args ds gs before hval0 hW hcnd hsz _
  have hval : ∀ (j : Nat) t v, Try.f5.params[j]? = some t → args[j]? = some v → Value.okWide Try.prog W .any base t v := hval0
  have hW' := hW
  obtain ⟨p, q, hA0, hV, rfl, hfz, hnd⟩ := hW
  have hA : DataW.TrodAll enc Try.prog W 0 (fun _ => true) true Try.f5.params.toList args.toList ds p := hA0
  rw [Try.params5] at hA hval
  obtain ⟨v0, vs0, d0, ds0, p0, q0, hargs, rfl, rfl, h0, r0⟩ := trodAll_cons hA
  obtain ⟨v1, vs1, d1, ds1, p1, q1, hargs1, rfl, rfl, h1, r1⟩ := trodAll_cons r0
  obtain ⟨rfl, rfl, rfl⟩ := trodAll_nil r1
  obtain rfl : args = #[v0, v1] := by cases args; simp_all
  obtain ⟨rfl, rfl⟩ := trodVars_none hV
  obtain ⟨xs, hrd, hok, hn, hsl⟩ := open_events (hval 0 34 v0 rfl rfl) h0 (fun y hy => by
    have := List.all_eq_true.1 hsz y (DataW.weights_mem_each (j := 0) rfl rfl y hy)
    simpa using this)
  obtain ⟨tt, rfl, _⟩ := open_int Try.underlying3 (hval 1 3 v1 rfl rfl) h1
  exact (pless_any v0 tt xs W hrd hok hn hsl).mono fun e W' ⟨he, hb⟩ => ⟨_, he, Law.post hW' (by kernel_rfl) rfl rfl (by kernel_rfl) hb⟩

theorem proved : Rows.PipeLessSaid :=
  OpenClaim.holds_of_wide 5 Try.f5 rfl rfl rfl rfl rfl rfl rfl ⟨rfl, rfl, rfl, rfl, rfl⟩ rfl rfl rfl rfl rfl (by kernel_rfl) Try.func5 (by kernel_rfl)
    (of_decide_eq_true (by kernel_rfl)) (by unfold Func.isWrapper; first | (rw [if_pos (by decide +kernel)]; kernel_rfl) | (rw [if_neg (by decide +kernel)]; exact ⟨rfl, rfl⟩))
    (fun os started H enc _ => lifted os started H enc)
#print axioms proved
end Go.Proofs.Ytbbbdhpihcbmmaa.pipeLess
