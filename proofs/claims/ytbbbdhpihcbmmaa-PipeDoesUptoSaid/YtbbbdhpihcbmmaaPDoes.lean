/- PipeDoes: which calls may be, and what any does to any object, and tells: true of every input of bulk at most 2^20. -/
import Derived.Test.YtbbbdhpihcbmmaaPDoes0
import Derived.Test.YtbbbdhpihcbmmaaPRDo4
import Derived.Test.YtbbbdhpihcbmmaaPAwake
import Derived.Test.YtbbbdhpihcbmmaaPUpto
import Derived.Test.YtbbbdhpihcbmmaaLaw
import Derived.Deep.CondSized
import Derived.Lib.SmallJoins
namespace Go.Proofs.Ytbbbdhpihcbmmaa.pipeDoes
open Go.RowKit Own
open Go.ChangeShapes Go.WideShapes Go.ChangeAt

theorem does_any (c : CallIn) (hok : CallOk c) (hs : c.s.size ≤ 1048576) (dv bv : Value) (has : Bool) (b : List UInt8) (w : World) (hd : ReadsB w dv c.d) (hb : ReadsB w bv b) :
    Calls Try.prog 6 #[callV c dv, .bool has, bv] w fun e w' => e = .returned (.bool true) ∧ Below w.heap.size w w' :=
  pdoes_walk awake_any c hok hs dv bv has b w hd hb (fun W hW hl => rdo_any c dv bv has b W (hd.below hW) (hb.below hW) hl hs (Law.wf_i64 hok.a).2)

set_option maxRecDepth 100000 in
theorem lifted (os : Os) (started : os.Started) (H : Type) (enc : TypeId × Value → H) (F : Stop.Interp) :
    ReturnsInHanded {} Try.checked os 6 .any ((Rows.OpenSpec.upto Rows.pipeDoesSpec).pre6 enc Try.prog Try.f6 Rows.pipeDoesUptoRow.domain false) (((Rows.OpenSpec.upto Rows.pipeDoesSpec).at F).post enc Try.prog Try.f6 false true false false) := by
  refine returnsInHanded_of_cond_sized (C := Try.checked) (s := Rows.OpenSpec.upto Rows.pipeDoesSpec) (k := Rows.uptoSmall) rfl Law.own started (by kernel_rfl) Try.func6
    (OpenSpec.witness (enc := enc) (C := Try.checked) (s := Rows.OpenSpec.upto Rows.pipeDoesSpec) (k := Rows.uptoSmall) rfl false ⟨#[], #[.agg #[.int .i64 0, .string .empty, .int .i64 0, .slice none 0 0, .int .i64 0], .bool false, .slice none 0 0], []⟩ 8 (by kernel_rfl) (by kernel_rfl) (by kernel_rfl)
      (x := ([.agg [.lit (.int .i64 0), .lit (.string []), .lit (.int .i64 0), .nil, .lit (.int .i64 0)], .lit (.bool false), .nil], [], [])) (by kernel_rfl) rfl (by kernel_rfl)) ?_
  intro W base args ds gs before hval0 hW hcnd hk hsz _
  have hval : ∀ (j : Nat) t v, Try.f6.params[j]? = some t → args[j]? = some v → Value.okWide Try.prog W .any base t v := hval0
  have hW' := hW
  obtain ⟨p, q, hA0, hV, rfl, hfz, hnd⟩ := hW
  have hA : DataW.TrodAll enc Try.prog W 0 (fun _ => true) true Try.f6.params.toList args.toList ds p := hA0
  rw [Try.params6] at hA hval
  obtain ⟨v0, vs0, d0, ds0, p0, q0, hargs, rfl, rfl, h0, r0⟩ := trodAll_cons hA
  obtain ⟨v1, vs1, d1, ds1, p1, q1, rfl, rfl, rfl, h1, r1⟩ := trodAll_cons r0
  obtain ⟨v2, vs2, d2, ds2, p2, q2, rfl, rfl, rfl, h2, r2⟩ := trodAll_cons r1
  obtain ⟨rfl, rfl, rfl⟩ := trodAll_nil r2
  obtain rfl : args = #[v0, v1, v2] := by cases args; simp_all
  obtain ⟨rfl, rfl⟩ := trodVars_none hV
  obtain ⟨x, c3, hok, rfl, hrd, hbk⟩ := open_call_val_bulk (hval 0 30 v0 rfl rfl) h0 (fun y hy => by
    have := List.all_eq_true.1 hsz y (DataW.weights_mem_each (j := 0) rfl rfl y hy)
    simpa using this)
  obtain ⟨has, rfl, rfl, rfl⟩ := open_bool Try.underlying4 (hval 1 4 v1 rfl rfl) h1
  obtain ⟨b, hb, _⟩ := open_bytes (hval 2 23 v2 rfl rfl) h2
  have hsm : x.s.size ≤ 1048576 := by
    have h : Rows.uptoBulkAll _ ≤ 1048576 := of_decide_eq_true hk
    simp only [Rows.uptoBulkAll, List.append_nil] at h
    omega
  exact (does_any x hok hsm c3 v2 has b W hrd hb).mono fun e W' ⟨he, hb⟩ => ⟨_, he, Law.post hW' (by kernel_rfl) rfl rfl (by kernel_rfl) hb⟩

theorem proved : Rows.PipeDoesUptoSaid :=
  OpenClaim.holds_of_cond 6 Try.f6 rfl rfl rfl rfl rfl rfl rfl ⟨rfl, rfl, rfl, rfl, rfl⟩ rfl rfl rfl rfl rfl (by kernel_rfl) Try.func6 (by kernel_rfl)
    (of_decide_eq_true (by kernel_rfl)) (by unfold Func.isWrapper; first | (rw [if_pos (by decide +kernel)]; kernel_rfl) | (rw [if_neg (by decide +kernel)]; exact ⟨rfl, rfl⟩))
    (fun os started H enc _ F => lifted os started H enc F)
#print axioms proved
end Go.Proofs.Ytbbbdhpihcbmmaa.pipeDoes
