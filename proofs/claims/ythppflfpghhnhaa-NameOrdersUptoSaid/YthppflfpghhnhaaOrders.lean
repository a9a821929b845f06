/- NameOrders: texts are ordered by their runes as the reference orders them, strictly and wholly: where the three texts are together of bulk at most 2^20. -/
import Derived.Test.YthppflfpghhnhaaLess
import Derived.Test.YthppflfpghhnhaaLaw
import Derived.ShutString
import Derived.JoinedCond
namespace Go.Proofs.Ythppflfpghhnhaa.nameOrders
open Go.ChangeShapes Go.WideShapes Go.ChangeAt Go.RowKit Utf
open Go.ChangeMaps (open_string shut_string)

def Lt (a b : ByteArray) : Bool := lexLt (bytesN a) (bytesN b)

theorem walk (a b c : ByteArray) (w : World) (ha : a.size ≤ 1048576) (hb : b.size ≤ 1048576) :
    Calls Try.prog 3 #[.string a, .string b, .string c] w fun e w' => e = .returned (.bool true) ∧ Below w.heap.size w w' := by
  have HR : Hid (∀ w, Calls Try.prog 8 #[.string a, .string b] w fun e w' => e = .returned (.bool (Lt a b)) ∧ Below w.heap.size w w') := fun w => by
    have := rless_any a b w ha hb
    rw [keys_lt] at this
    exact this
  have HL : ∀ x y w, Calls Try.prog 7 #[.string x, .string y] w fun e w' => e = .returned (.bool (Lt x y)) ∧ w = w' := fun x y w => less_any x y w
  have haa : Lt a a = false := lexLt_irr _
  have AA := HL a a
  have AB := HL a b
  have BA := HL b a
  have BC := HL b c
  have AC := HL a c
  have htri : a ≠ b → Lt a b ≠ Lt b a := fun h => lexLt_tri _ _ (fun e => h (bytesN_inj e))
  have htr : Lt a b = true → Lt b c = true → Lt a c = true := lexLt_trans _ _ _
  rw [haa] at AA
  clear haa HL
  by_cases hab : a = b
  · have hP : Lt a b = false := by rw [hab]; exact lexLt_irr _
    have heq : (a.toList == b.toList) = true := by rw [hab]; exact beq_self_eq_true _
    rw [hP] at AB HR
    have AA := Lib.hid AA
    have AB := Lib.hid AB
    have HE := Lib.hid heq
    clear AC BC BA htri htr hP
    have heq' : (a.toList == b.toList) = true := HE.out
    clear hab
    go_enter Try.func3, Try.ntmps3
    go_wp2_with fail
    refine (AB.out _).mono ?_
    rintro e w' ⟨rfl, rfl⟩
    go_wp2_with fail
    refine (HR.out _).mono ?_
    rintro e w1 ⟨rfl, hb1⟩
    go_wp2_with fail
    refine (AA.out _).mono ?_
    rintro e w' ⟨rfl, rfl⟩
    go_wp2_with fail
    refine (AB.out _).mono ?_
    rintro e w' ⟨rfl, rfl⟩
    go_wp2_with fail
    refine (awake_any _).mono ?_
    rintro e w2 ⟨rfl, hb2⟩
    go_wp2_with fail
    go_ret
    exact ⟨rfl, below_then hb1 hb2⟩
  · have heq : (a.toList == b.toList) = false := by
      rw [beq_eq_false_iff_ne]
      intro h
      rw [Lib.toList_data, Lib.toList_data] at h
      exact hab (data_ext h)
    have hne := htri hab
    clear htri hab
    cases hP : Lt a b with
    | false =>
      have hQ : Lt b a = true := by
        cases h : Lt b a with
        | true => rfl
        | false => rw [hP, h] at hne; exact absurd rfl hne
      rw [hP] at AB HR
      rw [hQ] at BA
      have AA := Lib.hid AA
      have AB := Lib.hid AB
      have BA := Lib.hid BA
      clear AC BC htr hP hQ hne
      go_enter Try.func3, Try.ntmps3
      go_wp2_with fail
      refine (AB.out _).mono ?_
      rintro e w' ⟨rfl, rfl⟩
      go_wp2_with fail
      refine (HR.out _).mono ?_
      rintro e w1 ⟨rfl, hb1⟩
      go_wp2_with fail
      refine (AA.out _).mono ?_
      rintro e w' ⟨rfl, rfl⟩
      go_wp2_with fail
      refine (AB.out _).mono ?_
      rintro e w' ⟨rfl, rfl⟩
      go_wp2_with fail
      refine (BA.out _).mono ?_
      rintro e w' ⟨rfl, rfl⟩
      go_wp2_with fail
      refine (AB.out _).mono ?_
      rintro e w' ⟨rfl, rfl⟩
      go_wp2_with fail
      refine (awake_any _).mono ?_
      rintro e w2 ⟨rfl, hb2⟩
      go_wp2_with fail
      go_ret
      exact ⟨rfl, below_then hb1 hb2⟩
    | true =>
      have hQ : Lt b a = false := by
        cases h : Lt b a with
        | false => rfl
        | true => rw [hP, h] at hne; exact absurd rfl hne
      rw [hP] at AB HR
      rw [hQ] at BA
      have htr' := htr hP
      have AA := Lib.hid AA
      have AB := Lib.hid AB
      have BA := Lib.hid BA
      clear htr hP hQ hne
      cases hB : Lt b c with
      | false =>
        rw [hB] at BC
        have BC := Lib.hid BC
        clear AC hB htr'
        go_enter Try.func3, Try.ntmps3
        go_wp2_with fail
        refine (AB.out _).mono ?_
        rintro e w' ⟨rfl, rfl⟩
        go_wp2_with fail
        refine (HR.out _).mono ?_
        rintro e w1 ⟨rfl, hb1⟩
        go_wp2_with fail
        refine (AA.out _).mono ?_
        rintro e w' ⟨rfl, rfl⟩
        go_wp2_with fail
        refine (AB.out _).mono ?_
        rintro e w' ⟨rfl, rfl⟩
        go_wp2_with fail
        refine (BA.out _).mono ?_
        rintro e w' ⟨rfl, rfl⟩
        go_wp2_with fail
        refine (AB.out _).mono ?_
        rintro e w' ⟨rfl, rfl⟩
        go_wp2_with fail
        refine (BC.out _).mono ?_
        rintro e w' ⟨rfl, rfl⟩
        go_wp2_with fail
        refine (awake_any _).mono ?_
        rintro e w2 ⟨rfl, hb2⟩
        go_wp2_with fail
        go_ret
        exact ⟨rfl, below_then hb1 hb2⟩
      | true =>
        rw [hB] at BC
        rw [htr' hB] at AC
        have BC := Lib.hid BC
        have AC := Lib.hid AC
        clear hB htr'
        go_enter Try.func3, Try.ntmps3
        go_wp2_with fail
        refine (AB.out _).mono ?_
        rintro e w' ⟨rfl, rfl⟩
        go_wp2_with fail
        refine (HR.out _).mono ?_
        rintro e w1 ⟨rfl, hb1⟩
        go_wp2_with fail
        refine (AA.out _).mono ?_
        rintro e w' ⟨rfl, rfl⟩
        go_wp2_with fail
        refine (AB.out _).mono ?_
        rintro e w' ⟨rfl, rfl⟩
        go_wp2_with fail
        refine (BA.out _).mono ?_
        rintro e w' ⟨rfl, rfl⟩
        go_wp2_with fail
        refine (AB.out _).mono ?_
        rintro e w' ⟨rfl, rfl⟩
        go_wp2_with fail
        refine (BC.out _).mono ?_
        rintro e w' ⟨rfl, rfl⟩
        go_wp2_with fail
        refine (AC.out _).mono ?_
        rintro e w' ⟨rfl, rfl⟩
        go_wp2_with fail
        refine (awake_any _).mono ?_
        rintro e w2 ⟨rfl, hb2⟩
        go_wp2_with fail
        go_ret
        exact ⟨rfl, below_then hb1 hb2⟩

theorem short {H : Type} {a b c : ByteArray} (hk : Rows.uptoSmall H [.lit (.string a.data.toList), .lit (.string b.data.toList), .lit (.string c.data.toList)] = true) : a.size ≤ 1048576 ∧ b.size ≤ 1048576 := by
  have h : Rows.uptoBulkAll [DataW.lit (H := H) (.string a.data.toList), .lit (.string b.data.toList), .lit (.string c.data.toList)] ≤ 1048576 := of_decide_eq_true hk
  simp only [Rows.uptoBulkAll, Rows.uptoBulk] at h
  rw [Lib.size_eq, Lib.size_eq]
  omega

set_option maxRecDepth 100000 in
theorem lifted (os : Os) (started : os.Started) (H : Type) (enc : TypeId × Value → H) (F : Stop.Interp) :
    ReturnsInHanded {} Try.checked os 3 .any ((Rows.OpenSpec.upto Rows.nameOrdersSpec).pre6 enc Try.prog Try.f3 Rows.nameOrdersUptoRow.domain false) (((Rows.OpenSpec.upto Rows.nameOrdersSpec).at F).post enc Try.prog Try.f3 false true false false) := by
  refine returnsInHanded_of_cond (C := Try.checked) (s := Rows.OpenSpec.upto Rows.nameOrdersSpec) (k := Rows.uptoSmall) rfl Law.own started (by kernel_rfl) Try.func3
    (OpenSpec.witness (enc := enc) (C := Try.checked) (s := Rows.OpenSpec.upto Rows.nameOrdersSpec) (k := Rows.uptoSmall) rfl false ⟨#[], #[.string .empty, .string .empty, .string .empty], []⟩ 8 (by kernel_rfl) (by kernel_rfl) (by kernel_rfl)
      (x := ([.lit (.string []), .lit (.string []), .lit (.string [])], [], [])) (by kernel_rfl) rfl (by kernel_rfl)) ?_
  intro W base args ds gs before hval0 hW hcnd hk _
  have hval : ∀ (j : Nat) t v, Try.f3.params[j]? = some t → args[j]? = some v → Value.okWide Try.prog W .any base t v := hval0
  have hW' := hW
  obtain ⟨p, q, hA0, hV, rfl, hfz, hnd⟩ := hW
  have hA : DataW.TrodAll enc Try.prog W 0 (fun _ => true) true Try.f3.params.toList args.toList ds p := hA0
  rw [Try.params3] at hA hval
  obtain ⟨v0, vs0, d0, ds0, p0, q0, hargs, rfl, rfl, h0, r0⟩ := trodAll_cons hA
  obtain ⟨v1, vs1, d1, ds1, p1, q1, rfl, rfl, rfl, h1, r1⟩ := trodAll_cons r0
  obtain ⟨v2, vs2, d2, ds2, p2, q2, rfl, rfl, rfl, h2, r2⟩ := trodAll_cons r1
  obtain ⟨rfl, rfl, rfl⟩ := trodAll_nil r2
  obtain rfl : args = #[v0, v1, v2] := by cases args; simp_all
  obtain ⟨rfl, rfl⟩ := trodVars_none hV
  obtain ⟨a, rfl, rfl, rfl, w0⟩ := open_string Try.underlying9 (hval 0 9 v0 rfl rfl) h0
  obtain ⟨b, rfl, rfl, rfl, w1⟩ := open_string Try.underlying9 (hval 1 9 v1 rfl rfl) h1
  obtain ⟨c, rfl, rfl, rfl, w2⟩ := open_string Try.underlying9 (hval 2 9 v2 rfl rfl) h2
  exact (walk a b c W (short hk).1 (short hk).2).mono fun e W' ⟨he, hb⟩ => ⟨_, he, Law.post hW' (by kernel_rfl) rfl rfl (by kernel_rfl) hb⟩

theorem proved : Rows.NameOrdersUptoSaid :=
  OpenClaim.holds_of_cond 3 Try.f3 rfl rfl rfl rfl rfl rfl rfl ⟨rfl, rfl, rfl, rfl, rfl⟩ rfl rfl rfl rfl rfl (by kernel_rfl) Try.func3 (by kernel_rfl)
    (of_decide_eq_true (by kernel_rfl)) (by unfold Func.isWrapper; first | (rw [if_pos (by decide +kernel)]; kernel_rfl) | (rw [if_neg (by decide +kernel)]; exact ⟨rfl, rfl⟩))
    (fun os started H enc _ F => lifted os started H enc F)
#print axioms proved
end Go.Proofs.Ythppflfpghhnhaa.nameOrders
