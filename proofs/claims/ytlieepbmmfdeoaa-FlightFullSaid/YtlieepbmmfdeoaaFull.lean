/- FlightFull: the walk and the row. -/
import Derived.Test.YtlieepbmmfdeoaaAwake
import Derived.OpenShut
import Derived.SizedLaws
import Derived.Deep.CondSized
namespace Go.Proofs.Ytlieepbmmfdeoaa.flightFull
open Go.RowKit Own
open Go.ChangeShapes Go.WideShapes Go.ChangeAt

/-- how it stands behind j posts -/
def Stands (w0 : World) (fb mb j : Nat) (w : World) : Prop := ∃ lv L, Fl w0 fb mb 0 noKeys lv L w ∧ L.length = min j 16384

def PostAns (w0 : World) (fb mb j : Nat) (e : Ending) (w' : World) : Prop := e = .returned (.bool (decide (j < 16384))) ∧ Stands w0 fb mb (j + 1) w'
theorem post_step (w0 : World) (fb mb j : Nat) (hj : j < 16400) (w : World) (h : Stands w0 fb mb j w) :
    Calls Try.prog 12 #[.pointer (some ⟨fb, 0, none⟩), .int .i64 1, .int .i64 j, .slice none 0 0] w (PostAns w0 fb mb j) := by
  obtain ⟨lv, L, hF, hL⟩ := h
  by_cases hj' : j < 16384
  · refine (fl_post hF 1 j (.slice none 0 0) [] (.inl ⟨rfl, rfl⟩) (by decide) (by simp [Lit.wf, IntKind.min, IntKind.max, IntKind.signed, IntKind.bits]; omega) (Nat.zero_le _) (by omega)).mono ?_
    rintro e w1 ⟨rfl, _, lv2, L2, h2, v, rfl, _⟩
    exact ⟨by rw [decide_eq_true hj'], lv2, _, h2, by rw [List.length_append, hL, List.length_singleton]; omega⟩
  · refine (fl_full hF 1 j (.slice none 0 0) (by omega)).mono ?_
    rintro e w1 ⟨rfl, _, lv2, L2, h2, rfl⟩
    exact ⟨by rw [decide_eq_false hj'], lv2, _, h2, by omega⟩
def TwiceAns (w0 : World) (fb mb k : Nat) (e : Ending) (w' : World) : Prop := e = .returned (.bool (decide (k < 16384))) ∧ Stands w0 fb mb (k + 1) w'
theorem twice_step (w0 : World) (fb mb k : Nat) (hk : 0 < k) (w : World) (h : Stands w0 fb mb k w) :
    Calls Try.prog 11 #[.pointer (some ⟨fb, 0, none⟩), .int .i64 0] w (TwiceAns w0 fb mb k) := by
  obtain ⟨lv, L, hF, hL⟩ := h
  by_cases hk' : k < 16384
  · refine (fl_twice hF 0 (by omega) (by omega)).mono ?_
    rintro e w1 ⟨rfl, _, lv2, L2, h2, v, rfl, _⟩
    exact ⟨by rw [decide_eq_true hk'], lv2, _, h2, by simp only [List.length_append, List.length_singleton]; omega⟩
  · refine (fl_twice_full hF 0 (by omega) (by omega)).mono ?_
    rintro e w1 ⟨rfl, _, lv2, L2, h2, rfl⟩
    exact ⟨by rw [decide_eq_false hk'], lv2, _, h2, by omega⟩
def DropAns (w0 : World) (fb mb : Nat) (e : Ending) (w' : World) : Prop := e = .returned (.bool true) ∧ ∃ lv L, Fl w0 fb mb 0 noKeys lv L w' ∧ L.length < 16384
theorem drop_step (w0 : World) (fb mb k : Nat) (hk : 0 < k) (w : World) (h : Stands w0 fb mb k w) :
    Calls Try.prog 14 #[.pointer (some ⟨fb, 0, none⟩), .int .i64 0] w (DropAns w0 fb mb) := by
  obtain ⟨lv, L, hF, hL⟩ := h
  refine (fl_drop hF 0 (by omega) (by omega)).mono ?_
  rintro e w1 ⟨rfl, _, lv2, L2, h2, rfl⟩
  exact ⟨rfl, lv2, _, h2, by rw [List.length_eraseIdx_of_lt (by omega)]; omega⟩
def LastAns (w0 : World) (e : Ending) (w' : World) : Prop := e = .returned (.bool true) ∧ Below w0.heap.size w0 w'
theorem last_step (w0 : World) (fb mb : Nat) (lv : Value) (L : List (Msg × Value)) (w : World) (hF : Fl w0 fb mb 0 noKeys lv L w) (hL : L.length < 16384) :
    Calls Try.prog 12 #[.pointer (some ⟨fb, 0, none⟩), .int .i64 1, .int .i64 2, .slice none 0 0] w (LastAns w0) := by
  refine (fl_post hF 1 2 (.slice none 0 0) [] (.inl ⟨rfl, rfl⟩) (by decide) (by decide) (Nat.zero_le _) hL).mono ?_
  rintro e w1 ⟨rfl, _, lv2, L2, h2, v, rfl, _⟩
  exact ⟨rfl, h2.below⟩

theorem walk (n : Nat) (hn : n < 256) (w : World) : Calls Try.prog 4 #[.int .u8 n] w fun e w' => e = .returned (.bool true) ∧ Below w.heap.size w w' := by
  have HN := Lib.hid (fun w => fl_new w)
  obtain ⟨k, hk⟩ : ∃ k, k = 16382 + n % 4 := ⟨_, rfl⟩
  have hr : n % 4 < 4 := Nat.mod_lt _ (by decide)
  have HP := Lib.hid (fun (fb mb j : Nat) (hj : j < 16400) (w1 : World) (h : Stands w fb mb j w1) => post_step w fb mb j hj w1 h)
  have HT := Lib.hid (fun (fb mb : Nat) (w1 : World) (h : Stands w fb mb k w1) => twice_step w fb mb k (by omega) w1 h)
  have HD := Lib.hid (fun (fb mb : Nat) (w1 : World) (h : Stands w fb mb (k + 1) w1) => drop_step w fb mb (k + 1) (by omega) w1 h)
  have HL := Lib.hid (fun (fb mb : Nat) (lv : Value) (L : List (Msg × Value)) (w1 : World) (h : Fl w fb mb 0 noKeys lv L w1) (hL : L.length < 16384) => last_step w fb mb lv L w1 h hL)
  go_enter Try.func4, Try.ntmps4
  go_wp2_with (go_at_call 8; refine (HN.out _).mono ?_; rintro e w1 ⟨fb, mb, rfl, h1⟩)
  have hke : 16382 + (n : Int) % 4 = (k : Int) := by omega
  rw [hke]
  have hk0 : (k : Int) < 16400 := by omega
  have HK : Hid (k < 16400) := by show _ < _; omega
  have HS : Hid (Stands w fb mb 0 w1) := ⟨_, _, h1, rfl⟩
  clear h1 hke hk hr
  go_loopw [5] (fun i wr => ∃ j : Nat, i = .int .i64 j ∧ j ≤ k ∧ Hid (Stands w fb mb j wr)) (fun i _ => k - (intOf i).toNat)
  case atStart => exact ⟨0, rfl, Nat.zero_le _, HS⟩
  case round =>
    obtain ⟨j, rfl, hjk, HJ⟩ := hrel
    obtain ⟨wL, rfl⟩ : ∃ wo : World, wo = wr := ⟨_, rfl⟩
    by_cases hj : j < k
    · have hj' : (j : Int) < (k : Int) := by omega
      have hj16 : j < 16400 := by have := HK.out; omega
      by_cases h16 : j < 16384
      · have e1 : decide (j < 16384) = true := decide_eq_true h16
        have e2 : decide ((j : Int) < 16384) = true := decide_eq_true (by omega)
        clear h16
        go_wp2_with (go_at_call 12; refine (HP.out fb mb j hj16 _ HJ.out).mono ?_; rintro e w2 ⟨rfl, h2⟩; rw [e1])
        go_roundw
        case rel => exact ⟨j + 1, by go_num, by omega, h2⟩
        case measure => simp [intOf]; omega
      · have e1 : decide (j < 16384) = false := decide_eq_false h16
        have e2 : decide ((j : Int) < 16384) = false := decide_eq_false (by omega)
        clear h16
        go_wp2_with (go_at_call 12; refine (HP.out fb mb j hj16 _ HJ.out).mono ?_; rintro e w2 ⟨rfl, h2⟩; rw [e1])
        go_roundw
        case rel => exact ⟨j + 1, by go_num, by omega, h2⟩
        case measure => simp [intOf]; omega
    · obtain rfl : j = k := by omega
      have hj' : ¬ (j : Int) < (j : Int) := by omega
      obtain ⟨b, hb⟩ : ∃ b, b = decide (j < 16384) := ⟨_, rfl⟩
      have e2 : decide ((j : Int) < 16384) = b := by rw [hb]; simp only [decide_eq_decide]; omega
      have HB := Lib.hid hb
      clear hb
      go_wp2_with (first
        | (go_at_call 11; refine (HT.out fb mb _ HJ.out).mono ?_; rintro e w2 ⟨rfl, h2⟩; rw [← HB.out])
        | (go_at_call 14; refine (HD.out fb mb _ h2).mono ?_; rintro e w3 ⟨rfl, lv3, L3, h3, hL3⟩)
        | (go_at_call 12; refine (HL.out fb mb lv3 L3 _ h3 hL3).mono ?_; rintro e w4 ⟨rfl, hb4⟩)
        | (go_at_call 13; refine (awake_any _).mono ?_; rintro e w5 ⟨rfl, hb5⟩))
      go_ret
      exact ⟨rfl, hb4.trans (hb5.mono hb4.size)⟩

set_option maxRecDepth 100000 in
theorem lifted (os : Os) (started : os.Started) (H : Type) (enc : TypeId × Value → H) :
    ReturnsInHanded {} Try.checked os 4 .any (Rows.flightFullSpec.pre6 enc Try.prog Try.f4 Rows.flightFullRow.domain false) (Rows.flightFullSpec.post enc Try.prog Try.f4 false true false false) := by
  refine returnsInHanded_of_change_sized (C := Try.checked) Law.own started (by kernel_rfl) Try.func4
    (ChangeSpec.witness6 (enc := enc) (C := Try.checked) false ⟨#[], #[.int .u8 0], []⟩ 8 (by kernel_rfl) (by kernel_rfl) (by kernel_rfl) (by kernel_rfl)) ?_
  intro W base args ds gs before hval0 hW hcnd hsz _
  have hval : ∀ (j : Nat) t v, Try.f4.params[j]? = some t → args[j]? = some v → Value.okWide Try.prog W .any base t v := hval0
  have hW' := hW
  obtain ⟨p, q, hA0, hV, rfl, hfz, hnd⟩ := hW
  have hA : DataW.TrodAll enc Try.prog W 0 (fun _ => true) true Try.f4.params.toList args.toList ds p := hA0
  rw [Try.params4] at hA hval
  obtain ⟨v0, vs0, d0, ds0, p0, q0, hargs, rfl, rfl, h0, r0⟩ := trodAll_cons hA
  obtain ⟨rfl, rfl, rfl⟩ := trodAll_nil r0
  obtain rfl : args = #[v0] := by cases args; simp_all
  obtain ⟨rfl, rfl⟩ := trodVars_none hV
  obtain ⟨m, rfl, rfl, rfl, w0⟩ := open_int Try.underlying5 (hval 0 5 v0 rfl rfl) h0
  have hm : 0 ≤ m ∧ m < 256 := by
    have := w0
    simp [Lit.wf, IntKind.min, IntKind.max, IntKind.signed, IntKind.bits] at this
    omega
  obtain ⟨n, rfl⟩ := Int.eq_ofNat_of_zero_le hm.1
  exact (walk n (by omega) W).mono fun e W' ⟨he, hb⟩ => ⟨_, he, Law.post hW' (by kernel_rfl) rfl rfl (by kernel_rfl) hb⟩

theorem proved : Rows.FlightFullSaid :=
  OpenClaim.holds_of_wide 4 Try.f4 rfl rfl rfl rfl rfl rfl rfl ⟨rfl, rfl, rfl, rfl, rfl⟩ rfl rfl rfl rfl rfl (by kernel_rfl) Try.func4 (by kernel_rfl)
    (of_decide_eq_true (by kernel_rfl)) (by unfold Func.isWrapper; first | (rw [if_pos (by decide +kernel)]; kernel_rfl) | (rw [if_neg (by decide +kernel)]; exact ⟨rfl, rfl⟩))
    (fun os started H enc _ => lifted os started H enc)
#print axioms proved
end Go.Proofs.Ytlieepbmmfdeoaa.flightFull
