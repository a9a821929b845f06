/- The walk of the law NameFolds. -/
import Derived.Test.YthppflfpghhnhaaDoorFoldR
namespace Go.Proofs.YthppflfpghhnhaaDoor
open Go.RowKit Utf

theorem foldE_some {s : ByteArray} (h : (runes s).isSome = true) : foldE s = 0 := by unfold foldE; rw [if_pos h]
theorem foldE_none {s : ByteArray} (h : (runes s).isSome = false) : foldE s = 5 := by unfold foldE; rw [if_neg (by rw [h]; decide)]
theorem foldV_some {s : ByteArray} (h : (runes s).isSome = true) : foldV s = foldS s := by unfold foldV; rw [if_pos h]
theorem foldV_none {s : ByteArray} (h : (runes s).isSome = false) : foldV s = ⟨#[]⟩ := by unfold foldV; rw [if_neg (by rw [h]; decide)]
theorem foldV_size (s : ByteArray) : (foldV s).size ≤ s.size := by
  unfold foldV
  split
  · rw [foldS_size]; exact Nat.le_refl _
  · exact Nat.zero_le _

/-- what follows where the first text is no UTF-8 -/
def Both (w : World) (f : FuncId) (args : Array Value) (v : Value) : Prop := ∀ w', Below w.heap.size w w' → Calls Tryd.prog f args w' fun e w'' => e = .returned v ∧ Below w.heap.size w w''
theorem Both.mk {w : World} {f : FuncId} {args : Array Value} {v : Value} (h : ∀ w', Below w.heap.size w w' → Calls Tryd.prog f args w' fun e w'' => e = .returned v ∧ Below w'.heap.size w' w'') : Both w f args v := fun w' hb => (h w' hb).mono fun _ _ ⟨he, hb2⟩ => ⟨he, hb.trans (hb2.mono hb.size)⟩

set_option maxHeartbeats 4000000 in
theorem folds_walk (a b : ByteArray) (w : World) (ha : a.size ≤ 1048576) (hb : b.size ≤ 1048576) (hT : Tabs w) :
    Calls Tryd.prog 3 #[.string a, .string b] w fun e w' => e = .returned (.bool true) ∧ Below w.heap.size w w' := by
  have F1 : Both w 4 #[.string a] _ := Both.mk fun w' h => fold_any a w' ha (hT.below h)
  have R1 : Both w 5 #[.string a] _ := Both.mk fun w' _ => rfold_any a w' ha
  have R2 : Both w 5 #[.string b] _ := Both.mk fun w' _ => rfold_any b w' hb
  have S1 : Both w 6 #[.string a, .string b] _ := Both.mk fun w' h => same_any a b w' ha hb (hT.below h)
  have F2 : Both w 4 #[.string (foldV a)] _ := Both.mk fun w' h => fold_any (foldV a) w' (Nat.le_trans (foldV_size a) ha) (hT.below h)
  have C1 : Both w 7 #[.string (foldV a)] _ := Both.mk fun w' h => check_any (foldV a) w' (Nat.le_trans (foldV_size a) (by omega))
  have C2 : Both w 7 #[.string a] _ := Both.mk fun w' h => check_any a w' (by omega)
  have A1 : Both w 8 #[] _ := Both.mk fun w' _ => awake_any w'
  have HB0 : Hid (Below w.heap.size w w) := Below.refl _ _
  unfold Both at F1 R1 R2 S1 F2 C1 C2 A1
  clear ha hb hT
  cases hga : (runes a).isSome with
  | false =>
    rw [foldE_none hga, foldV_none hga] at F1 R1 S1
    rw [foldV_none hga] at F2
    simp only [show ((5 : Int) == 0) = false from rfl, Bool.false_and] at S1
    generalize foldE (⟨#[]⟩ : ByteArray) = e2 at F2
    generalize foldV (⟨#[]⟩ : ByteArray) = v2 at F2
    generalize foldE b = eb at *
    generalize foldV b = vb at *
    have HF1 := Lib.hid F1
    have HR1 := Lib.hid R1
    have HR2 := Lib.hid R2
    have HS1 := Lib.hid S1
    have HF2 := Lib.hid F2
    have HA := Lib.hid A1
    clear F1 R1 R2 S1 F2 A1 hga C1 C2
    go_enter Tryd.func3, Tryd.ntmps3
    go_wp2_with (first
      | (go_at_call 4; (with_reducible refine (HF1.out w HB0.out).mono ?_); rintro e w1 ⟨rfl, hb⟩; have HB1 := Lib.hid hb; clear hb)
      | (go_at_call 5; (with_reducible refine (HR1.out w1 HB1.out).mono ?_); rintro e w2 ⟨rfl, hb⟩; have HB2 := Lib.hid hb; clear hb)
      | (go_at_call 5; (with_reducible refine (HR2.out w2 HB2.out).mono ?_); rintro e w3 ⟨rfl, hb⟩; have HB3 := Lib.hid hb; clear hb)
      | (go_at_call 6; (with_reducible refine (HS1.out w3 HB3.out).mono ?_); rintro e w4 ⟨rfl, hb⟩; have HB4 := Lib.hid hb; clear hb)
      | (go_at_call 4; (with_reducible refine (HF2.out w4 HB4.out).mono ?_); rintro e w5 ⟨rfl, hb⟩; have HB5 := Lib.hid hb; clear hb)
      | (go_at_call 8; (with_reducible refine (HA.out w5 HB5.out).mono ?_); rintro e w6 ⟨rfl, hb⟩))
    go_ret
    exact ⟨rfl, hb⟩
  | true =>
    have hga2 : (runes (foldS a)).isSome = true := by rw [runes_fold_some]; exact hga
    rw [foldE_some hga, foldV_some hga] at F1 R1 S1
    rw [foldV_some hga, foldV_some hga2, foldE_some hga2, foldS_idem] at F2
    rw [foldV_some hga, checkE_fold] at C1
    simp only [show ((0 : Int) == 0) = true from rfl, Bool.true_and] at S1
    generalize foldS a = va at *
    have hcc : (checkE a == checkE a) = true := by simp
    generalize checkE a = ca at *
    clear hga hga2
    have hcase : (foldE b == 0) = false ∨ ((foldE b == 0) = true ∧ (va.toList == (foldV b).toList) = true) ∨ ((foldE b == 0) = true ∧ (va.toList == (foldV b).toList) = false) := by
      cases (foldE b == 0) <;> cases (va.toList == (foldV b).toList) <;> simp
    generalize foldE b = eb at *
    generalize foldV b = vb at *
    rcases hcase with k1 | ⟨k1, k2⟩ | ⟨k1, k2⟩
    all_goals
      first | rw [k1] at S1 | skip
      first | rw [k2] at S1 | skip
      simp only [Bool.false_and, Bool.and_true, Bool.and_false] at S1
      have HF1 := Lib.hid F1
      have HR1 := Lib.hid R1
      have HR2 := Lib.hid R2
      have HS1 := Lib.hid S1
      have HF2 := Lib.hid F2
      have HC1 := Lib.hid C1
      have HC2 := Lib.hid C2
      have HA := Lib.hid A1
      clear F1 R1 R2 S1 F2 A1 C1 C2
      go_enter Tryd.func3, Tryd.ntmps3
      go_wp2_with (first
        | (go_at_call 4; (with_reducible refine (HF1.out w HB0.out).mono ?_); rintro e w1 ⟨rfl, hb⟩; have HB1 := Lib.hid hb; clear hb)
        | (go_at_call 5; (with_reducible refine (HR1.out w1 HB1.out).mono ?_); rintro e w2 ⟨rfl, hb⟩; have HB2 := Lib.hid hb; clear hb)
        | (go_at_call 5; (with_reducible refine (HR2.out w2 HB2.out).mono ?_); rintro e w3 ⟨rfl, hb⟩; have HB3 := Lib.hid hb; clear hb)
        | (go_at_call 6; (with_reducible refine (HS1.out w3 HB3.out).mono ?_); rintro e w4 ⟨rfl, hb⟩; have HB4 := Lib.hid hb; clear hb)
        | (go_at_call 4; (with_reducible refine (HF2.out w4 HB4.out).mono ?_); rintro e w5 ⟨rfl, hb⟩; have HB5 := Lib.hid hb; clear hb)
        | (go_at_call 7; (with_reducible refine (HC1.out w5 HB5.out).mono ?_); rintro e w6 ⟨rfl, hb⟩; have HB6 := Lib.hid hb; clear hb)
        | (go_at_call 7; (with_reducible refine (HC2.out w6 HB6.out).mono ?_); rintro e w7 ⟨rfl, hb⟩; have HB7 := Lib.hid hb; clear hb)
        | (go_at_call 8; (with_reducible refine (HA.out w7 HB7.out).mono ?_); rintro e w8 ⟨rfl, hb⟩))
      go_ret
      exact ⟨rfl, hb⟩
end Go.Proofs.YthppflfpghhnhaaDoor
