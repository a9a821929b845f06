/- The walk of awake. -/
import Derived.Test.YtlieepbmmfdeoaaFl
namespace Go.Proofs.Ytlieepbmmfdeoaa
open Go.RowKit Own

theorem deliverV_false (m : Msg) (v : Value) : deliverV false m v = .tuple #[.int .i64 m.fr, .int .i64 m.to, v, .bool true] := rfl
theorem deliverV_true (m : Msg) (v : Value) : deliverV true m v = .tuple #[.int .i64 0, .int .i64 0, .slice none 0 0, .bool false] := rfl
theorem awake_any (w : World) : Calls Try.prog 13 #[] w fun e w' => e = .returned (.bool true) ∧ Below w.heap.size w w' := by
  have HN := Lib.hid (fun w => fl_new w)
  have HP := Lib.hid (fun (fb mb : Nat) (w1 : World) (h : Fl w fb mb 0 noKeys (.slice none 0 0) [] w1) =>
    fl_post (h.go ((Below.refl _ _).alloc (Nat.le_refl _) _)) 1 2 (.slice (some ⟨w1.heap.size, 0, none⟩) 1 1) [7] (.inr ⟨⟨w1.heap.size, 0, none⟩, 1, rfl, fun j u hu => by
      have hj : j < 1 := by simpa [u8s] using (List.getElem?_eq_some_iff.1 hu).1
      obtain rfl : j = 0 := by omega
      rw [Addr.add_lit, cell_of_row _ _ _ _ _ (0, 0) (heap_alloc_new w1 (.cells #[.int .u8 7] 5))]
      rw [← hu]; rfl⟩) (by decide) (by decide) (by decide) (by decide))
  have HD := Lib.hid (fun (fb mb : Nat) (lv v : Value) (w1 : World) (h : Fl w fb mb 0 noKeys lv [(⟨1, 2, [7]⟩, v)] w1) => fl_deliver h 0 (Nat.zero_lt_succ _) (by simp))
  have HLn := Lib.hid (fun (fb mb : Nat) (lv : Value) (w1 : World) (h : Fl w fb mb 0 noKeys lv [] w1) => fl_len h)
  go_enter Try.func13, Try.ntmps13
  go_wp2_with (first
    | (go_at_call 8; refine (HN.out _).mono ?_; rintro e w1 ⟨fb, mb, rfl, h1⟩)
    | (go_at_call 12; refine (HP.out fb mb w1 h1).mono ?_; rintro e w2 ⟨rfl, _, lv2, L2, h2, v2, rfl, _⟩)
    | (go_at_call 9; refine (HD.out fb mb lv2 v2 w2 h2).mono ?_; rintro e w3 ⟨v3, rfl, hown, _, lv3, h3⟩; obtain ⟨g3, c3, rfl, _, _, hcap3, hcell3, _⟩ := own_reads hown (Nat.zero_lt_succ _); have hc3 : w3.cell? ⟨g3, 0, none⟩ = some (.int .u8 7) := hcell3 0 (Nat.zero_lt_succ _); clear hcell3; rw [not_parted, deliverV_false])
    | (go_at_call 16; refine (HLn.out fb mb lv3 w3 h3).mono ?_; rintro e w4 ⟨rfl, rfl⟩))
  go_ret
  exact ⟨rfl, h3.below⟩
end Go.Proofs.Ytlieepbmmfdeoaa
