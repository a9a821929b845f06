/- The known question (awake): it answers true. -/
import Derived.Test.YthppflfpghhnhaaDoorGood
namespace Go.Proofs.YthppflfpghhnhaaDoor
open Go.RowKit Utf

theorem awake_any (w : World) : Calls Tryd.prog 8 #[] w fun e w' => e = .returned (.bool true) ∧ Below w.heap.size w w' := by
  have h1 := fun w => count_any ⟨#[195, 132, 97, 32, 98]⟩ w (by decide)
  have e1 : countN ⟨#[195, 132, 97, 32, 98]⟩ = 4 := by decide +kernel
  have e2 : (runes ⟨#[195, 132, 97, 32, 98]⟩).isSome = true := by decide +kernel
  rw [e1, e2] at h1
  have h2 := fun w => check_any ⟨#[195, 132, 97, 32, 98]⟩ w (by decide)
  have e3 : checkE ⟨#[195, 132, 97, 32, 98]⟩ = 0 := by decide +kernel
  rw [e3] at h2
  have h3 := fun w => check_any ⟨#[97, 47, 98]⟩ w (by decide)
  have e4 : checkE ⟨#[97, 47, 98]⟩ = 1 := by decide +kernel
  rw [e4] at h3
  have h4 := fun w => check_any ⟨#[255]⟩ w (by decide)
  have e5 : checkE ⟨#[255]⟩ = 5 := by decide +kernel
  rw [e5] at h4
  have H1 := Lib.hid h1
  have H2 := Lib.hid h2
  have H3 := Lib.hid h3
  have H4 := Lib.hid h4
  clear h1 h2 h3 h4 e1 e2 e3 e4 e5
  go_enter Tryd.func8, Tryd.ntmps8
  go_wp2_with fail
  refine (H1.out _).mono ?_
  rintro e w1 ⟨rfl, hb1⟩
  go_wp2_with fail
  refine (H2.out _).mono ?_
  rintro e w2 ⟨rfl, hb2⟩
  go_wp2_with fail
  refine (H3.out _).mono ?_
  rintro e w3 ⟨rfl, hb3⟩
  go_wp2_with fail
  refine (H4.out _).mono ?_
  rintro e w4 ⟨rfl, hb4⟩
  go_wp2_with fail
  go_ret
  exact ⟨rfl, ((hb1.trans (hb2.mono hb1.size)).trans (hb3.mono (Nat.le_trans hb1.size hb2.size))).trans (hb4.mono (Nat.le_trans (Nat.le_trans hb1.size hb2.size) hb3.size))⟩
end Go.Proofs.YthppflfpghhnhaaDoor
