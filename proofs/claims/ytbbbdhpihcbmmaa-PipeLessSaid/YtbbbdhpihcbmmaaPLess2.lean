/- The walk of PipeLess. -/
import Derived.Test.YtbbbdhpihcbmmaaPHeavy
import Derived.Test.YtbbbdhpihcbmmaaPAwake
namespace Go.Proofs.Ytbbbdhpihcbmmaa
open Go.RowKit Own

open Classical in
theorem right_yes (v : Value) (xs : List EvIn) (w : World) (hv : ReadsEvs w v xs) (hok : ∀ x ∈ xs, EvOk x) (hn : xs.length ≤ 140737488351232) (hc : chkH xs = 0) (hr : RightB xs) :
    Calls Try.prog 12 #[v] w fun e w' => e = .returned (.tuple #[.bool true, .int .i64 0]) ∧ Below w.heap.size w w' := by
  have h := right_any v xs w hv hok hn
  rw [decide_eq_true (show chkH xs = 0 ∧ RightB xs from ⟨hc, hr⟩), hc] at h
  exact h
open Classical in
theorem right_no (v : Value) (xs : List EvIn) (w : World) (hv : ReadsEvs w v xs) (hok : ∀ x ∈ xs, EvOk x) (hn : xs.length ≤ 140737488351232) (hr : ¬ (chkH xs = 0 ∧ RightB xs)) :
    Calls Try.prog 12 #[v] w fun e w' => e = .returned (.tuple #[.bool false, .int .i64 (chkH xs)]) ∧ Below w.heap.size w w' := by
  have h := right_any v xs w hv hok hn
  rw [decide_eq_false hr] at h
  exact h
attribute [local go_sem ↓] hide_append
set_option maxHeartbeats 8000000 in
set_option maxRecDepth 100000 in
theorem pless_awake (v : Value) (tt : Int) (xs : List EvIn) (w : World) (hv : xs = [] ∨ ReadsEvs w v xs) (hok : ∀ x ∈ xs, EvOk x) (hn : xs.length ≤ 140737488351232) (hsl : ∃ A c, v = .slice A xs.length c ∧ xs.length ≤ c)
    (ha : heavyB xs = true ∨ xs = [] ∨ ¬ chkH xs = 0 ∨ ¬ RightB xs) :
    Calls Try.prog 5 #[v, .int .i64 tt] w fun e w' => e = .returned (.bool true) ∧ Below w.heap.size w w' := by
  obtain ⟨Av, cv, rfl, hcv⟩ := hsl
  have HH := Lib.hid (heavy_any _ xs w hv ⟨Av, cv, rfl⟩ hn)
  have HA := Lib.hid (fun W => awake_any W)
  have HAl : Hid (∀ W o, Below W.heap.size W (W.alloc o)) := fun W o => (Below.refl _ _).alloc (Nat.le_refl _) o
  cases hhv : heavyB xs with
  | true =>
    rw [hhv] at HH
    clear hv hok hn hcv ha hhv
    go_enter Try.func5, Try.ntmps5
    go_wp2_with (first
      | (go_at_call 14; (with_reducible refine HH.out.mono ?_); rintro e w1 ⟨rfl, hb1⟩; have HB1 := Lib.hid hb1; clear hb1)
      | (go_at_call 9; (with_reducible refine (HA.out _).mono ?_); rintro e w2 ⟨rfl, hb2⟩; have HB2 := Lib.hid hb2; clear hb2))
    go_ret
    exact ⟨rfl, HB1.out.trans (HB2.out.mono HB1.out.size)⟩
  | false =>
    rw [hhv] at HH
    by_cases hnil : xs = []
    · subst hnil
      clear hv hok hn hcv ha hhv
      rw [List.length_nil] at HH ⊢
      go_enter Try.func5, Try.ntmps5
      go_wp2_with (first
        | (go_at_call 14; (with_reducible refine HH.out.mono ?_); rintro e w1 ⟨rfl, hb1⟩; have HB1 := Lib.hid hb1; clear hb1)
        | (go_at_call 9; (with_reducible refine (HA.out _).mono ?_); rintro e w2 ⟨rfl, hb2⟩; have HB2 := Lib.hid hb2; clear hb2))
      go_ret
      exact ⟨rfl, HB1.out.trans (HB2.out.mono HB1.out.size)⟩
    · have hv2 : ReadsEvs w (.slice Av xs.length cv) xs := hv.resolve_left hnil
      have hd : ¬ (chkH xs = 0 ∧ RightB xs) := fun h => by
        rcases ha with h9 | h9 | h9 | h9
        · rw [h9] at hhv; cases hhv
        · exact hnil h9
        · exact h9 h.1
        · exact h9 h.2
      have hN : ¬ ((xs.length : Int) = 0) := by
        have : 0 < xs.length := List.length_pos_iff.2 hnil
        omega
      have HR : Hid (∀ W, Below w.heap.size w W → Calls Try.prog 12 #[.slice Av xs.length cv] W fun e w' => e = .returned (.tuple #[.bool false, .int .i64 (chkH xs)]) ∧ Below W.heap.size W w') := fun W hb => right_no _ xs W (hv2.below hb) hok hn hd
      clear hv hok hcv ha hhv hnil hv2 hd
      have hM : (xs.length : Int) ≤ 140737488351232 := by omega
      clear hn
      generalize chkH xs = c at *
      by_cases hc : c = 0
      · subst hc
        go_enter Try.func5, Try.ntmps5
        go_wp2_with (first
          | (go_at_call 14; (with_reducible refine HH.out.mono ?_); rintro e w1 ⟨rfl, hb1⟩; have HB1 := Lib.hid hb1; clear hb1)
          | (go_at_call 12; (with_reducible refine (HR.out _ HB1.out).mono ?_); rintro e w2 ⟨rfl, hb2⟩; have HB2 := Lib.hid (HB1.out.trans (hb2.mono HB1.out.size)); clear hb2)
          | (go_at_call 9; (with_reducible refine (HA.out _).mono ?_); rintro e w3 ⟨rfl, hb3⟩; have HB3 := Lib.hid hb3; clear hb3))
        go_ret
        exact ⟨rfl, HB2.out.trans (HB3.out.mono HB2.out.size)⟩
      · go_enter Try.func5, Try.ntmps5
        go_wp2_with (first
          | (go_at_call 14; (with_reducible refine HH.out.mono ?_); rintro e w1 ⟨rfl, hb1⟩; have HB1 := Lib.hid hb1; clear hb1)
          | (go_at_call 12; (with_reducible refine (HR.out _ HB1.out).mono ?_); rintro e w2 ⟨rfl, hb2⟩; have HB2 := Lib.hid (HB1.out.trans (hb2.mono HB1.out.size)); clear hb2)
          | (go_at_call 9; (with_reducible refine (HA.out _).mono ?_); rintro e w3 ⟨rfl, hb3⟩; have HB3 := Lib.hid hb3; clear hb3))
        go_ret
        exact ⟨rfl, HB2.out.trans (HB3.out.mono HB2.out.size)⟩
end Go.Proofs.Ytbbbdhpihcbmmaa
