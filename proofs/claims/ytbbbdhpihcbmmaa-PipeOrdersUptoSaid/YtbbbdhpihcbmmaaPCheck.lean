/- pipe's Check and Writes: what they tell of any call. -/
import Derived.Test.YtbbbdhpihcbmmaaGBase
import Derived.Test.YtbbbdhpihcbmmaaGood
namespace Go.Proofs.Ytbbbdhpihcbmmaa
open Go.RowKit Utf

/-- a call as it comes in -/
structure CallIn where
  k : Int
  s : ByteArray
  a : Int
  d : List UInt8
  n : Int
instance : Inhabited CallIn := ⟨⟨0, ⟨#[]⟩, 0, [], 0⟩⟩
def callV (c : CallIn) (v : Value) : Value := .agg #[.int .i64 c.k, .string c.s, .int .i64 c.a, v, .int .i64 c.n]
/-- a call that may be -/
def MayC (c : CallIn) : Prop := 1 ≤ c.k ∧ c.k < 8 ∧ checkE c.s = 0 ∧ 0 ≤ c.a ∧ 0 ≤ c.n ∧ c.d.length ≤ 4096 ∧ (c.a = 0 ∨ c.k = 2 ∨ c.k = 5) ∧ (c.n = 0 ∨ c.k = 5 ∨ c.k = 4) ∧ (c.d.length = 0 ∨ c.k = 2 ∨ c.k = 3)
instance (c : CallIn) : Decidable (MayC c) := by unfold MayC; infer_instance
def mayN (c : CallIn) : Int := if MayC c then 0 else 1

set_option maxHeartbeats 4000000 in
theorem pcheck_any (c : CallIn) (v : Value) (w : World) (hv : ReadsB w v c.d) (hs : c.s.size ≤ 140737488351232) :
    Calls Try.prog 15 #[callV c v] w fun e w' => e = .returned (.int .i64 (mayN c)) ∧ Below w.heap.size w w' := by
  obtain ⟨A, cc, rfl⟩ := hv.slice
  obtain ⟨k, s, a, d, n⟩ := c
  simp only [callV] at *
  have hHC : Calls Try.prog 29 #[.string s] (w.alloc (.cells #[.int .i64 k, .string s, .int .i64 a, .slice A d.length cc, .int .i64 n] 30)) fun e w' => e = .returned (.int .i64 (checkE s)) ∧ Below w.heap.size w w' ∧ w'.cell? ⟨w.heap.size, 0, none⟩ = some (.int .i64 k) ∧ w'.cell? ⟨w.heap.size, 1, none⟩ = some (.string s) ∧ w'.cell? ⟨w.heap.size, 2, none⟩ = some (.int .i64 a) ∧ w'.cell? ⟨w.heap.size, 3, none⟩ = some (.slice A d.length cc) ∧ w'.cell? ⟨w.heap.size, 4, none⟩ = some (.int .i64 n) := by
    refine (check_any s _ hs).mono ?_
    rintro e w' ⟨rfl, hb⟩
    have hbx := (hb.block w.heap.size (by simp)).trans (heap_alloc_new w _)
    exact ⟨rfl, ((Below.refl w.heap.size w).alloc (Nat.le_refl _) _).trans (hb.mono (by simp)), by rw [cell_of_row _ _ 0 _ _ _ hbx]; rfl, by rw [cell_of_row _ _ 1 _ _ _ hbx]; rfl, by rw [cell_of_row _ _ 2 _ _ _ hbx]; rfl, by rw [cell_of_row _ _ 3 _ _ _ hbx]; rfl, by rw [cell_of_row _ _ 4 _ _ _ hbx]; rfl⟩
  have HC := Lib.hid hHC
  have HB0 : Hid (∀ o, Below w.heap.size w (w.alloc o)) := fun o => (Below.refl _ _).alloc (Nat.le_refl _) o
  have HM : Hid (mayN ⟨k, s, a, d, n⟩ = if 1 ≤ k ∧ k < 8 ∧ checkE s = 0 ∧ 0 ≤ a ∧ 0 ≤ n ∧ d.length ≤ 4096 ∧ (a = 0 ∨ k = 2 ∨ k = 5) ∧ (n = 0 ∨ k = 5 ∨ k = 4) ∧ (d.length = 0 ∨ k = 2 ∨ k = 3) then 0 else 1) := rfl
  have bne : ∀ (x y : Int), x ≠ y → (x == y) = false ∧ (x != y) = true := fun x y h => ⟨beq_eq_false_iff_ne.2 h, bne_iff_ne.2 h⟩
  have beq : ∀ (x y : Int), x = y → (x == y) = true ∧ (x != y) = false := fun x y h => by subst h; simp
  clear hv hs hHC
  generalize checkE s = ce at *
  by_cases p0 : k < 1
  · have HP : Hid (k < 1) := p0
    clear bne beq
    go_enter Try.func15, Try.ntmps15
    go_wp2_with fail
    go_ret
    exact ⟨by have := HP.out; rw [HM.out, if_neg (by omega)]; rfl, HB0.out _⟩
  · by_cases p1 : 8 ≤ k
    · have HP : Hid (¬ k < 1 ∧ 8 ≤ k) := ⟨p0, p1⟩
      clear bne beq
      go_enter Try.func15, Try.ntmps15
      go_wp2_with fail
      go_ret
      exact ⟨by have := HP.out; rw [HM.out, if_neg (by omega)]; rfl, HB0.out _⟩
    · by_cases p2 : ce = 0
      · by_cases p3 : a < 0
        · have HP : Hid (¬ k < 1 ∧ ¬ 8 ≤ k ∧ ce = 0 ∧ a < 0) := ⟨p0, p1, p2, p3⟩
          have p2q := beq _ _ p2
          clear p2
          clear bne beq
          go_enter Try.func15, Try.ntmps15
          go_wp2_with (go_at_call 29; refine HC.out.mono ?_; rintro e w1 ⟨rfl, hb1, b0, b1, b2, b3, b4⟩; have HB1 := Lib.hid hb1; clear hb1)
          go_ret
          exact ⟨by have := HP.out; rw [HM.out, if_neg (by omega)]; rfl, HB1.out⟩
        · by_cases p4 : n < 0
          · have HP : Hid (¬ k < 1 ∧ ¬ 8 ≤ k ∧ ce = 0 ∧ ¬ a < 0 ∧ n < 0) := ⟨p0, p1, p2, p3, p4⟩
            have p2q := beq _ _ p2
            clear p2
            clear bne beq
            go_enter Try.func15, Try.ntmps15
            go_wp2_with (go_at_call 29; refine HC.out.mono ?_; rintro e w1 ⟨rfl, hb1, b0, b1, b2, b3, b4⟩; have HB1 := Lib.hid hb1; clear hb1)
            go_ret
            exact ⟨by have := HP.out; rw [HM.out, if_neg (by omega)]; rfl, HB1.out⟩
          · by_cases p5 : (4096 : Int) < (d.length : Int)
            · have HP : Hid (¬ k < 1 ∧ ¬ 8 ≤ k ∧ ce = 0 ∧ ¬ a < 0 ∧ ¬ n < 0 ∧ (4096 : Int) < (d.length : Int)) := ⟨p0, p1, p2, p3, p4, p5⟩
              have p2q := beq _ _ p2
              clear p2
              clear bne beq
              go_enter Try.func15, Try.ntmps15
              go_wp2_with (go_at_call 29; refine HC.out.mono ?_; rintro e w1 ⟨rfl, hb1, b0, b1, b2, b3, b4⟩; have HB1 := Lib.hid hb1; clear hb1)
              go_ret
              exact ⟨by have := HP.out; rw [HM.out, if_neg (by omega)]; rfl, HB1.out⟩
            · by_cases p6 : a = 0
              · by_cases p7 : n = 0
                · by_cases p8 : (0 : Int) < (d.length : Int)
                  · by_cases p9 : k = 2
                    · have HP : Hid (¬ k < 1 ∧ ¬ 8 ≤ k ∧ ce = 0 ∧ ¬ a < 0 ∧ ¬ n < 0 ∧ ¬ (4096 : Int) < (d.length : Int) ∧ a = 0 ∧ n = 0 ∧ (0 : Int) < (d.length : Int) ∧ k = 2) := ⟨p0, p1, p2, p3, p4, p5, p6, p7, p8, p9⟩
                      have p2q := beq _ _ p2
                      have p6q := beq _ _ p6
                      have p7q := beq _ _ p7
                      have p9q := beq _ _ p9
                      clear p2 p6 p7 p9
                      clear bne beq
                      go_enter Try.func15, Try.ntmps15
                      go_wp2_with (go_at_call 29; refine HC.out.mono ?_; rintro e w1 ⟨rfl, hb1, b0, b1, b2, b3, b4⟩; have HB1 := Lib.hid hb1; clear hb1)
                      go_ret
                      exact ⟨by have := HP.out; rw [HM.out, if_pos (by omega)]; rfl, HB1.out⟩
                    · by_cases p10 : k = 3
                      · have HP : Hid (¬ k < 1 ∧ ¬ 8 ≤ k ∧ ce = 0 ∧ ¬ a < 0 ∧ ¬ n < 0 ∧ ¬ (4096 : Int) < (d.length : Int) ∧ a = 0 ∧ n = 0 ∧ (0 : Int) < (d.length : Int) ∧ ¬ k = 2 ∧ k = 3) := ⟨p0, p1, p2, p3, p4, p5, p6, p7, p8, p9, p10⟩
                        have p2q := beq _ _ p2
                        have p6q := beq _ _ p6
                        have p7q := beq _ _ p7
                        have p9q := bne _ _ p9
                        have p10q := beq _ _ p10
                        clear p2 p6 p7 p9 p10
                        clear bne beq
                        go_enter Try.func15, Try.ntmps15
                        go_wp2_with (go_at_call 29; refine HC.out.mono ?_; rintro e w1 ⟨rfl, hb1, b0, b1, b2, b3, b4⟩; have HB1 := Lib.hid hb1; clear hb1)
                        go_ret
                        exact ⟨by have := HP.out; rw [HM.out, if_pos (by omega)]; rfl, HB1.out⟩
                      · have HP : Hid (¬ k < 1 ∧ ¬ 8 ≤ k ∧ ce = 0 ∧ ¬ a < 0 ∧ ¬ n < 0 ∧ ¬ (4096 : Int) < (d.length : Int) ∧ a = 0 ∧ n = 0 ∧ (0 : Int) < (d.length : Int) ∧ ¬ k = 2 ∧ ¬ k = 3) := ⟨p0, p1, p2, p3, p4, p5, p6, p7, p8, p9, p10⟩
                        have p2q := beq _ _ p2
                        have p6q := beq _ _ p6
                        have p7q := beq _ _ p7
                        have p9q := bne _ _ p9
                        have p10q := bne _ _ p10
                        clear p2 p6 p7 p9 p10
                        clear bne beq
                        go_enter Try.func15, Try.ntmps15
                        go_wp2_with (go_at_call 29; refine HC.out.mono ?_; rintro e w1 ⟨rfl, hb1, b0, b1, b2, b3, b4⟩; have HB1 := Lib.hid hb1; clear hb1)
                        go_ret
                        exact ⟨by have := HP.out; rw [HM.out, if_neg (by omega)]; rfl, HB1.out⟩
                  · have HP : Hid (¬ k < 1 ∧ ¬ 8 ≤ k ∧ ce = 0 ∧ ¬ a < 0 ∧ ¬ n < 0 ∧ ¬ (4096 : Int) < (d.length : Int) ∧ a = 0 ∧ n = 0 ∧ ¬ (0 : Int) < (d.length : Int)) := ⟨p0, p1, p2, p3, p4, p5, p6, p7, p8⟩
                    have p2q := beq _ _ p2
                    have p6q := beq _ _ p6
                    have p7q := beq _ _ p7
                    clear p2 p6 p7
                    clear bne beq
                    go_enter Try.func15, Try.ntmps15
                    go_wp2_with (go_at_call 29; refine HC.out.mono ?_; rintro e w1 ⟨rfl, hb1, b0, b1, b2, b3, b4⟩; have HB1 := Lib.hid hb1; clear hb1)
                    go_ret
                    exact ⟨by have := HP.out; rw [HM.out, if_pos (by omega)]; rfl, HB1.out⟩
                · by_cases p8 : k = 5
                  · by_cases p9 : (0 : Int) < (d.length : Int)
                    · have p10 : ¬ k = 2 := by omega
                      have p11 : ¬ k = 3 := by omega
                      have HP : Hid (¬ k < 1 ∧ ¬ 8 ≤ k ∧ ce = 0 ∧ ¬ a < 0 ∧ ¬ n < 0 ∧ ¬ (4096 : Int) < (d.length : Int) ∧ a = 0 ∧ ¬ n = 0 ∧ k = 5 ∧ (0 : Int) < (d.length : Int) ∧ ¬ k = 2 ∧ ¬ k = 3) := ⟨p0, p1, p2, p3, p4, p5, p6, p7, p8, p9, p10, p11⟩
                      have p2q := beq _ _ p2
                      have p6q := beq _ _ p6
                      have p7q := bne _ _ p7
                      have p8q := beq _ _ p8
                      have p10q := bne _ _ p10
                      have p11q := bne _ _ p11
                      clear p2 p6 p7 p8 p10 p11
                      clear bne beq
                      go_enter Try.func15, Try.ntmps15
                      go_wp2_with (go_at_call 29; refine HC.out.mono ?_; rintro e w1 ⟨rfl, hb1, b0, b1, b2, b3, b4⟩; have HB1 := Lib.hid hb1; clear hb1)
                      go_ret
                      exact ⟨by have := HP.out; rw [HM.out, if_neg (by omega)]; rfl, HB1.out⟩
                    · have HP : Hid (¬ k < 1 ∧ ¬ 8 ≤ k ∧ ce = 0 ∧ ¬ a < 0 ∧ ¬ n < 0 ∧ ¬ (4096 : Int) < (d.length : Int) ∧ a = 0 ∧ ¬ n = 0 ∧ k = 5 ∧ ¬ (0 : Int) < (d.length : Int)) := ⟨p0, p1, p2, p3, p4, p5, p6, p7, p8, p9⟩
                      have p2q := beq _ _ p2
                      have p6q := beq _ _ p6
                      have p7q := bne _ _ p7
                      have p8q := beq _ _ p8
                      clear p2 p6 p7 p8
                      clear bne beq
                      go_enter Try.func15, Try.ntmps15
                      go_wp2_with (go_at_call 29; refine HC.out.mono ?_; rintro e w1 ⟨rfl, hb1, b0, b1, b2, b3, b4⟩; have HB1 := Lib.hid hb1; clear hb1)
                      go_ret
                      exact ⟨by have := HP.out; rw [HM.out, if_pos (by omega)]; rfl, HB1.out⟩
                  · by_cases p9 : k = 4
                    · by_cases p10 : (0 : Int) < (d.length : Int)
                      · have p11 : ¬ k = 2 := by omega
                        have p12 : ¬ k = 3 := by omega
                        have HP : Hid (¬ k < 1 ∧ ¬ 8 ≤ k ∧ ce = 0 ∧ ¬ a < 0 ∧ ¬ n < 0 ∧ ¬ (4096 : Int) < (d.length : Int) ∧ a = 0 ∧ ¬ n = 0 ∧ ¬ k = 5 ∧ k = 4 ∧ (0 : Int) < (d.length : Int) ∧ ¬ k = 2 ∧ ¬ k = 3) := ⟨p0, p1, p2, p3, p4, p5, p6, p7, p8, p9, p10, p11, p12⟩
                        have p2q := beq _ _ p2
                        have p6q := beq _ _ p6
                        have p7q := bne _ _ p7
                        have p8q := bne _ _ p8
                        have p9q := beq _ _ p9
                        have p11q := bne _ _ p11
                        have p12q := bne _ _ p12
                        clear p2 p6 p7 p8 p9 p11 p12
                        clear bne beq
                        go_enter Try.func15, Try.ntmps15
                        go_wp2_with (go_at_call 29; refine HC.out.mono ?_; rintro e w1 ⟨rfl, hb1, b0, b1, b2, b3, b4⟩; have HB1 := Lib.hid hb1; clear hb1)
                        go_ret
                        exact ⟨by have := HP.out; rw [HM.out, if_neg (by omega)]; rfl, HB1.out⟩
                      · have HP : Hid (¬ k < 1 ∧ ¬ 8 ≤ k ∧ ce = 0 ∧ ¬ a < 0 ∧ ¬ n < 0 ∧ ¬ (4096 : Int) < (d.length : Int) ∧ a = 0 ∧ ¬ n = 0 ∧ ¬ k = 5 ∧ k = 4 ∧ ¬ (0 : Int) < (d.length : Int)) := ⟨p0, p1, p2, p3, p4, p5, p6, p7, p8, p9, p10⟩
                        have p2q := beq _ _ p2
                        have p6q := beq _ _ p6
                        have p7q := bne _ _ p7
                        have p8q := bne _ _ p8
                        have p9q := beq _ _ p9
                        clear p2 p6 p7 p8 p9
                        clear bne beq
                        go_enter Try.func15, Try.ntmps15
                        go_wp2_with (go_at_call 29; refine HC.out.mono ?_; rintro e w1 ⟨rfl, hb1, b0, b1, b2, b3, b4⟩; have HB1 := Lib.hid hb1; clear hb1)
                        go_ret
                        exact ⟨by have := HP.out; rw [HM.out, if_pos (by omega)]; rfl, HB1.out⟩
                    · have HP : Hid (¬ k < 1 ∧ ¬ 8 ≤ k ∧ ce = 0 ∧ ¬ a < 0 ∧ ¬ n < 0 ∧ ¬ (4096 : Int) < (d.length : Int) ∧ a = 0 ∧ ¬ n = 0 ∧ ¬ k = 5 ∧ ¬ k = 4) := ⟨p0, p1, p2, p3, p4, p5, p6, p7, p8, p9⟩
                      have p2q := beq _ _ p2
                      have p6q := beq _ _ p6
                      have p7q := bne _ _ p7
                      have p8q := bne _ _ p8
                      have p9q := bne _ _ p9
                      clear p2 p6 p7 p8 p9
                      clear bne beq
                      go_enter Try.func15, Try.ntmps15
                      go_wp2_with (go_at_call 29; refine HC.out.mono ?_; rintro e w1 ⟨rfl, hb1, b0, b1, b2, b3, b4⟩; have HB1 := Lib.hid hb1; clear hb1)
                      go_ret
                      exact ⟨by have := HP.out; rw [HM.out, if_neg (by omega)]; rfl, HB1.out⟩
              · by_cases p7 : k = 2
                · by_cases p8 : n = 0
                  · by_cases p9 : (0 : Int) < (d.length : Int)
                    · have HP : Hid (¬ k < 1 ∧ ¬ 8 ≤ k ∧ ce = 0 ∧ ¬ a < 0 ∧ ¬ n < 0 ∧ ¬ (4096 : Int) < (d.length : Int) ∧ ¬ a = 0 ∧ k = 2 ∧ n = 0 ∧ (0 : Int) < (d.length : Int)) := ⟨p0, p1, p2, p3, p4, p5, p6, p7, p8, p9⟩
                      have p2q := beq _ _ p2
                      have p6q := bne _ _ p6
                      have p7q := beq _ _ p7
                      have p8q := beq _ _ p8
                      clear p2 p6 p7 p8
                      clear bne beq
                      go_enter Try.func15, Try.ntmps15
                      go_wp2_with (go_at_call 29; refine HC.out.mono ?_; rintro e w1 ⟨rfl, hb1, b0, b1, b2, b3, b4⟩; have HB1 := Lib.hid hb1; clear hb1)
                      go_ret
                      exact ⟨by have := HP.out; rw [HM.out, if_pos (by omega)]; rfl, HB1.out⟩
                    · have HP : Hid (¬ k < 1 ∧ ¬ 8 ≤ k ∧ ce = 0 ∧ ¬ a < 0 ∧ ¬ n < 0 ∧ ¬ (4096 : Int) < (d.length : Int) ∧ ¬ a = 0 ∧ k = 2 ∧ n = 0 ∧ ¬ (0 : Int) < (d.length : Int)) := ⟨p0, p1, p2, p3, p4, p5, p6, p7, p8, p9⟩
                      have p2q := beq _ _ p2
                      have p6q := bne _ _ p6
                      have p7q := beq _ _ p7
                      have p8q := beq _ _ p8
                      clear p2 p6 p7 p8
                      clear bne beq
                      go_enter Try.func15, Try.ntmps15
                      go_wp2_with (go_at_call 29; refine HC.out.mono ?_; rintro e w1 ⟨rfl, hb1, b0, b1, b2, b3, b4⟩; have HB1 := Lib.hid hb1; clear hb1)
                      go_ret
                      exact ⟨by have := HP.out; rw [HM.out, if_pos (by omega)]; rfl, HB1.out⟩
                  · have p9 : ¬ k = 5 := by omega
                    have p10 : ¬ k = 4 := by omega
                    have HP : Hid (¬ k < 1 ∧ ¬ 8 ≤ k ∧ ce = 0 ∧ ¬ a < 0 ∧ ¬ n < 0 ∧ ¬ (4096 : Int) < (d.length : Int) ∧ ¬ a = 0 ∧ k = 2 ∧ ¬ n = 0 ∧ ¬ k = 5 ∧ ¬ k = 4) := ⟨p0, p1, p2, p3, p4, p5, p6, p7, p8, p9, p10⟩
                    have p2q := beq _ _ p2
                    have p6q := bne _ _ p6
                    have p7q := beq _ _ p7
                    have p8q := bne _ _ p8
                    have p9q := bne _ _ p9
                    have p10q := bne _ _ p10
                    clear p2 p6 p7 p8 p9 p10
                    clear bne beq
                    go_enter Try.func15, Try.ntmps15
                    go_wp2_with (go_at_call 29; refine HC.out.mono ?_; rintro e w1 ⟨rfl, hb1, b0, b1, b2, b3, b4⟩; have HB1 := Lib.hid hb1; clear hb1)
                    go_ret
                    exact ⟨by have := HP.out; rw [HM.out, if_neg (by omega)]; rfl, HB1.out⟩
                · by_cases p8 : k = 5
                  · by_cases p9 : n = 0
                    · by_cases p10 : (0 : Int) < (d.length : Int)
                      · have p11 : ¬ k = 3 := by omega
                        have HP : Hid (¬ k < 1 ∧ ¬ 8 ≤ k ∧ ce = 0 ∧ ¬ a < 0 ∧ ¬ n < 0 ∧ ¬ (4096 : Int) < (d.length : Int) ∧ ¬ a = 0 ∧ ¬ k = 2 ∧ k = 5 ∧ n = 0 ∧ (0 : Int) < (d.length : Int) ∧ ¬ k = 3) := ⟨p0, p1, p2, p3, p4, p5, p6, p7, p8, p9, p10, p11⟩
                        have p2q := beq _ _ p2
                        have p6q := bne _ _ p6
                        have p7q := bne _ _ p7
                        have p8q := beq _ _ p8
                        have p9q := beq _ _ p9
                        have p11q := bne _ _ p11
                        clear p2 p6 p7 p8 p9 p11
                        clear bne beq
                        go_enter Try.func15, Try.ntmps15
                        go_wp2_with (go_at_call 29; refine HC.out.mono ?_; rintro e w1 ⟨rfl, hb1, b0, b1, b2, b3, b4⟩; have HB1 := Lib.hid hb1; clear hb1)
                        go_ret
                        exact ⟨by have := HP.out; rw [HM.out, if_neg (by omega)]; rfl, HB1.out⟩
                      · have HP : Hid (¬ k < 1 ∧ ¬ 8 ≤ k ∧ ce = 0 ∧ ¬ a < 0 ∧ ¬ n < 0 ∧ ¬ (4096 : Int) < (d.length : Int) ∧ ¬ a = 0 ∧ ¬ k = 2 ∧ k = 5 ∧ n = 0 ∧ ¬ (0 : Int) < (d.length : Int)) := ⟨p0, p1, p2, p3, p4, p5, p6, p7, p8, p9, p10⟩
                        have p2q := beq _ _ p2
                        have p6q := bne _ _ p6
                        have p7q := bne _ _ p7
                        have p8q := beq _ _ p8
                        have p9q := beq _ _ p9
                        clear p2 p6 p7 p8 p9
                        clear bne beq
                        go_enter Try.func15, Try.ntmps15
                        go_wp2_with (go_at_call 29; refine HC.out.mono ?_; rintro e w1 ⟨rfl, hb1, b0, b1, b2, b3, b4⟩; have HB1 := Lib.hid hb1; clear hb1)
                        go_ret
                        exact ⟨by have := HP.out; rw [HM.out, if_pos (by omega)]; rfl, HB1.out⟩
                    · by_cases p10 : (0 : Int) < (d.length : Int)
                      · have p11 : ¬ k = 3 := by omega
                        have HP : Hid (¬ k < 1 ∧ ¬ 8 ≤ k ∧ ce = 0 ∧ ¬ a < 0 ∧ ¬ n < 0 ∧ ¬ (4096 : Int) < (d.length : Int) ∧ ¬ a = 0 ∧ ¬ k = 2 ∧ k = 5 ∧ ¬ n = 0 ∧ (0 : Int) < (d.length : Int) ∧ ¬ k = 3) := ⟨p0, p1, p2, p3, p4, p5, p6, p7, p8, p9, p10, p11⟩
                        have p2q := beq _ _ p2
                        have p6q := bne _ _ p6
                        have p7q := bne _ _ p7
                        have p8q := beq _ _ p8
                        have p9q := bne _ _ p9
                        have p11q := bne _ _ p11
                        clear p2 p6 p7 p8 p9 p11
                        clear bne beq
                        go_enter Try.func15, Try.ntmps15
                        go_wp2_with (go_at_call 29; refine HC.out.mono ?_; rintro e w1 ⟨rfl, hb1, b0, b1, b2, b3, b4⟩; have HB1 := Lib.hid hb1; clear hb1)
                        go_ret
                        exact ⟨by have := HP.out; rw [HM.out, if_neg (by omega)]; rfl, HB1.out⟩
                      · have HP : Hid (¬ k < 1 ∧ ¬ 8 ≤ k ∧ ce = 0 ∧ ¬ a < 0 ∧ ¬ n < 0 ∧ ¬ (4096 : Int) < (d.length : Int) ∧ ¬ a = 0 ∧ ¬ k = 2 ∧ k = 5 ∧ ¬ n = 0 ∧ ¬ (0 : Int) < (d.length : Int)) := ⟨p0, p1, p2, p3, p4, p5, p6, p7, p8, p9, p10⟩
                        have p2q := beq _ _ p2
                        have p6q := bne _ _ p6
                        have p7q := bne _ _ p7
                        have p8q := beq _ _ p8
                        have p9q := bne _ _ p9
                        clear p2 p6 p7 p8 p9
                        clear bne beq
                        go_enter Try.func15, Try.ntmps15
                        go_wp2_with (go_at_call 29; refine HC.out.mono ?_; rintro e w1 ⟨rfl, hb1, b0, b1, b2, b3, b4⟩; have HB1 := Lib.hid hb1; clear hb1)
                        go_ret
                        exact ⟨by have := HP.out; rw [HM.out, if_pos (by omega)]; rfl, HB1.out⟩
                  · have HP : Hid (¬ k < 1 ∧ ¬ 8 ≤ k ∧ ce = 0 ∧ ¬ a < 0 ∧ ¬ n < 0 ∧ ¬ (4096 : Int) < (d.length : Int) ∧ ¬ a = 0 ∧ ¬ k = 2 ∧ ¬ k = 5) := ⟨p0, p1, p2, p3, p4, p5, p6, p7, p8⟩
                    have p2q := beq _ _ p2
                    have p6q := bne _ _ p6
                    have p7q := bne _ _ p7
                    have p8q := bne _ _ p8
                    clear p2 p6 p7 p8
                    clear bne beq
                    go_enter Try.func15, Try.ntmps15
                    go_wp2_with (go_at_call 29; refine HC.out.mono ?_; rintro e w1 ⟨rfl, hb1, b0, b1, b2, b3, b4⟩; have HB1 := Lib.hid hb1; clear hb1)
                    go_ret
                    exact ⟨by have := HP.out; rw [HM.out, if_neg (by omega)]; rfl, HB1.out⟩
      · have HP : Hid (¬ k < 1 ∧ ¬ 8 ≤ k ∧ ¬ ce = 0) := ⟨p0, p1, p2⟩
        have p2q := bne _ _ p2
        clear p2
        clear bne beq
        go_enter Try.func15, Try.ntmps15
        go_wp2_with (go_at_call 29; refine HC.out.mono ?_; rintro e w1 ⟨rfl, hb1, b0, b1, b2, b3, b4⟩; have HB1 := Lib.hid hb1; clear hb1)
        go_ret
        exact ⟨by have := HP.out; rw [HM.out, if_neg (by omega)]; rfl, HB1.out⟩
end Go.Proofs.Ytbbbdhpihcbmmaa
