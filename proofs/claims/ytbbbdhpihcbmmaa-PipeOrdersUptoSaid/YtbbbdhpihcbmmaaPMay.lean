/- The reference's May, SameReply, Writes; errno. -/
import Derived.Test.YtbbbdhpihcbmmaaPRef0
namespace Go.Proofs.Ytbbbdhpihcbmmaa
open Go.RowKit Own

def mayB (c : CallIn) : Bool := decide (MayC c)
set_option maxHeartbeats 4000000 in
theorem rmay_any (c : CallIn) (v : Value) (w : World) (hv : ReadsB w v c.d) (hs : c.s.size ≤ 1048576) :
    Calls Try.prog 10 #[callV c v] w fun e w' => e = .returned (.bool (mayB c)) ∧ Below w.heap.size w w' := by
  obtain ⟨A, cc, rfl⟩ := hv.slice
  obtain ⟨k, s, a, d, n⟩ := c
  simp only [callV] at *
  have hHC : Calls Try.prog 23 #[.string s] (w.alloc (.cells #[.int .i64 k, .string s, .int .i64 a, .slice A d.length cc, .int .i64 n] 30)) fun e w' => e = .returned (.int .i64 (checkE s)) ∧ Below w.heap.size w w' ∧ w'.cell? ⟨w.heap.size, 0, none⟩ = some (.int .i64 k) ∧ w'.cell? ⟨w.heap.size, 1, none⟩ = some (.string s) ∧ w'.cell? ⟨w.heap.size, 2, none⟩ = some (.int .i64 a) ∧ w'.cell? ⟨w.heap.size, 3, none⟩ = some (.slice A d.length cc) ∧ w'.cell? ⟨w.heap.size, 4, none⟩ = some (.int .i64 n) := by
    refine (rcheck_any s _ hs).mono ?_
    rintro e w' ⟨rfl, hb⟩
    have hbx := (hb.block w.heap.size (by simp)).trans (heap_alloc_new w _)
    exact ⟨rfl, ((Below.refl w.heap.size w).alloc (Nat.le_refl _) _).trans (hb.mono (by simp)), by rw [cell_of_row _ _ 0 _ _ _ hbx]; rfl, by rw [cell_of_row _ _ 1 _ _ _ hbx]; rfl, by rw [cell_of_row _ _ 2 _ _ _ hbx]; rfl, by rw [cell_of_row _ _ 3 _ _ _ hbx]; rfl, by rw [cell_of_row _ _ 4 _ _ _ hbx]; rfl⟩
  have HC := Lib.hid hHC
  have HB0 : Hid (∀ o, Below w.heap.size w (w.alloc o)) := fun o => (Below.refl _ _).alloc (Nat.le_refl _) o
  have HM : Hid (mayB ⟨k, s, a, d, n⟩ = decide (1 ≤ k ∧ k < 8 ∧ checkE s = 0 ∧ 0 ≤ a ∧ 0 ≤ n ∧ d.length ≤ 4096 ∧ (a = 0 ∨ k = 2 ∨ k = 5) ∧ (n = 0 ∨ k = 5 ∨ k = 4) ∧ (d.length = 0 ∨ k = 2 ∨ k = 3))) := by
    show mayB _ = _
    unfold mayB MayC
    congr
  have bne : ∀ (x y : Int), x ≠ y → (x == y) = false ∧ (x != y) = true := fun x y h => ⟨beq_eq_false_iff_ne.2 h, bne_iff_ne.2 h⟩
  have beq : ∀ (x y : Int), x = y → (x == y) = true ∧ (x != y) = false := fun x y h => by subst h; simp
  clear hv hs hHC
  generalize checkE s = ce at *
  by_cases p0 : k < 1
  · have HP : Hid (k < 1) := p0
    clear bne beq
    go_enter Try.func10, Try.ntmps10
    go_wp2_with fail
    go_ret
    exact ⟨by have := HP.out; rw [show mayB ⟨k, s, a, d, n⟩ = false from HM.out.trans (decide_eq_false (by omega))]; rfl, HB0.out _⟩
  · by_cases p1 : 8 ≤ k
    · have HP : Hid (¬ k < 1 ∧ 8 ≤ k) := ⟨p0, p1⟩
      clear bne beq
      go_enter Try.func10, Try.ntmps10
      go_wp2_with fail
      go_ret
      exact ⟨by have := HP.out; rw [show mayB ⟨k, s, a, d, n⟩ = false from HM.out.trans (decide_eq_false (by omega))]; rfl, HB0.out _⟩
    · by_cases p2 : ce = 0
      · by_cases p3 : a < 0
        · have HP : Hid (¬ k < 1 ∧ ¬ 8 ≤ k ∧ ce = 0 ∧ a < 0) := ⟨p0, p1, p2, p3⟩
          have p2q := beq _ _ p2
          clear p2
          clear bne beq
          go_enter Try.func10, Try.ntmps10
          go_wp2_with (go_at_call 23; refine HC.out.mono ?_; rintro e w1 ⟨rfl, hb1, b0, b1, b2, b3, b4⟩; have HB1 := Lib.hid hb1; clear hb1)
          go_ret
          exact ⟨by have := HP.out; rw [show mayB ⟨k, s, a, d, n⟩ = false from HM.out.trans (decide_eq_false (by omega))]; rfl, HB1.out⟩
        · by_cases p4 : n < 0
          · have HP : Hid (¬ k < 1 ∧ ¬ 8 ≤ k ∧ ce = 0 ∧ ¬ a < 0 ∧ n < 0) := ⟨p0, p1, p2, p3, p4⟩
            have p2q := beq _ _ p2
            clear p2
            clear bne beq
            go_enter Try.func10, Try.ntmps10
            go_wp2_with (go_at_call 23; refine HC.out.mono ?_; rintro e w1 ⟨rfl, hb1, b0, b1, b2, b3, b4⟩; have HB1 := Lib.hid hb1; clear hb1)
            go_ret
            exact ⟨by have := HP.out; rw [show mayB ⟨k, s, a, d, n⟩ = false from HM.out.trans (decide_eq_false (by omega))]; rfl, HB1.out⟩
          · by_cases p5 : (4096 : Int) < (d.length : Int)
            · have HP : Hid (¬ k < 1 ∧ ¬ 8 ≤ k ∧ ce = 0 ∧ ¬ a < 0 ∧ ¬ n < 0 ∧ (4096 : Int) < (d.length : Int)) := ⟨p0, p1, p2, p3, p4, p5⟩
              have p2q := beq _ _ p2
              clear p2
              clear bne beq
              go_enter Try.func10, Try.ntmps10
              go_wp2_with (go_at_call 23; refine HC.out.mono ?_; rintro e w1 ⟨rfl, hb1, b0, b1, b2, b3, b4⟩; have HB1 := Lib.hid hb1; clear hb1)
              go_ret
              exact ⟨by have := HP.out; rw [show mayB ⟨k, s, a, d, n⟩ = false from HM.out.trans (decide_eq_false (by omega))]; rfl, HB1.out⟩
            · by_cases p6 : 0 < a
              · by_cases p7 : k = 2
                · by_cases p8 : 0 < n
                  · have p9 : ¬ k = 5 := by omega
                    have p10 : ¬ k = 4 := by omega
                    have HP : Hid (¬ k < 1 ∧ ¬ 8 ≤ k ∧ ce = 0 ∧ ¬ a < 0 ∧ ¬ n < 0 ∧ ¬ (4096 : Int) < (d.length : Int) ∧ 0 < a ∧ k = 2 ∧ 0 < n ∧ ¬ k = 5 ∧ ¬ k = 4) := ⟨p0, p1, p2, p3, p4, p5, p6, p7, p8, p9, p10⟩
                    have p2q := beq _ _ p2
                    have p7q := beq _ _ p7
                    have p9q := bne _ _ p9
                    have p10q := bne _ _ p10
                    clear p2 p7 p9 p10
                    clear bne beq
                    go_enter Try.func10, Try.ntmps10
                    go_wp2_with (go_at_call 23; refine HC.out.mono ?_; rintro e w1 ⟨rfl, hb1, b0, b1, b2, b3, b4⟩; have HB1 := Lib.hid hb1; clear hb1)
                    go_ret
                    exact ⟨by have := HP.out; rw [show mayB ⟨k, s, a, d, n⟩ = false from HM.out.trans (decide_eq_false (by omega))]; rfl, HB1.out⟩
                  · by_cases p9 : (d.length : Int) = 0
                    · have HP : Hid (¬ k < 1 ∧ ¬ 8 ≤ k ∧ ce = 0 ∧ ¬ a < 0 ∧ ¬ n < 0 ∧ ¬ (4096 : Int) < (d.length : Int) ∧ 0 < a ∧ k = 2 ∧ ¬ 0 < n ∧ (d.length : Int) = 0) := ⟨p0, p1, p2, p3, p4, p5, p6, p7, p8, p9⟩
                      have p2q := beq _ _ p2
                      have p7q := beq _ _ p7
                      have p9q := beq _ _ p9
                      clear p2 p7 p9
                      clear bne beq
                      go_enter Try.func10, Try.ntmps10
                      go_wp2_with (go_at_call 23; refine HC.out.mono ?_; rintro e w1 ⟨rfl, hb1, b0, b1, b2, b3, b4⟩; have HB1 := Lib.hid hb1; clear hb1)
                      go_ret
                      exact ⟨by have := HP.out; rw [show mayB ⟨k, s, a, d, n⟩ = true from HM.out.trans (decide_eq_true (by omega))]; rfl, HB1.out⟩
                    · have HP : Hid (¬ k < 1 ∧ ¬ 8 ≤ k ∧ ce = 0 ∧ ¬ a < 0 ∧ ¬ n < 0 ∧ ¬ (4096 : Int) < (d.length : Int) ∧ 0 < a ∧ k = 2 ∧ ¬ 0 < n ∧ ¬ (d.length : Int) = 0) := ⟨p0, p1, p2, p3, p4, p5, p6, p7, p8, p9⟩
                      have p2q := beq _ _ p2
                      have p7q := beq _ _ p7
                      have p9q := bne _ _ p9
                      clear p2 p7 p9
                      clear bne beq
                      go_enter Try.func10, Try.ntmps10
                      go_wp2_with (go_at_call 23; refine HC.out.mono ?_; rintro e w1 ⟨rfl, hb1, b0, b1, b2, b3, b4⟩; have HB1 := Lib.hid hb1; clear hb1)
                      go_ret
                      exact ⟨by have := HP.out; rw [show mayB ⟨k, s, a, d, n⟩ = true from HM.out.trans (decide_eq_true (by omega))]; rfl, HB1.out⟩
                · by_cases p8 : k = 5
                  · by_cases p9 : 0 < n
                    · by_cases p10 : (d.length : Int) = 0
                      · have HP : Hid (¬ k < 1 ∧ ¬ 8 ≤ k ∧ ce = 0 ∧ ¬ a < 0 ∧ ¬ n < 0 ∧ ¬ (4096 : Int) < (d.length : Int) ∧ 0 < a ∧ ¬ k = 2 ∧ k = 5 ∧ 0 < n ∧ (d.length : Int) = 0) := ⟨p0, p1, p2, p3, p4, p5, p6, p7, p8, p9, p10⟩
                        have p2q := beq _ _ p2
                        have p7q := bne _ _ p7
                        have p8q := beq _ _ p8
                        have p10q := beq _ _ p10
                        clear p2 p7 p8 p10
                        clear bne beq
                        go_enter Try.func10, Try.ntmps10
                        go_wp2_with (go_at_call 23; refine HC.out.mono ?_; rintro e w1 ⟨rfl, hb1, b0, b1, b2, b3, b4⟩; have HB1 := Lib.hid hb1; clear hb1)
                        go_ret
                        exact ⟨by have := HP.out; rw [show mayB ⟨k, s, a, d, n⟩ = true from HM.out.trans (decide_eq_true (by omega))]; rfl, HB1.out⟩
                      · have p11 : ¬ k = 3 := by omega
                        have HP : Hid (¬ k < 1 ∧ ¬ 8 ≤ k ∧ ce = 0 ∧ ¬ a < 0 ∧ ¬ n < 0 ∧ ¬ (4096 : Int) < (d.length : Int) ∧ 0 < a ∧ ¬ k = 2 ∧ k = 5 ∧ 0 < n ∧ ¬ (d.length : Int) = 0 ∧ ¬ k = 3) := ⟨p0, p1, p2, p3, p4, p5, p6, p7, p8, p9, p10, p11⟩
                        have p2q := beq _ _ p2
                        have p7q := bne _ _ p7
                        have p8q := beq _ _ p8
                        have p10q := bne _ _ p10
                        have p11q := bne _ _ p11
                        clear p2 p7 p8 p10 p11
                        clear bne beq
                        go_enter Try.func10, Try.ntmps10
                        go_wp2_with (go_at_call 23; refine HC.out.mono ?_; rintro e w1 ⟨rfl, hb1, b0, b1, b2, b3, b4⟩; have HB1 := Lib.hid hb1; clear hb1)
                        go_ret
                        exact ⟨by have := HP.out; rw [show mayB ⟨k, s, a, d, n⟩ = false from HM.out.trans (decide_eq_false (by omega))]; rfl, HB1.out⟩
                    · by_cases p10 : (d.length : Int) = 0
                      · have HP : Hid (¬ k < 1 ∧ ¬ 8 ≤ k ∧ ce = 0 ∧ ¬ a < 0 ∧ ¬ n < 0 ∧ ¬ (4096 : Int) < (d.length : Int) ∧ 0 < a ∧ ¬ k = 2 ∧ k = 5 ∧ ¬ 0 < n ∧ (d.length : Int) = 0) := ⟨p0, p1, p2, p3, p4, p5, p6, p7, p8, p9, p10⟩
                        have p2q := beq _ _ p2
                        have p7q := bne _ _ p7
                        have p8q := beq _ _ p8
                        have p10q := beq _ _ p10
                        clear p2 p7 p8 p10
                        clear bne beq
                        go_enter Try.func10, Try.ntmps10
                        go_wp2_with (go_at_call 23; refine HC.out.mono ?_; rintro e w1 ⟨rfl, hb1, b0, b1, b2, b3, b4⟩; have HB1 := Lib.hid hb1; clear hb1)
                        go_ret
                        exact ⟨by have := HP.out; rw [show mayB ⟨k, s, a, d, n⟩ = true from HM.out.trans (decide_eq_true (by omega))]; rfl, HB1.out⟩
                      · have p11 : ¬ k = 3 := by omega
                        have HP : Hid (¬ k < 1 ∧ ¬ 8 ≤ k ∧ ce = 0 ∧ ¬ a < 0 ∧ ¬ n < 0 ∧ ¬ (4096 : Int) < (d.length : Int) ∧ 0 < a ∧ ¬ k = 2 ∧ k = 5 ∧ ¬ 0 < n ∧ ¬ (d.length : Int) = 0 ∧ ¬ k = 3) := ⟨p0, p1, p2, p3, p4, p5, p6, p7, p8, p9, p10, p11⟩
                        have p2q := beq _ _ p2
                        have p7q := bne _ _ p7
                        have p8q := beq _ _ p8
                        have p10q := bne _ _ p10
                        have p11q := bne _ _ p11
                        clear p2 p7 p8 p10 p11
                        clear bne beq
                        go_enter Try.func10, Try.ntmps10
                        go_wp2_with (go_at_call 23; refine HC.out.mono ?_; rintro e w1 ⟨rfl, hb1, b0, b1, b2, b3, b4⟩; have HB1 := Lib.hid hb1; clear hb1)
                        go_ret
                        exact ⟨by have := HP.out; rw [show mayB ⟨k, s, a, d, n⟩ = false from HM.out.trans (decide_eq_false (by omega))]; rfl, HB1.out⟩
                  · have HP : Hid (¬ k < 1 ∧ ¬ 8 ≤ k ∧ ce = 0 ∧ ¬ a < 0 ∧ ¬ n < 0 ∧ ¬ (4096 : Int) < (d.length : Int) ∧ 0 < a ∧ ¬ k = 2 ∧ ¬ k = 5) := ⟨p0, p1, p2, p3, p4, p5, p6, p7, p8⟩
                    have p2q := beq _ _ p2
                    have p7q := bne _ _ p7
                    have p8q := bne _ _ p8
                    clear p2 p7 p8
                    clear bne beq
                    go_enter Try.func10, Try.ntmps10
                    go_wp2_with (go_at_call 23; refine HC.out.mono ?_; rintro e w1 ⟨rfl, hb1, b0, b1, b2, b3, b4⟩; have HB1 := Lib.hid hb1; clear hb1)
                    go_ret
                    exact ⟨by have := HP.out; rw [show mayB ⟨k, s, a, d, n⟩ = false from HM.out.trans (decide_eq_false (by omega))]; rfl, HB1.out⟩
              · by_cases p7 : 0 < n
                · by_cases p8 : k = 5
                  · by_cases p9 : (d.length : Int) = 0
                    · have HP : Hid (¬ k < 1 ∧ ¬ 8 ≤ k ∧ ce = 0 ∧ ¬ a < 0 ∧ ¬ n < 0 ∧ ¬ (4096 : Int) < (d.length : Int) ∧ ¬ 0 < a ∧ 0 < n ∧ k = 5 ∧ (d.length : Int) = 0) := ⟨p0, p1, p2, p3, p4, p5, p6, p7, p8, p9⟩
                      have p2q := beq _ _ p2
                      have p8q := beq _ _ p8
                      have p9q := beq _ _ p9
                      clear p2 p8 p9
                      clear bne beq
                      go_enter Try.func10, Try.ntmps10
                      go_wp2_with (go_at_call 23; refine HC.out.mono ?_; rintro e w1 ⟨rfl, hb1, b0, b1, b2, b3, b4⟩; have HB1 := Lib.hid hb1; clear hb1)
                      go_ret
                      exact ⟨by have := HP.out; rw [show mayB ⟨k, s, a, d, n⟩ = true from HM.out.trans (decide_eq_true (by omega))]; rfl, HB1.out⟩
                    · have p10 : ¬ k = 2 := by omega
                      have p11 : ¬ k = 3 := by omega
                      have HP : Hid (¬ k < 1 ∧ ¬ 8 ≤ k ∧ ce = 0 ∧ ¬ a < 0 ∧ ¬ n < 0 ∧ ¬ (4096 : Int) < (d.length : Int) ∧ ¬ 0 < a ∧ 0 < n ∧ k = 5 ∧ ¬ (d.length : Int) = 0 ∧ ¬ k = 2 ∧ ¬ k = 3) := ⟨p0, p1, p2, p3, p4, p5, p6, p7, p8, p9, p10, p11⟩
                      have p2q := beq _ _ p2
                      have p8q := beq _ _ p8
                      have p9q := bne _ _ p9
                      have p10q := bne _ _ p10
                      have p11q := bne _ _ p11
                      clear p2 p8 p9 p10 p11
                      clear bne beq
                      go_enter Try.func10, Try.ntmps10
                      go_wp2_with (go_at_call 23; refine HC.out.mono ?_; rintro e w1 ⟨rfl, hb1, b0, b1, b2, b3, b4⟩; have HB1 := Lib.hid hb1; clear hb1)
                      go_ret
                      exact ⟨by have := HP.out; rw [show mayB ⟨k, s, a, d, n⟩ = false from HM.out.trans (decide_eq_false (by omega))]; rfl, HB1.out⟩
                  · by_cases p9 : k = 4
                    · by_cases p10 : (d.length : Int) = 0
                      · have HP : Hid (¬ k < 1 ∧ ¬ 8 ≤ k ∧ ce = 0 ∧ ¬ a < 0 ∧ ¬ n < 0 ∧ ¬ (4096 : Int) < (d.length : Int) ∧ ¬ 0 < a ∧ 0 < n ∧ ¬ k = 5 ∧ k = 4 ∧ (d.length : Int) = 0) := ⟨p0, p1, p2, p3, p4, p5, p6, p7, p8, p9, p10⟩
                        have p2q := beq _ _ p2
                        have p8q := bne _ _ p8
                        have p9q := beq _ _ p9
                        have p10q := beq _ _ p10
                        clear p2 p8 p9 p10
                        clear bne beq
                        go_enter Try.func10, Try.ntmps10
                        go_wp2_with (go_at_call 23; refine HC.out.mono ?_; rintro e w1 ⟨rfl, hb1, b0, b1, b2, b3, b4⟩; have HB1 := Lib.hid hb1; clear hb1)
                        go_ret
                        exact ⟨by have := HP.out; rw [show mayB ⟨k, s, a, d, n⟩ = true from HM.out.trans (decide_eq_true (by omega))]; rfl, HB1.out⟩
                      · have p11 : ¬ k = 2 := by omega
                        have p12 : ¬ k = 3 := by omega
                        have HP : Hid (¬ k < 1 ∧ ¬ 8 ≤ k ∧ ce = 0 ∧ ¬ a < 0 ∧ ¬ n < 0 ∧ ¬ (4096 : Int) < (d.length : Int) ∧ ¬ 0 < a ∧ 0 < n ∧ ¬ k = 5 ∧ k = 4 ∧ ¬ (d.length : Int) = 0 ∧ ¬ k = 2 ∧ ¬ k = 3) := ⟨p0, p1, p2, p3, p4, p5, p6, p7, p8, p9, p10, p11, p12⟩
                        have p2q := beq _ _ p2
                        have p8q := bne _ _ p8
                        have p9q := beq _ _ p9
                        have p10q := bne _ _ p10
                        have p11q := bne _ _ p11
                        have p12q := bne _ _ p12
                        clear p2 p8 p9 p10 p11 p12
                        clear bne beq
                        go_enter Try.func10, Try.ntmps10
                        go_wp2_with (go_at_call 23; refine HC.out.mono ?_; rintro e w1 ⟨rfl, hb1, b0, b1, b2, b3, b4⟩; have HB1 := Lib.hid hb1; clear hb1)
                        go_ret
                        exact ⟨by have := HP.out; rw [show mayB ⟨k, s, a, d, n⟩ = false from HM.out.trans (decide_eq_false (by omega))]; rfl, HB1.out⟩
                    · have HP : Hid (¬ k < 1 ∧ ¬ 8 ≤ k ∧ ce = 0 ∧ ¬ a < 0 ∧ ¬ n < 0 ∧ ¬ (4096 : Int) < (d.length : Int) ∧ ¬ 0 < a ∧ 0 < n ∧ ¬ k = 5 ∧ ¬ k = 4) := ⟨p0, p1, p2, p3, p4, p5, p6, p7, p8, p9⟩
                      have p2q := beq _ _ p2
                      have p8q := bne _ _ p8
                      have p9q := bne _ _ p9
                      clear p2 p8 p9
                      clear bne beq
                      go_enter Try.func10, Try.ntmps10
                      go_wp2_with (go_at_call 23; refine HC.out.mono ?_; rintro e w1 ⟨rfl, hb1, b0, b1, b2, b3, b4⟩; have HB1 := Lib.hid hb1; clear hb1)
                      go_ret
                      exact ⟨by have := HP.out; rw [show mayB ⟨k, s, a, d, n⟩ = false from HM.out.trans (decide_eq_false (by omega))]; rfl, HB1.out⟩
                · by_cases p8 : (d.length : Int) = 0
                  · have HP : Hid (¬ k < 1 ∧ ¬ 8 ≤ k ∧ ce = 0 ∧ ¬ a < 0 ∧ ¬ n < 0 ∧ ¬ (4096 : Int) < (d.length : Int) ∧ ¬ 0 < a ∧ ¬ 0 < n ∧ (d.length : Int) = 0) := ⟨p0, p1, p2, p3, p4, p5, p6, p7, p8⟩
                    have p2q := beq _ _ p2
                    have p8q := beq _ _ p8
                    clear p2 p8
                    clear bne beq
                    go_enter Try.func10, Try.ntmps10
                    go_wp2_with (go_at_call 23; refine HC.out.mono ?_; rintro e w1 ⟨rfl, hb1, b0, b1, b2, b3, b4⟩; have HB1 := Lib.hid hb1; clear hb1)
                    go_ret
                    exact ⟨by have := HP.out; rw [show mayB ⟨k, s, a, d, n⟩ = true from HM.out.trans (decide_eq_true (by omega))]; rfl, HB1.out⟩
                  · by_cases p9 : k = 2
                    · have HP : Hid (¬ k < 1 ∧ ¬ 8 ≤ k ∧ ce = 0 ∧ ¬ a < 0 ∧ ¬ n < 0 ∧ ¬ (4096 : Int) < (d.length : Int) ∧ ¬ 0 < a ∧ ¬ 0 < n ∧ ¬ (d.length : Int) = 0 ∧ k = 2) := ⟨p0, p1, p2, p3, p4, p5, p6, p7, p8, p9⟩
                      have p2q := beq _ _ p2
                      have p8q := bne _ _ p8
                      have p9q := beq _ _ p9
                      clear p2 p8 p9
                      clear bne beq
                      go_enter Try.func10, Try.ntmps10
                      go_wp2_with (go_at_call 23; refine HC.out.mono ?_; rintro e w1 ⟨rfl, hb1, b0, b1, b2, b3, b4⟩; have HB1 := Lib.hid hb1; clear hb1)
                      go_ret
                      exact ⟨by have := HP.out; rw [show mayB ⟨k, s, a, d, n⟩ = true from HM.out.trans (decide_eq_true (by omega))]; rfl, HB1.out⟩
                    · by_cases p10 : k = 3
                      · have HP : Hid (¬ k < 1 ∧ ¬ 8 ≤ k ∧ ce = 0 ∧ ¬ a < 0 ∧ ¬ n < 0 ∧ ¬ (4096 : Int) < (d.length : Int) ∧ ¬ 0 < a ∧ ¬ 0 < n ∧ ¬ (d.length : Int) = 0 ∧ ¬ k = 2 ∧ k = 3) := ⟨p0, p1, p2, p3, p4, p5, p6, p7, p8, p9, p10⟩
                        have p2q := beq _ _ p2
                        have p8q := bne _ _ p8
                        have p9q := bne _ _ p9
                        have p10q := beq _ _ p10
                        clear p2 p8 p9 p10
                        clear bne beq
                        go_enter Try.func10, Try.ntmps10
                        go_wp2_with (go_at_call 23; refine HC.out.mono ?_; rintro e w1 ⟨rfl, hb1, b0, b1, b2, b3, b4⟩; have HB1 := Lib.hid hb1; clear hb1)
                        go_ret
                        exact ⟨by have := HP.out; rw [show mayB ⟨k, s, a, d, n⟩ = true from HM.out.trans (decide_eq_true (by omega))]; rfl, HB1.out⟩
                      · have HP : Hid (¬ k < 1 ∧ ¬ 8 ≤ k ∧ ce = 0 ∧ ¬ a < 0 ∧ ¬ n < 0 ∧ ¬ (4096 : Int) < (d.length : Int) ∧ ¬ 0 < a ∧ ¬ 0 < n ∧ ¬ (d.length : Int) = 0 ∧ ¬ k = 2 ∧ ¬ k = 3) := ⟨p0, p1, p2, p3, p4, p5, p6, p7, p8, p9, p10⟩
                        have p2q := beq _ _ p2
                        have p8q := bne _ _ p8
                        have p9q := bne _ _ p9
                        have p10q := bne _ _ p10
                        clear p2 p8 p9 p10
                        clear bne beq
                        go_enter Try.func10, Try.ntmps10
                        go_wp2_with (go_at_call 23; refine HC.out.mono ?_; rintro e w1 ⟨rfl, hb1, b0, b1, b2, b3, b4⟩; have HB1 := Lib.hid hb1; clear hb1)
                        go_ret
                        exact ⟨by have := HP.out; rw [show mayB ⟨k, s, a, d, n⟩ = false from HM.out.trans (decide_eq_false (by omega))]; rfl, HB1.out⟩
      · have HP : Hid (¬ k < 1 ∧ ¬ 8 ≤ k ∧ ¬ ce = 0) := ⟨p0, p1, p2⟩
        have p2q := bne _ _ p2
        clear p2
        clear bne beq
        go_enter Try.func10, Try.ntmps10
        go_wp2_with (go_at_call 23; refine HC.out.mono ?_; rintro e w1 ⟨rfl, hb1, b0, b1, b2, b3, b4⟩; have HB1 := Lib.hid hb1; clear hb1)
        go_ret
        exact ⟨by have := HP.out; rw [show mayB ⟨k, s, a, d, n⟩ = false from HM.out.trans (decide_eq_false (by omega))]; rfl, HB1.out⟩

theorem errno_any (b : Bool) (w : World) : Calls Try.prog 16 #[.bool b] w fun e w' => e = .returned (.int .i64 (if b then 0 else 1)) ∧ w' = w := by
  cases b
  all_goals
    go_enter Try.func16, Try.ntmps16
    go_wp2_with fail
    go_ret
    exact ⟨rfl, rfl⟩

theorem rwrites_any (c : CallIn) (v : Value) (w : World) (hv : ∃ A m, v = .slice A c.d.length m) : Calls Try.prog 17 #[callV c v] w fun e w' => e = .returned (.bool (writesB c.k)) ∧ Below w.heap.size w w' := by
  obtain ⟨A, m, rfl⟩ := hv
  obtain ⟨k, s, a, d, n⟩ := c
  simp only [callV, writesB]
  have HB : Hid (∀ o, Below w.heap.size w (w.alloc o)) := fun o => (Below.refl _ _).alloc (Nat.le_refl _) o
  have hcase : (k != 5) = false ∨ ((k != 5) = true ∧ (k != 6) = false) ∨ ((k != 5) = true ∧ (k != 6) = true) := by
    cases (k != 5) <;> cases (k != 6) <;> simp
  rcases hcase with h1 | ⟨h1, h2⟩ | ⟨h1, h2⟩
  all_goals
    go_enter Try.func17, Try.ntmps17
    go_wp2_with fail
    go_ret
    exact ⟨by simp [*], HB.out _⟩
/-- alike: all that a reply tells -/
def sameR (r q : RepIn) : Bool := (r.code == q.code) && ((r.size == q.size) && (r.d == q.d))
end Go.Proofs.Ytbbbdhpihcbmmaa
