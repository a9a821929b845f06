/- The walk of the reference's end: where a call ends. -/
import Derived.Test.YtbbbdhpihcbmmaaPEv
import Derived.BigQuiet
import Derived.Deep.Cut
import Derived.Test.YtbbbdhpihcbmmaaGBase
namespace Go.Proofs.Ytbbbdhpihcbmmaa
open Go.RowKit Own

theorem bel_drewN (w : World) (n : Nat) : Below w.heap.size w (w.drewN n) := ⟨rfl, rfl, rfl, Nat.le_refl _, fun _ _ => rfl⟩
set_option maxHeartbeats 1000000 in
theorem rend_any (kc ks : Int) (v : Value) (xs : List EvIn) (w : World) (hv : ReadsEvs w v xs) (hn : xs.length ≤ 140737488351232) :
    Calls Try.prog 37 #[v, .agg #[.int .i64 kc, .int .i64 ks]] w fun e w' => e = .returned (.int .i64 (endI kc ks xs)) ∧ Below w.heap.size w w' := by
  obtain ⟨Av, cv, rfl⟩ := hv.slice
  have HV := Lib.hid hv
  have hM' : (xs.length : Int) ≤ 140737488351232 := by omega
  have HS : Hid (Below w.heap.size w (w.alloc (.cells #[.int .i64 kc, .int .i64 ks] 42)) ∧ (w.alloc (.cells #[.int .i64 kc, .int .i64 ks] 42)).heap[w.heap.size]? = some (.cells #[.int .i64 kc, .int .i64 ks] 42 (0, 0))) := ⟨(Below.refl _ _).alloc (Nat.le_refl _) _, heap_alloc_new w _⟩
  clear hv hn
  go_enter Try.func37, Try.ntmps37
  go_wp2_with fail
  go_loopw [5] (fun i wr => ∃ j : Nat, i = .int .i64 j ∧ j ≤ xs.length ∧ Hid (Below w.heap.size w wr ∧ wr.heap[w.heap.size]? = some (.cells #[.int .i64 kc, .int .i64 ks] 42 (0, 0)) ∧ ∀ k (hk : k < xs.length), k < j → endB kc ks (xs[k]'hk) = false)) (fun i _ => xs.length - (intOf i).toNat)
  case atStart => exact ⟨0, rfl, Nat.zero_le _, HS.out.1, HS.out.2, fun k _ h => absurd h (Nat.not_lt_zero _)⟩
  case round =>
    obtain ⟨j, rfl, hjk, HJ⟩ := hrel
    obtain ⟨wL, rfl⟩ : ∃ wo : World, wo = wr := ⟨_, rfl⟩
    by_cases hj : j < xs.length
    · have hj' : (j : Int) < (xs.length : Int) := by omega
      have hj0 : (0 : Int) ≤ (j : Int) := by omega
      obtain ⟨bb, off, cc, hvv, hact⟩ := ReadsEvs.at_ (HV.out.below HJ.out.1) hj
      cases hvv
      obtain ⟨dA, dc, rA, rc, ⟨e0, e1, e2, e3, e4, e5, e6, e7, e8, e9, e10, e11⟩, _, _⟩ := hact.cells
      have q0 := cell_of_row wL w.heap.size 0 _ _ _ HJ.out.2.1
      have q1 := cell_of_row wL w.heap.size 1 _ _ _ HJ.out.2.1
      simp only [List.getElem?_toArray, List.getElem?_cons_zero, List.getElem?_cons_succ] at q0 q1
      clear hact
      obtain ⟨x, hx⟩ : ∃ x, xs[j]'hj = x := ⟨_, rfl⟩
      rw [hx] at e0 e1 e2 e3 e4 e5 e6 e7 e8 e9 e10 e11
      have HG := Lib.hid hx
      clear hx
      obtain ⟨xc, xk, done, unk, ⟨k, s, a, d, n⟩, ⟨code, size, rd⟩⟩ := x
      dsimp only at e0 e1 e2 e3 e4 e5 e6 e7 e8 e9 e10 e11
      have hE := fun W => eq_key xc xk kc ks W
      have HB : Hid (endB kc ks ⟨xc, xk, done, unk, ⟨k, s, a, d, n⟩, ⟨code, size, rd⟩⟩ = (done && (xc == kc && xk == ks))) := rfl
      generalize (xc == kc && xk == ks) = E at *
      have HNo : Hid (endB kc ks ⟨xc, xk, done, unk, ⟨k, s, a, d, n⟩, ⟨code, size, rd⟩⟩ = false → ∀ k (hk : k < xs.length), k < j + 1 → endB kc ks (xs[k]'hk) = false) := fun h k hk hlt => by
        by_cases hkj : k = j
        · subst hkj; rw [HG.out]; exact h
        · exact HJ.out.2.2 k hk (by omega)
      cases done
      · go_upto_region 4 with (fail)
        go_quiet (fail)
        go_wp2_with fail
        go_roundw
        case rel => exact ⟨j + 1, by go_num, by omega, HJ.out.1.trans ((bel_drewN _ _).mono HJ.out.1.size), HJ.out.2.1, HNo.out (by rw [HB.out]; rfl)⟩
        case measure => simp [intOf]; omega
      · cases E
        · go_upto_region 4 with (fail)
          go_quiet (fail)
          go_wp2_with fail
          go_roundw
          case rel => exact ⟨j + 1, by go_num, by omega, HJ.out.1.trans ((bel_drewN _ _).mono HJ.out.1.size), HJ.out.2.1, HNo.out (by rw [HB.out]; rfl)⟩
          case measure => simp [intOf]; omega
        · go_upto_region 4 with (fail)
          go_quiet (fail)
          go_wp2_with fail
          go_ret
          have hidx : xs.findIdx (endB kc ks) = j := by
            rw [List.findIdx_eq hj]
            refine ⟨by rw [HG.out, HB.out]; rfl, fun k hk => ?_⟩
            have := HJ.out.2.2 k (by omega) hk
            simpa using this
          refine ⟨?_, HJ.out.1.trans ((bel_drewN _ _).mono HJ.out.1.size)⟩
          unfold endI
          rw [hidx, if_pos hj]
          rfl
    · have hj' : ¬ (j : Int) < (xs.length : Int) := by omega
      go_wp2_with fail
      go_ret
      have hno : ¬ xs.findIdx (endB kc ks) < xs.length := fun h => by
        have h1 := List.findIdx_getElem (w := h)
        rw [HJ.out.2.2 _ h (by omega)] at h1
        cases h1
      refine ⟨?_, HJ.out.1⟩
      unfold endI
      rw [if_neg hno]
      rfl
end Go.Proofs.Ytbbbdhpihcbmmaa
