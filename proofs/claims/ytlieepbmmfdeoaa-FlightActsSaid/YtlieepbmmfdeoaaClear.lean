/- Clear: slices.DeleteFunc with a closure over the node. -/
import Derived.Test.YtlieepbmmfdeoaaFl
namespace Go.Proofs.Ytlieepbmmfdeoaa
open Go.RowKit Own

def goesTo (node : Int) (p : Msg × Value) : Bool := p.1.to == node
def nodeFn (nb : Nat) : Value := .func (.func 28) #[] #[.pointer (some ⟨nb, 0, none⟩)]
theorem clo_any (nb : Nat) (node fr to : Int) (v : Value) (A : Option Addr) (n c : Nat) (w : World) (hv : v = .slice A n c) (hN : w.cell? ⟨nb, 0, none⟩ = some (.int .i64 node)) :
    Calls Try.prog 28 #[.agg #[.int .i64 fr, .int .i64 to, v], .pointer (some ⟨nb, 0, none⟩)] w fun e w' => e = .returned (.bool (to == node)) ∧ Below w.heap.size w w' := by
  subst hv
  have h2 : (w.alloc (.cells #[.int .i64 fr, .int .i64 to, .slice A n c] 55)).cell? ⟨nb, 0, none⟩ = some (.int .i64 node) := (((Below.refl w.heap.size w).alloc (Nat.le_refl _) _).cell (World.block_lt_of_cell? w _ hN)).trans hN
  go_enter Try.func28, Try.ntmps28
  go_wp2_with fail
  go_ret
  exact ⟨rfl, (Below.refl _ _).alloc (Nat.le_refl _) _⟩

theorem row_cells {w : World} {B g cap : Nat} {M : List (Msg × Value)} (h : w.ownsRow B 55 3 (.slice (some ⟨g, 0, none⟩) M.length cap) M.length (cellsOf M)) (k : Nat) (hk : k < M.length) :
    w.cell? ⟨g, k * 3, none⟩ = some (.int .i64 (M[k]'hk).1.fr) ∧ w.cell? ⟨g, k * 3 + 1, none⟩ = some (.int .i64 (M[k]'hk).1.to) ∧ w.cell? ⟨g, k * 3 + 2, none⟩ = some (M[k]'hk).2 := by
  have e0 := h.cellAt (k * 3) (by omega)
  have e1 := h.cellAt (k * 3 + 1) (by omega)
  have e2 := h.cellAt (k * 3 + 2) (by omega)
  have c0 := cells_at hk 0 (by omega)
  rw [Nat.add_zero] at c0
  rw [c0] at e0
  rw [cells_at hk 1 (by omega)] at e1
  rw [cells_at hk 2 (by omega)] at e2
  exact ⟨e0, e1, e2⟩

def idxI (node : Int) (M : List (Msg × Value)) : Int := if M.findIdx (goesTo node) < M.length then (M.findIdx (goesTo node) : Int) else -1

set_option maxRecDepth 100000 in
theorem idx_any (B nb g cap : Nat) (node : Int) (M : List (Msg × Value)) (w : World) (hO : w.ownsRow B 55 3 (.slice (some ⟨g, 0, none⟩) M.length cap) M.length (cellsOf M)) (hN : w.cell? ⟨nb, 0, none⟩ = some (.int .i64 node)) (hM : M.length ≤ 16384)
    (hs : ∀ p ∈ M, ∃ A n c, p.2 = .slice A n c) :
    Calls Try.prog 29 #[.slice (some ⟨g, 0, none⟩) M.length cap, nodeFn nb] w fun e w' => e = .returned (.int .i64 (idxI node M)) ∧ Below w.heap.size w w' := by
  have HO := Lib.hid hO
  have HN := Lib.hid hN
  have HS := Lib.hid hs
  have hM' : (M.length : Int) ≤ 16384 := by omega
  have HNL : Hid (nb < w.heap.size) := World.block_lt_of_cell? w _ hN
  clear hO hN hs hM
  unfold nodeFn
  go_enter Try.func29, Try.ntmps29
  go_wp2_with fail
  go_loopw [8] (fun i wr => ∃ j : Nat, i = .int .i64 j ∧ j ≤ M.length ∧ Hid (Below w.heap.size w wr ∧ ∀ k (hk : k < M.length), k < j → goesTo node (M[k]'hk) = false)) (fun i _ => M.length - (intOf i).toNat)
  case atStart => exact ⟨0, rfl, Nat.zero_le _, Below.refl _ _, fun k _ h => absurd h (Nat.not_lt_zero _)⟩
  case round =>
    obtain ⟨j, rfl, hjk, HJ⟩ := hrel
    obtain ⟨wL, rfl⟩ : ∃ wo : World, wo = wr := ⟨_, rfl⟩
    by_cases hj : j < M.length
    · have hj' : (j : Int) < (M.length : Int) := by omega
      obtain ⟨e0, e1, e2⟩ := row_cells (own_below HO.out HJ.out.1) j hj
      obtain ⟨A, n, c, hv⟩ := HS.out _ (List.getElem_mem hj)
      have hbd : wL.cell? ⟨nb, 0, none⟩ = some (.int .i64 node) := (HJ.out.1.cell (p := ⟨nb, 0, none⟩) HNL.out).trans HN.out
      rw [hv] at e2
      have HC := Lib.hid (clo_any nb node (M[j]'hj).1.fr (M[j]'hj).1.to _ A n c wL rfl hbd)
      clear hv hbd
      obtain ⟨p, hp⟩ : ∃ p, M[j]'hj = p := ⟨_, rfl⟩
      rw [hp] at e0 e1 HC
      have HG := Lib.hid hp
      clear hp
      obtain ⟨⟨fr, to, b⟩, v⟩ := p
      simp only [] at e0 e1 e2 HC
      cases hq : (to == node) with
      | true =>
        have HQ := Lib.hid hq
        go_wp2_with (go_at_call 28; refine HC.out.mono ?_; rintro e w2 ⟨rfl, hb2⟩; rw [HQ.out])
        go_ret
        have hidx : M.findIdx (goesTo node) = j := by
          rw [List.findIdx_eq hj]
          refine ⟨by rw [HG.out]; exact HQ.out, fun k hk => ?_⟩
          have := HJ.out.2 k (by omega) hk
          simpa using this
        refine ⟨?_, HJ.out.1.trans (hb2.mono HJ.out.1.size)⟩
        unfold idxI
        rw [hidx, if_pos hj]
        rfl
      | false =>
        have HQ := Lib.hid hq
        go_wp2_with (go_at_call 28; refine HC.out.mono ?_; rintro e w2 ⟨rfl, hb2⟩; rw [HQ.out])
        go_roundw
        case rel =>
          refine ⟨j + 1, by go_num, by omega, HJ.out.1.trans (hb2.mono HJ.out.1.size), fun k hk hlt => ?_⟩
          by_cases hkj : k = j
          · subst hkj; rw [HG.out]; exact HQ.out
          · exact HJ.out.2 k hk (by omega)
        case measure => simp [intOf]; omega
    · go_wp2_with fail
      go_ret
      have hidx : ¬ M.findIdx (goesTo node) < M.length := by
        intro hlt
        have h1 := List.findIdx_getElem (w := hlt)
        rw [HJ.out.2 _ hlt (by omega)] at h1
        cases h1
      refine ⟨?_, HJ.out.1⟩
      unfold idxI
      rw [if_neg hidx]
      rfl
end Go.Proofs.Ytlieepbmmfdeoaa
