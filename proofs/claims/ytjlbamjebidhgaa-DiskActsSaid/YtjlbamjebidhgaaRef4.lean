/- The walks of the reference's New and Rot. -/
import Derived.Test.YtjlbamjebidhgaaRef3
import Derived.Laws.BitsAllLaws
namespace Go.Proofs.Ytjlbamjebidhgaa
open Go.RowKit Own

theorem strV_one (l : List UInt8) : ∀ u ∈ [strV l], u.oneCell' = true := fun u hu => by
  rw [List.mem_singleton.1 hu]; rfl
theorem rnew_out (n : Int) (w : World) (h : n < 1 ∨ 4096 < n) :
    Calls Try.prog 14 #[.int .i64 n] w fun e w' => e = .returned (.tuple #[.pointer none, .int .i64 1]) ∧ w = w' := by
  rcases h with h | h
  · go_enter Try.func14, Try.ntmps14
    go_wp2_with fail
    go_ret2
    exact ⟨rfl, rfl⟩
  · have h1 : ¬ n < 1 := by omega
    go_enter Try.func14, Try.ntmps14
    go_wp2_with fail
    go_ret2
    exact ⟨rfl, rfl⟩
/-- the reference's disk while it is made -/
def Mk (w0 : World) (j : Nat) (w : World) : Prop := (∃ sv, RfAt w0.heap.size w0.heap.size sv (.slice none 0 0) (List.replicate j (zeros 64)) [] w) ∧ Below w0.heap.size w0 w
def RNewPost (n : Nat) (w : World) (e : Ending) (w' : World) : Prop := ∃ rb, e = .returned (.tuple #[.pointer (some ⟨rb, 0, none⟩), .int .i64 0]) ∧ (∃ sv, RfAt w.heap.size rb sv (.slice none 0 0) (List.replicate n (zeros 64)) [] w') ∧ Below w.heap.size w w'
theorem cells_made (w : World) : (convert 23 9 (.slice (some ⟨w.heap.size, 0, none⟩) 64 64)).run Try.prog (w.alloc (madeB 64)) = .ok (strV (zeros 64)) (w.alloc (madeB 64)) :=
  conv_reads (l := zeros 64) (ReadsB.own (owns_madeB w 64 (by decide)))
theorem mk_close {w0 w w3 : World} {j : Nat} {sv pv3 : Value} (h : RfAt w0.heap.size w0.heap.size sv (.slice none 0 0) (List.replicate j (zeros 64)) [] w) (hb : Below w0.heap.size w0 w)
    (hg3 : (w.drew.alloc (madeB 64)).grownBy w3 sv.ownBlock) (hown3 : w3.ownsRow w0.heap.size 9 1 pv3 (j + 1) ((List.replicate j (zeros 64)).map strV ++ [strV (zeros 64)]))
    (hs3 : w3.heap[w0.heap.size]? = some (.cells #[sv, .slice none 0 0] 47 (0, 0))) :
    Mk w0 (j + 1) (w3.setCell ⟨w0.heap.size, 0, none⟩ pv3) := by
  have hbd : Below w0.heap.size w0 (w.drew.alloc (madeB 64)) := (show Below w0.heap.size w0 w.drew from ⟨hb.os, hb.tape, hb.output, hb.size, hb.block⟩).alloc hb.size _
  refine ⟨⟨pv3, Nat.le_refl _, ?_, ?_, World.ownsRow_nil _ _ _ _⟩, (hbd.grown hg3 hbd.size fun k hk => (h.safe.lt k hk).1).setCell (Nat.le_refl _) _⟩
  · have := Own.heap_setCell_same hs3 0 pv3
    simpa using this
  · rw [List.replicate_succ', List.map_append, List.length_append, List.length_replicate]
    refine ownsRow_setCell_other hown3 (own_ne hown3 fun cur h => ?_) _
    rw [hs3] at h; cases h
set_option maxRecDepth 100000 in
theorem rnew_any (n : Nat) (w : World) (h1 : 1 ≤ n) (hn : n ≤ 4096) :
    Calls Try.prog 14 #[.int .i64 n] w (RNewPost n w) := by
  have a1 : (1 : Int) ≤ n := by omega
  have a2 : (n : Int) ≤ 4096 := by omega
  have a3 : ¬ (n : Int) < 1 := by omega
  have a4 : ¬ (4096 : Int) < n := by omega
  have hmk : ∀ w, (Instr.makeSlice 23 (.int .i64 64) (.int .i64 64)).run Try.prog w = .ok (.slice (some ⟨w.heap.size, 0, none⟩) 64 64) (w.alloc (madeB 64)) := fun w => run_mkB 23 Try.underlying23 64 (by decide) w
  have H0 : Hid (Mk w 0 (w.alloc (.cells #[.slice none 0 0, .slice none 0 0] 47))) :=
    ⟨⟨.slice none 0 0, Nat.le_refl _, heap_alloc_new w _, World.ownsRow_nil _ _ _ _, World.ownsRow_nil _ _ _ _⟩, (Below.refl _ _).alloc (Nat.le_refl _) _⟩
  go_enter Try.func14, Try.ntmps14
  go_wp2_with fail
  go_loopw [5] (fun i wr => ∃ j : Nat, i = .int .i64 j ∧ j ≤ n ∧ Hid (Mk w j wr)) (fun i _ => n - (intOf i).toNat)
  case atStart => exact ⟨0, rfl, Nat.zero_le _, H0⟩
  case round =>
    obtain ⟨j, rfl, hjk, HJ⟩ := hrel
    obtain ⟨wL, rfl⟩ : ∃ wo : World, wo = wr := ⟨_, rfl⟩
    clear H0
    obtain ⟨⟨sv, hf⟩, hbel⟩ := HJ.out
    by_cases hj : j < n
    · have hj' : (j : Int) < (n : Int) := by omega
      obtain ⟨A, c, rfl⟩ := own_slice hf.safe
      rw [List.length_replicate] at hf
      have hc0 : wL.cell? ⟨w.heap.size, 0, none⟩ = some (.slice A j c) := by rw [cell_of_row wL w.heap.size 0 _ _ _ hf.st]; rfl
      have hwb : w.heap.size < wL.heap.size := (Array.getElem?_eq_some_iff.1 hf.st).1
      have HF := Lib.hid hf
      have HNE : Hid (some w.heap.size ≠ (Value.slice A j c).ownBlock) := fun h => own_ne hf.safe (fun cur h2 => by rw [hf.st] at h2; cases h2) h.symm
      have HL2 : Hid ((j + 1) * 16 ≤ 140737488355328) := by show _ ≤ _; omega
      have HL3 : Hid (j + 1 ≤ 140737488355328) := by show _ ≤ _; omega
      have hO2 : (wL.drew.alloc (madeB 64)).ownsRow w.heap.size 9 1 (.slice A j c) j ((List.replicate j (zeros 64)).map strV) := by
        have := hf.safe.drew.alloc (madeB 64); rwa [List.length_replicate] at this
      have HO2 := Lib.hid hO2
      have hst2 : (wL.drew.alloc (madeB 64)).heap[w.heap.size]? = some (.cells #[.slice A j c, .slice none 0 0] 47 (0, 0)) :=
        (((Below.refl wL.drew.heap.size wL.drew).alloc (Nat.le_refl _) (madeB 64)).block w.heap.size hwb).trans hf.st
      have HST2 := Lib.hid hst2
      have HB := Lib.hid hbel
      have k1 : ∀ W : World, ∀ o : Obj, W.cell? ⟨w.heap.size, 0, none⟩ = some (.slice A j c) → (W.alloc o).cell? ⟨w.heap.size, 0, none⟩ = some (.slice A j c) := fun W o h => (((Below.refl W.heap.size W).alloc (Nat.le_refl _) o).cell (World.block_lt_of_cell? W _ h)).trans h
      have hc1 : (wL.alloc (madeB 64)).cell? ⟨w.heap.size, 0, none⟩ = some (.slice A j c) := k1 wL (madeB 64) hc0
      have hc2 : ∀ o : Obj, ((wL.alloc (madeB 64)).alloc o).cell? ⟨w.heap.size, 0, none⟩ = some (.slice A j c) := fun o => k1 _ o hc1
      have hcv : (convert 23 9 (.slice (some ⟨wL.heap.size, 0, none⟩) 64 64)).run Try.prog (wL.alloc (madeB 64)).drew = .ok (.string ⟨(zeros 64).toArray⟩) (wL.alloc (madeB 64)).drew := cells_made wL.drew
      have HLE : Hid (w.heap.size ≤ (wL.drew.alloc (madeB 64)).heap.size) := by show _ ≤ _; simp; omega
      have HSZ : Hid (Value.slice (some ⟨wL.heap.size + 1, 0, none⟩) 1 1 = .slice (some ⟨(wL.drew.alloc (madeB 64)).heap.size, 0, none⟩) 1 1) := by show _ = _; simp
      clear hf hbel hO2 hst2 k1 HJ
      go_wp2_with fail
      go_region_law (refine Own.step_append_one HO2.out (Below.refl w.heap.size (wL.drew.alloc (madeB 64))) Try.underlying44 infoS rfl (by decide) [.string ⟨(zeros 64).toArray⟩] rfl (strV_one _) (Nat.le_refl _) HLE.out HL2.out HL3.out (by rfl) (by rfl) (by rfl) (Eq.trans (by rfl) HSZ.out) ?_; intro v1 w3 hown3 hbel3 hg3 hat3 hv3; obtain ⟨A3, c3, rfl⟩ := hv3; have hs3 := (hg3.block w.heap.size (by simp; omega) HNE.out).trans HST2.out; have hk2 : w3.cell? ⟨w.heap.size, 0, none⟩ = some (.slice A j c) := hg3.cell hc1 HNE.out; have hz2 := frozen_of_block hs3 0)
      all_goals
        have HN := Lib.hid (mk_close HF.out HB.out hg3 hown3 hs3)
        clear hg3 hown3 hs3 hbel3 hat3 hk2 hz2
        go_wp2_with fail
        go_roundw
        case rel => exact ⟨j + 1, by go_num, by omega, HN⟩
        case measure => simp [intOf]; omega
    · obtain rfl : j = n := by omega
      have hj' : ¬ (j : Int) < (j : Int) := by omega
      go_wp2_with fail
      go_ret2
      exact ⟨_, rfl, ⟨sv, hf⟩, hbel⟩
end Go.Proofs.Ytjlbamjebidhgaa
