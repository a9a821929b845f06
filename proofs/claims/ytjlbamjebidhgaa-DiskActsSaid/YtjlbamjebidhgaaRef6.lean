/- The walk of the reference's Crash. -/
import Derived.Test.YtjlbamjebidhgaaRef5
namespace Go.Proofs.Ytjlbamjebidhgaa
open Go.RowKit Own

/-- the sectors behind so many writes, of which some are there -/
def crashR (SS : List (List UInt8)) (Q : List (Nat × List UInt8)) (f : Nat → Bool) : Nat → List (List UInt8)
  | 0 => SS
  | j + 1 => match Q[j]? with
    | some q => if f j = true then (crashR SS Q f j).set q.1 q.2 else crashR SS Q f j
    | none => crashR SS Q f j
theorem crashR_succ (SS : List (List UInt8)) (Q : List (Nat × List UInt8)) (f : Nat → Bool) (j : Nat) (hj : j < Q.length) :
    crashR SS Q f (j + 1) = if f j = true then (crashR SS Q f j).set (Q[j]'hj).1 (Q[j]'hj).2 else crashR SS Q f j := by
  rw [crashR, List.getElem?_eq_getElem hj]
theorem crashR_length (SS : List (List UInt8)) (Q : List (Nat × List UInt8)) (f : Nat → Bool) : ∀ j, (crashR SS Q f j).length = SS.length
  | 0 => rfl
  | j + 1 => by
    rw [crashR]
    split
    · split
      · rw [List.length_set]; exact crashR_length SS Q f j
      · exact crashR_length SS Q f j
    · exact crashR_length SS Q f j
def flagOf (cs : List Bool) (all : Bool) (j : Nat) : Bool := all || cs.getD j false
structure CI (B rb : Nat) (sv pv : Value) (SS : List (List UInt8)) (Q : List (Nat × List UInt8)) (f : Nat → Bool) (g2 cap2 : Nat) (w0 : World) (j : Nat) (w : World) : Prop where
  rf : RfAt B rb sv pv SS Q w
  row : w.ownsRow w0.heap.size 9 1 (.slice (some ⟨g2, 0, none⟩) SS.length cap2) SS.length ((crashR SS Q f j).map strV)
  below : Below w0.heap.size w0 w
theorem CI.set {B rb g2 cap2 j : Nat} {sv pv : Value} {SS : List (List UInt8)} {Q : List (Nat × List UInt8)} {f : Nat → Bool} {w0 w : World} (h : CI B rb sv pv SS Q f g2 cap2 w0 j w) (hR : ∀ g, (sv.ownBlock = some g ∨ pv.ownBlock = some g ∨ g = rb) → g < w0.heap.size) (hj : j < Q.length) (hf : f j = true) :
    CI B rb sv pv SS Q f g2 cap2 w0 (j + 1) (w.setCell ⟨g2, (Q[j]'hj).1, none⟩ (strV (Q[j]'hj).2)) := by
  have hg := (h.row.lt g2 rfl).1
  have hne : ∀ g, (sv.ownBlock = some g ∨ pv.ownBlock = some g ∨ g = rb) → (w.setCell ⟨g2, (Q[j]'hj).1, none⟩ (strV (Q[j]'hj).2)).heap[g]? = w.heap[g]? := fun g hg' =>
    Below.heap_setCell _ _ _ _ (by have := hR g hg'; intro e; subst e; omega)
  refine ⟨⟨h.rf.hB, (hne rb (.inr (.inr rfl))).trans h.rf.st, own_same h.rf.safe fun g hg' => hne g (.inl hg'), own_same h.rf.pend fun g hg' => hne g (.inr (.inl hg'))⟩, ?_, h.below.setCell hg _⟩
  rw [crashR_succ SS Q f j hj, if_pos hf, List.map_set]
  exact own_set h.row _
theorem CI.skip {B rb g2 cap2 j : Nat} {sv pv : Value} {SS : List (List UInt8)} {Q : List (Nat × List UInt8)} {f : Nat → Bool} {w0 w : World} (h : CI B rb sv pv SS Q f g2 cap2 w0 j w) (hj : j < Q.length) (hf : f j = false) : CI B rb sv pv SS Q f g2 cap2 w0 (j + 1) w := by
  refine ⟨h.rf, ?_, h.below⟩
  rw [crashR_succ SS Q f j hj, if_neg (by rw [hf]; simp)]
  exact h.row
theorem CI.drew {B rb g2 cap2 j : Nat} {sv pv : Value} {SS : List (List UInt8)} {Q : List (Nat × List UInt8)} {f : Nat → Bool} {w0 w : World} (h : CI B rb sv pv SS Q f g2 cap2 w0 j w) : CI B rb sv pv SS Q f g2 cap2 w0 j w.drew :=
  ⟨h.rf.below ⟨rfl, rfl, rfl, Nat.le_refl _, fun _ _ => rfl⟩, own_same h.row fun _ _ => rfl, ⟨h.below.os, h.below.tape, h.below.output, h.below.size, h.below.block⟩⟩
def RCrashPost (B rb : Nat) (SS : List (List UInt8)) (Q : List (Nat × List UInt8)) (f : Nat → Bool) (w : World) (e : Ending) (w' : World) : Prop :=
  e = .returned (.tuple #[]) ∧ (∃ sv', RfAt B rb sv' (.slice none 0 0) (crashR SS Q f Q.length) [] w') ∧ TStep refT B w w'
theorem CI.done {B rb g2 cap2 : Nat} {sv pv : Value} {SS : List (List UInt8)} {Q : List (Nat × List UInt8)} {f : Nat → Bool} {w0 w : World} (h : CI B rb sv pv SS Q f g2 cap2 w0 Q.length w) (hrb : rb < w0.heap.size) (h0 : RfAt B rb sv pv SS Q w0) :
    RCrashPost B rb SS Q f w0 (.returned (.tuple #[])) ((w.setCell ⟨rb, 0, none⟩ (.slice (some ⟨g2, 0, none⟩) SS.length cap2)).setCell ⟨rb, 1, none⟩ (.slice none 0 0)) := by
  have hg := (h.row.lt g2 rfl).1
  have hB : B ≤ w0.heap.size := Nat.le_trans h.rf.hB (Nat.le_of_lt hrb)
  refine ⟨rfl, ⟨.slice (some ⟨g2, 0, none⟩) SS.length cap2, h.rf.hB, ?_, ?_, World.ownsRow_nil _ _ _ _⟩, ?_⟩
  · have h1 := Own.heap_setCell_same h.rf.st 0 (.slice (some ⟨g2, 0, none⟩) SS.length cap2)
    have := Own.heap_setCell_same h1 1 (.slice none 0 0)
    simpa using this
  · rw [crashR_length]
    refine own_mono (ownsRow_setCell_other (ownsRow_setCell_other h.row ?_ _) ?_ _) hB
    · intro e; have : g2 = rb := by simpa [Value.ownBlock] using e
      omega
    · intro e; have : g2 = rb := by simpa [Value.ownBlock] using e
      omega
  · refine TStep.of_chg (ks := [rb]) ?_ hB (fun k hk => by
      rw [List.mem_singleton.1 hk]
      exact ⟨h.rf.hB, fun _ => ⟨_, _, _, h0.st, by simp [refT]⟩⟩)
    exact ((Chg.of_below h.below).trans (Chg.setCell (ks := [rb]) _ (List.mem_cons_self ..)) (fun x hx _ => hx)).trans (Chg.setCell (ks := [rb]) _ (List.mem_cons_self ..)) (fun x hx _ => hx)

set_option maxRecDepth 100000 in
theorem rcrash_any (B rb : Nat) (sv pv : Value) (SS : List (List UInt8)) (Q : List (Nat × List UInt8)) (v : Value) (cs : List Bool) (all : Bool) (w : World) (h : RfAt B rb sv pv SS Q w) (hS : SS.length ≤ 4096) (hS0 : 0 < SS.length) (hQ : Q.length ≤ 16384) (hat : ∀ q ∈ Q, q.1 < SS.length) (hv : ReadsC w v cs) :
    Calls Try.prog 26 #[.pointer (some ⟨rb, 0, none⟩), v, .bool all] w (RCrashPost B rb SS Q (flagOf cs all) w) := by
  obtain ⟨g, cap, rfl, _⟩ := SS_cell h.safe 0 hS0
  obtain ⟨Ap, cp, rfl⟩ := own_slice h.pend
  obtain ⟨Av, cv, rfl⟩ := hv.slice
  have hrb : rb < w.heap.size := (Array.getElem?_eq_some_iff.1 h.st).1
  obtain ⟨g2, cap2, wA, hap, hownA, hbA⟩ := own_copyS B g cap SS w h.safe hS hS0
  have hcB : (w.alloc (.cells #[] 9)).cell? ⟨rb, 0, none⟩ = some (.slice (some ⟨g, 0, none⟩) SS.length cap) := by
    rw [cell_of_row _ rb 0 _ _ _ ((h.below ((Below.refl _ _).alloc (Nat.le_refl _) _)).st)]; rfl
  have H0 : Hid (CI B rb (.slice (some ⟨g, 0, none⟩) SS.length cap) (.slice Ap Q.length cp) SS Q (flagOf cs all) g2 cap2 w 0 wA) := ⟨h.below hbA, hownA, hbA⟩
  have HR : Hid (∀ k, ((Value.slice (some ⟨g, 0, none⟩) SS.length cap).ownBlock = some k ∨ (Value.slice Ap Q.length cp).ownBlock = some k ∨ k = rb) → k < w.heap.size) := fun k hk => by
    rcases hk with hk | hk | rfl
    · exact (h.safe.lt k hk).2
    · exact (h.pend.lt k hk).2
    · exact hrb
  have HF := Lib.hid h
  have HV := Lib.hid hv
  have HAT := Lib.hid hat
  have HRB := Lib.hid hrb
  have q3 : (Q.length : Int) ≤ 16384 := by omega
  have q4 : (SS.length : Int) ≤ 4096 := by omega
  have HCap : Hid (SS.length ≤ cap2) := by
    rcases hownA.2 with ⟨h0, _⟩ | ⟨g', cap', cur, hv', _, _, hc, _⟩
    · cases h0
    · cases hv'; exact hc
  clear h hv hat hbA hownA hS hS0 hQ hrb
  go_enter Try.func26, Try.ntmps26
  go_wp2_with (at_builtin; refine wpList_append_run rfl rfl rfl rfl hap ?_)
  go_loopw [7] (fun i wr => ∃ j : Nat, i = .int .i64 j ∧ j ≤ Q.length ∧ Hid (CI B rb (.slice (some ⟨g, 0, none⟩) SS.length cap) (.slice Ap Q.length cp) SS Q (flagOf cs all) g2 cap2 w j wr)) (fun i _ => Q.length - (intOf i).toNat)
  case atStart => exact ⟨0, rfl, Nat.zero_le _, H0⟩
  case round =>
    obtain ⟨j, rfl, hjk, HJ⟩ := hrel
    obtain ⟨wL, rfl⟩ : ∃ wo : World, wo = wr := ⟨_, rfl⟩
    clear H0 hap hcB
    have hc1 : wL.cell? ⟨rb, 1, none⟩ = some (.slice Ap Q.length cp) := by rw [cell_of_row wL rb 1 _ _ _ HJ.out.rf.st]; rfl
    by_cases hj : j < Q.length
    · have hj' : (j : Int) < (Q.length : Int) := by omega
      have hj0 : (0 : Int) ≤ (j : Int) := by omega
      obtain ⟨pg, pcap, hvv, _, hpl⟩ := HJ.out.rf.pend.form (by omega)
      cases hvv
      have e0 := HJ.out.rf.pend.cellAt (j * 2) (by omega)
      have e1 := HJ.out.rf.pend.cellAt (j * 2 + 1) (by omega)
      have c0 := cellsQ_at hj 0 (by omega)
      rw [Nat.add_zero] at c0
      rw [c0] at e0
      rw [cellsQ_at hj 1 (by omega)] at e1
      have hqa := HAT.out _ (List.getElem_mem hj)
      obtain ⟨g', cap', hvv, _, _, _, hcl, hfl, _⟩ := own_reads HJ.out.row (by omega)
      cases hvv
      have hlc := hcl (Q[j]'hj).1 hqa
      have hlf := hfl (Q[j]'hj).1
      obtain ⟨u, hu⟩ : ∃ u, ((crashR SS Q (flagOf cs all) j).map strV)[(Q[j]'hj).1]? = some u := ⟨_, List.getElem?_eq_getElem (by rw [List.length_map, crashR_length]; exact hqa)⟩
      rw [hu] at hlc
      have HNt := fun hf : flagOf cs all j = true => CI.set HJ.out.drew HR.out hj hf
      have HNs := fun hf : flagOf cs all j = false => CI.skip HJ.out hj hf
      generalize Q[j]'hj = q at *
      obtain ⟨qa, qb⟩ := q
      simp only [] at hqa hlc hlf HNt
      replace e0 : wL.cell? ⟨pg, j * 2, none⟩ = some (.int .i64 qa) := e0
      replace e1 : wL.cell? ⟨pg, j * 2 + 1, none⟩ = some (.string ⟨qb.toArray⟩) := e1
      have p0 : (0 : Int) ≤ (qa : Int) := by omega
      have p1 : (qa : Int) < (SS.length : Int) := by omega
      have hbel := HJ.out.below
      cases all with
      | true =>
        have HN := Lib.hid (HNt (by simp [flagOf]))
        clear HNt HNs hbel HJ c0 hcl hfl hu
        go_wp2_with fail
        go_region
        all_goals
            go_wp2_with fail
            go_roundw
            case rel => exact ⟨j + 1, by go_num, by omega, HN⟩
            case measure => simp [intOf]; omega
      | false =>
        by_cases hcj : j < cs.length
        · have hcj' : (j : Int) < (cs.length : Int) := by omega
          obtain ⟨bv, ov, cv', hvv, hbc⟩ := (HV.out.below hbel).at_ hcj
          cases hvv
          have hfl2 : flagOf cs false j = cs[j]'hcj := by simp [flagOf, List.getD_eq_getElem?_getD, List.getElem?_eq_getElem hcj]
          rw [hfl2] at HNt HNs
          generalize cs[j]'hcj = cb at *
          cases cb with
          | true =>
            have HN := Lib.hid (HNt rfl)
            clear HNt HNs hbel HJ c0 hcl hfl hu hfl2
            go_wp2_with fail
            go_region
            all_goals
              go_wp2_with fail
              go_roundw
              case rel => exact ⟨j + 1, by go_num, by omega, HN⟩
              case measure => simp [intOf]; omega
          | false =>
            have HN := Lib.hid (HNs rfl)
            clear HNt HNs hbel HJ c0 hcl hfl hu hfl2
            go_wp2_with fail
            go_roundw
            case rel => exact ⟨j + 1, by go_num, by omega, HN⟩
            case measure => simp [intOf]; omega
        · have hcj' : ¬ (j : Int) < (cs.length : Int) := by omega
          have hcd : decide ((j : Int) < (cs.length : Int)) = false := decide_eq_false hcj'
          have HN := Lib.hid (HNs (by simp [flagOf, List.getD_eq_getElem?_getD, List.getElem?_eq_none (Nat.le_of_not_lt hcj)]))
          clear HNt HNs hbel HJ c0 hcl hfl hu
          go_wp2_with fail
          go_roundw
          case rel => exact ⟨j + 1, by go_num, by omega, HN⟩
          case measure => simp [intOf]; omega
    · obtain rfl : j = Q.length := by omega
      have hj' : ¬ (Q.length : Int) < (Q.length : Int) := by omega
      have hfz := frozen_of_block HJ.out.rf.st 0
      have hfz1 := frozen_of_block HJ.out.rf.st 1
      have hcc : wL.cell? ⟨rb, 0, none⟩ = some (.slice (some ⟨g, 0, none⟩) SS.length cap) := by rw [cell_of_row wL rb 0 _ _ _ HJ.out.rf.st]; rfl
      have HD := Lib.hid (CI.done HJ.out HRB.out HF.out)
      clear HJ
      go_wp2_with fail
      go_end0
      exact HD.out
end Go.Proofs.Ytjlbamjebidhgaa
