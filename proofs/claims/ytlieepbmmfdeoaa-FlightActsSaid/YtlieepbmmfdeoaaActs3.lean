/- The walk of the law's 'does': twice. -/
import Derived.Test.YtlieepbmmfdeoaaActs2
namespace Go.Proofs.Ytlieepbmmfdeoaa
open Go.RowKit Own

attribute [local go_sem ↓] hide_append
theorem JB.row {w0 w : World} {fb mb n rb ob : Nat} {f : Value → Option Value} {L : List (Msg × Value)} {ML : List Msg} {PP : List (Int × Int)} {d a b : Int} {v : Value} (h : JB w0 fb mb n f L rb ML PP ob d a b v w) (k : Nat) (hk : k < ML.length) :
    ∃ g c, w.cell? ⟨rb, 0, none⟩ = some (.slice (some ⟨g, 0, none⟩) ML.length c) ∧ w.cell? ⟨g, k * 3, none⟩ = some (.int .i64 (ML[k]'hk).fr) ∧ w.cell? ⟨g, k * 3 + 1, none⟩ = some (.int .i64 (ML[k]'hk).to) ∧ w.cell? ⟨g, k * 3 + 2, none⟩ = some (.string ⟨(ML[k]'hk).b.toArray⟩) := by
  obtain ⟨lv2, pv, h2⟩ := h.md
  obtain ⟨g, c, rfl, _, _⟩ := h2.l.form (by omega)
  exact ⟨g, c, by rw [cell_of_row _ _ 0 _ _ _ h2.st]; rfl, ml_cells h2.l k hk⟩

set_option maxHeartbeats 4000000 in
set_option maxRecDepth 100000 in
theorem does_twice (w0 : World) (fb mb rb m : Nat) (a b : Int) (Av : Option Addr) (nv cv : Nat) (w : World) (h : JS w0 fb mb rb m w) (hm : m ≤ 600) :
    Calls Try.prog 15 #[.pointer (some ⟨fb, 0, none⟩), .pointer (some ⟨rb, 0, none⟩), .agg #[.int .i64 3, .int .i64 a, .int .i64 b, .slice Av nv cv]] w (DoesPost w0 fb mb rb (m + 1)) := by
  obtain ⟨n, f, L, ML, PP, hJ, hL, hP, hl1, hl2⟩ := jb_start h 3 a b (.slice Av nv cv)
  obtain ⟨Am, cm, hm0⟩ := hJ.m0
  have k0 := hJ.c0
  have k1 := hJ.c1
  have hlen : L.length = ML.length := by rw [← hL, List.length_map]
  have hml : (ML.length : Int) ≤ 600 := by omega
  by_cases hin : 0 ≤ a ∧ a < (ML.length : Int)
  · obtain ⟨k, rfl⟩ := Int.eq_ofNat_of_zero_le hin.1
    have c1 : decide (0 ≤ (k : Int)) = true := decide_eq_true hin.1
    have c2 : decide ((k : Int) < (ML.length : Int)) = true := decide_eq_true hin.2
    have hk : k < ML.length := by omega
    have hLk : (L[k]'(by omega)).1 = ML[k]'hk := by subst hL; simp
    have HT := Lib.hid (fun nq => jb_twice (hJ.go (bel_drewN _ nq)) k (by omega) (by omega))
    rw [hLk] at HT
    have HRow : Hid (∀ L' W, JB w0 fb mb n f L' rb ML PP w.heap.size 3 k b (.slice Av nv cv) W → _) := fun L' W hj => JB.row hj k hk
    have HPu : Hid (∀ L' W, JB w0 fb mb n f L' rb ML PP w.heap.size 3 k b (.slice Av nv cv) W → _) := fun L' W hj => jb_push hj (ML[k]'hk) (by omega)
    have HF : Hid (L.map (·.1) = ML ∧ PKeys f PP ∧ ML.length + 1 ≤ m + 1 ∧ PP.length ≤ m + 1) := ⟨hL, hP, by omega, by omega⟩
    generalize ML[k]'hk = mg at *
    have hlt : (ML.length : Int) < 16384 := by omega
    clear hLk
    clear h hJ hL hP hl1 hl2 hm hlen hin
    go_enter Try.func15, Try.ntmps15
    go_wp2_with fail
    go_quiet (fail)
    go_wp2_with (go_at_call 11; refine (HT.out _).mono ?_; rintro e w3 ⟨rfl, u', hj3⟩; have HJ3 := Lib.hid hj3; have q1 := hj3.c1; obtain ⟨g, c, r0, r1, r2, r3⟩ := HRow.out _ _ hj3; obtain ⟨A5, c5, A', c', w2, q0, hr, q3, q4, hn⟩ := HPu.out _ _ hj3; rw [r0] at q0; cases q0; clear hj3)
    have qA := fun o => (((Below.refl w3.heap.size w3).alloc (Nat.le_refl _) o).cell (World.block_lt_of_cell? w3 _ r0)).trans r0
    have HN := Lib.hid hn
    clear hn
    go_region
    all_goals
      go_wp2_with fail
      go_ret
      exact ⟨rfl, HN.out.js (by rw [List.map_append, HF.out.1]; rfl) HF.out.2.1 (by have := HF.out.2.2.1; simpa using this) HF.out.2.2.2⟩
  · have hcase : decide (0 ≤ a) = false ∨ (decide (0 ≤ a) = true ∧ decide (a < (ML.length : Int)) = false) := by
      simp only [decide_eq_true_eq, decide_eq_false_iff_not]; omega
    have HD := Lib.hid (fun nq => jb_twice_out (hJ.go (bel_drewN _ nq)) a (by omega))
    have HF : Hid (L.map (·.1) = ML ∧ PKeys f PP ∧ ML.length ≤ m + 1 ∧ PP.length ≤ m + 1) := ⟨hL, hP, by omega, by omega⟩
    clear h hJ hL hP hl1 hl2 hm hlen hin
    rcases hcase with c1 | ⟨c1, c2⟩
    all_goals
      go_enter Try.func15, Try.ntmps15
      go_wp2_with fail
      go_quiet (fail)
      go_wp2_with (go_at_call 11; refine (HD.out _).mono ?_; rintro e w3 ⟨rfl, hj3⟩; have HJ3 := Lib.hid hj3; clear hj3)
      go_ret
      exact ⟨rfl, HJ3.out.js HF.out.1 HF.out.2.1 HF.out.2.2.1 HF.out.2.2.2⟩
end Go.Proofs.Ytlieepbmmfdeoaa
