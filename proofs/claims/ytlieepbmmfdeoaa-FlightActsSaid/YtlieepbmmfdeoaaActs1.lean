/- The walk of the law's 'does': heal, part, drop. -/
import Derived.Test.YtlieepbmmfdeoaaJoin
namespace Go.Proofs.Ytlieepbmmfdeoaa
open Go.RowKit Own

theorem jb_start {w0 w : World} {fb mb rb m : Nat} (h : JS w0 fb mb rb m w) (d a b : Int) (v : Value) : ∃ n f L ML PP, JB w0 fb mb n f L rb ML PP w.heap.size d a b v (w.alloc (.cells #[.int .i64 d, .int .i64 a, .int .i64 b, v] 28)) ∧ L.map (·.1) = ML ∧ PKeys f PP ∧ ML.length ≤ m ∧ PP.length ≤ m := by
  obtain ⟨n, f, lv, L, lv2, pv, ML, PP, h1, h2, h3⟩ := h
  have hb : ∀ o, Below w.heap.size w (w.alloc o) := fun o => (Below.refl _ _).alloc (Nat.le_refl _) _
  exact ⟨n, f, L, ML, PP, ⟨⟨lv, h1.go (hb _)⟩, ⟨lv2, pv, h2.below (hb _)⟩, heap_alloc_new w _⟩, h3⟩
section
variable {w0 w : World} {fb mb n rb ob : Nat} {f : Value → Option Value} {L : List (Msg × Value)} {ML : List Msg} {PP : List (Int × Int)} {d a b : Int} {v : Value}
theorem jb_heal (h : JB w0 fb mb n f L rb ML PP ob d a b v w) : Calls Try.prog 20 #[.pointer (some ⟨fb, 0, none⟩)] w fun e w' => e = .returned (.tuple #[]) ∧ JB w0 fb mb 0 noKeys L rb ML PP ob d a b v w' := by
  obtain ⟨lv, h1⟩ := h.fl
  refine (fl_heal h1).mono ?_
  rintro e w' ⟨rfl, h2, h3⟩
  exact ⟨rfl, h.keeps h3 h2⟩
/-- the model's pairs are struck -/
theorem JB.noPairs (h : JB w0 fb mb n f L rb ML PP ob d a b v w) : (∃ x, w.cell? ⟨rb, 1, none⟩ = some x) ∧ w.frozen? ⟨rb, 1, none⟩ = false ∧ JB w0 fb mb n f L rb ML [] ob d a b v (w.setCell ⟨rb, 1, none⟩ (.slice none 0 0)) := by
  obtain ⟨lv2, pv, h2⟩ := h.md
  obtain ⟨lv, h1⟩ := h.fl
  refine ⟨⟨pv, by rw [cell_of_row _ _ 1 _ _ _ h2.st]; rfl⟩, frozen_of_block h2.st 1, ?_⟩
  have hB : w0.heap.size ≤ w.heap.size := h1.below.size
  have hst := Own.heap_setCell_same h2.st 1 (.slice none 0 0)
  have hm : MdAt w0.heap.size rb lv2 (.slice none 0 0) ML [] (w.setCell ⟨rb, 1, none⟩ (.slice none 0 0)) := by
    refine ⟨h2.hB, by simpa using hst, ownsRow_setCell_other h2.l (own_ne h2.l fun cur hc => ?_) _, World.ownsRow_nil _ _ _ _⟩
    rw [h2.st] at hc; cases hc
  refine h.tstep (TStep.of_chg (ks := [rb]) (Chg.setCell _ (List.mem_cons_self ..)) hB fun k hk => ?_) hm
  rw [List.mem_singleton.1 hk]
  exact ⟨h2.hB, fun _ => ⟨_, _, _, h2.st, by simp [modT]⟩⟩
end

theorem bel_drewN (w : World) (n : Nat) : Below w.heap.size w (w.drewN n) := ⟨rfl, rfl, rfl, Nat.le_refl _, fun _ _ => rfl⟩

set_option maxRecDepth 100000 in
theorem does_heal (w0 : World) (fb mb rb m : Nat) (a b : Int) (Av : Option Addr) (nv cv : Nat) (w : World) (h : JS w0 fb mb rb m w) (hm : m ≤ 600) :
    Calls Try.prog 15 #[.pointer (some ⟨fb, 0, none⟩), .pointer (some ⟨rb, 0, none⟩), .agg #[.int .i64 5, .int .i64 a, .int .i64 b, .slice Av nv cv]] w (DoesPost w0 fb mb rb (m + 1)) := by
  obtain ⟨n, f, L, ML, PP, hJ, hL, hP, hl1, hl2⟩ := jb_start h 5 a b (.slice Av nv cv)
  obtain ⟨Am, cm, hm0⟩ := hJ.m0
  have k0 := hJ.c0
  have k1 := hJ.c1
  have HH := Lib.hid (fun nq => jb_heal (hJ.go (bel_drewN _ nq)))
  have HF : Hid (L.map (·.1) = ML ∧ ML.length ≤ m) := ⟨hL, hl1⟩
  have hml : (ML.length : Int) ≤ 600 := by omega
  have hcase : decide (0 ≤ a) = false ∨ (decide (0 ≤ a) = true ∧ decide (a < (ML.length : Int)) = true) ∨ (decide (0 ≤ a) = true ∧ decide (a < (ML.length : Int)) = false) := by
    simp only [decide_eq_true_eq, decide_eq_false_iff_not]; omega
  clear h hJ hL hP hl1 hl2 hm
  rcases hcase with c1 | ⟨c1, c2⟩ | ⟨c1, c2⟩
  all_goals
    go_enter Try.func15, Try.ntmps15
    go_wp2_with fail
    go_quiet (fail)
    go_wp2_with (go_at_call 20; refine (HH.out _).mono ?_; rintro e w2 ⟨rfl, hj⟩; obtain ⟨⟨x, hx⟩, hfz, hn⟩ := hj.noPairs; have HN := Lib.hid hn; clear hj hn)
    go_ret
    exact ⟨rfl, HN.out.js HF.out.1 PKeys.nil (Nat.le_succ_of_le HF.out.2) (Nat.zero_le _)⟩

section
variable {w0 w : World} {fb mb n rb ob : Nat} {f : Value → Option Value} {L : List (Msg × Value)} {ML : List Msg} {PP : List (Int × Int)} {d a b : Int} {v : Value}
theorem jb_out (h : JB w0 fb mb n f L rb ML PP ob d a b v w) (k : Nat) (hk : k < ML.length) (hn : ML.length ≤ 16384) : Calls Try.prog 25 #[.pointer (some ⟨rb, 0, none⟩), .int .i64 k] w fun e w' => e = .returned (.tuple #[]) ∧ JB w0 fb mb n f L rb (ML.eraseIdx k) PP ob d a b v w' := by
  obtain ⟨lv2, pv, h2⟩ := h.md
  refine (mout_any _ rb k lv2 pv ML PP w h2 hk hn).mono ?_
  rintro e w' ⟨lv', rfl, h3, h4, _⟩
  exact ⟨rfl, h.tstep h4 h3⟩
theorem jb_drop (h : JB w0 fb mb n f L rb ML PP ob d a b v w) (k : Nat) (hk : k < L.length) (hL : L.length ≤ 16384) : Calls Try.prog 14 #[.pointer (some ⟨fb, 0, none⟩), .int .i64 k] w fun e w' => e = .returned (.bool true) ∧ JB w0 fb mb n f (L.eraseIdx k) rb ML PP ob d a b v w' := by
  obtain ⟨lv, h1⟩ := h.fl
  refine (fl_drop h1 k hk hL).mono ?_
  rintro e w' ⟨rfl, hk', lv', L', h2, rfl⟩
  exact ⟨rfl, h.keeps hk' h2⟩
theorem jb_drop_out (h : JB w0 fb mb n f L rb ML PP ob d a b v w) (i : Int) (hi : i < 0 ∨ (L.length : Int) ≤ i) : Calls Try.prog 14 #[.pointer (some ⟨fb, 0, none⟩), .int .i64 i] w fun e w' => e = .returned (.bool false) ∧ JB w0 fb mb n f L rb ML PP ob d a b v w' := by
  obtain ⟨lv, h1⟩ := h.fl
  refine (fl_drop_out h1 i hi).mono ?_
  rintro e w' ⟨rfl, rfl⟩
  exact ⟨rfl, h⟩
end
theorem map_erase (L : List (Msg × Value)) (k : Nat) : (L.eraseIdx k).map (·.1) = (L.map (·.1)).eraseIdx k := by
  rw [List.eraseIdx_eq_take_drop_succ, List.eraseIdx_eq_take_drop_succ, List.map_append, List.map_take, List.map_drop]

set_option maxRecDepth 100000 in
theorem does_drop (w0 : World) (fb mb rb m : Nat) (a b : Int) (Av : Option Addr) (nv cv : Nat) (w : World) (h : JS w0 fb mb rb m w) (hm : m ≤ 600) :
    Calls Try.prog 15 #[.pointer (some ⟨fb, 0, none⟩), .pointer (some ⟨rb, 0, none⟩), .agg #[.int .i64 2, .int .i64 a, .int .i64 b, .slice Av nv cv]] w (DoesPost w0 fb mb rb (m + 1)) := by
  obtain ⟨n, f, L, ML, PP, hJ, hL, hP, hl1, hl2⟩ := jb_start h 2 a b (.slice Av nv cv)
  obtain ⟨Am, cm, hm0⟩ := hJ.m0
  have k0 := hJ.c0
  have k1 := hJ.c1
  have hlen : L.length = ML.length := by rw [← hL, List.length_map]
  have hml : (ML.length : Int) ≤ 600 := by omega
  by_cases hin : 0 ≤ a ∧ a < (ML.length : Int)
  · obtain ⟨k, rfl⟩ := Int.eq_ofNat_of_zero_le hin.1
    have c1 : decide (0 ≤ (k : Int)) = true := decide_eq_true hin.1
    have c2 : decide ((k : Int) < (ML.length : Int)) = true := decide_eq_true hin.2
    have hk : k < ML.length := by omega
    have HO := Lib.hid (fun nq => jb_out (hJ.go (bel_drewN _ nq)) k hk (by omega))
    have HD : Hid (∀ w', JB w0 fb mb n f L rb (ML.eraseIdx k) PP w.heap.size 2 k b (.slice Av nv cv) w' → Calls Try.prog 14 #[.pointer (some ⟨fb, 0, none⟩), .int .i64 k] w' fun e w' => e = .returned (.bool true) ∧ JB w0 fb mb n f (L.eraseIdx k) rb (ML.eraseIdx k) PP w.heap.size 2 k b (.slice Av nv cv) w') := fun w' hj => jb_drop hj k (by omega) (by omega)
    have HF : Hid ((L.eraseIdx k).map (·.1) = ML.eraseIdx k ∧ PKeys f PP ∧ (ML.eraseIdx k).length ≤ m + 1 ∧ PP.length ≤ m + 1) := ⟨by rw [map_erase, hL], hP, by have := List.length_eraseIdx_le ML k; omega, by omega⟩
    clear h hJ hL hP hl1 hl2 hm hlen hin
    go_enter Try.func15, Try.ntmps15
    go_wp2_with fail
    go_quiet (fail)
    go_wp2_with (first
      | (go_at_call 25; refine (HO.out _).mono ?_; rintro e w2 ⟨rfl, hj2⟩; have k12 := hj2.c1; have HD2 := Lib.hid (HD.out w2 hj2); clear hj2)
      | (go_at_call 14; refine HD2.out.mono ?_; rintro e w3 ⟨rfl, hj3⟩; have HJ3 := Lib.hid hj3; clear hj3))
    go_ret
    exact ⟨rfl, HJ3.out.js HF.out.1 HF.out.2.1 HF.out.2.2.1 HF.out.2.2.2⟩
  · have hcase : decide (0 ≤ a) = false ∨ (decide (0 ≤ a) = true ∧ decide (a < (ML.length : Int)) = false) := by
      simp only [decide_eq_true_eq, decide_eq_false_iff_not]; omega
    have HD := Lib.hid (fun nq => jb_drop_out (hJ.go (bel_drewN _ nq)) a (by omega))
    have HF : Hid (L.map (·.1) = ML ∧ PKeys f PP ∧ ML.length ≤ m + 1 ∧ PP.length ≤ m + 1) := ⟨hL, hP, by omega, by omega⟩
    clear h hJ hL hP hl1 hl2 hm hlen hin
    rcases hcase with c1 | ⟨c1, c2⟩
    all_goals
      go_enter Try.func15, Try.ntmps15
      go_wp2_with fail
      go_quiet (fail)
      go_wp2_with (go_at_call 14; refine (HD.out _).mono ?_; rintro e w3 ⟨rfl, hj3⟩; have HJ3 := Lib.hid hj3; clear hj3)
      go_ret
      exact ⟨rfl, HJ3.out.js HF.out.1 HF.out.2.1 HF.out.2.2.1 HF.out.2.2.2⟩
end Go.Proofs.Ytlieepbmmfdeoaa
