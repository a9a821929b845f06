/- The walk of the law's own small question. -/
import Derived.Test.YtjlbamjebidhgaaDk
namespace Go.Proofs.Ytjlbamjebidhgaa
open Go.RowKit Own
def awB : List UInt8 := (zeros 64).set 3 7
def awPatched : List UInt8 := patch (zeros 128) 1 awB
/-- after New, and the row with a byte set -/
def A1 (w : World) (D : DkS) (v : Value) (S : List UInt8) (P : List (Nat × List UInt8)) (u : World) : Prop := Dk w 2 D u ∧ Far w D v awB u ∧ D.S = S ∧ D.P.map (fun p => (p.at_, p.b)) = P
theorem P_map_len {P : List Wr} {Q : List (Nat × List UInt8)} (h : P.map (fun p => (p.at_, p.b)) = Q) : P.length = Q.length := by rw [← h]; simp
theorem flushD_map : ∀ (P : List Wr) (S : List UInt8), flushD S P = (P.map (fun p => (p.at_, p.b))).foldl (fun S q => patch S q.1 q.2) S
  | [], _ => rfl
  | _ :: P, _ => flushD_map P _
theorem aw_write {w u : World} {D : DkS} {v : Value} {S : List UInt8} {P : List (Nat × List UInt8)} (h : A1 w D v S P u) (k : Nat) (hk : k < 2) (hP : P.length ≤ 2) :
    Calls Try.prog 8 #[D.ptr, .int .i64 k, v] u fun e u' => e = .returned (.int .i64 0) ∧ ∃ D', D'.ptr = D.ptr ∧ A1 w D' v S (P ++ [(k, awB)]) u' := by
  obtain ⟨hd, hf, hS, hPm⟩ := h
  refine (dk_write_in hd v awB hf.reads hk rfl (by have := P_map_len hPm; omega)).mono ?_
  rintro e u' ⟨rfl, D', p, hd', hs, hp, hS', hP', rfl, hb⟩
  refine ⟨rfl, D', hp, hd', hf.step hs, hS'.trans hS, ?_⟩
  rw [hP', List.map_append, hPm, List.map_singleton, hb]
theorem aw_flush {w u : World} {D : DkS} {v : Value} {S : List UInt8} {P : List (Nat × List UInt8)} (h : A1 w D v S P u) (hP : P.length ≤ 2) :
    Calls Try.prog 10 #[D.ptr] u fun e u' => e = .returned (.tuple #[]) ∧ ∃ D', D'.ptr = D.ptr ∧ A1 w D' v (P.foldl (fun S q => patch S q.1 q.2) S) [] u' := by
  obtain ⟨hd, hf, hS, hPm⟩ := h
  refine (dk_flush hd (by have := P_map_len hPm; omega)).mono ?_
  rintro e u' ⟨rfl, D', hd', hs, hp, hS', hP'⟩
  exact ⟨rfl, D', hp, hd', hf.step hs, by rw [hS', flushD_map, hPm, hS], by rw [hP']; rfl⟩
theorem aw_crash {w u : World} {D : DkS} {v : Value} {S : List UInt8} {P : List (Nat × List UInt8)} (h : A1 w D v S P u) (hP : P.length ≤ 2) :
    Calls Try.prog 11 #[D.ptr, .slice none 0 0] u fun e u' => e = .returned (.tuple #[]) ∧ ∃ D', D'.ptr = D.ptr ∧ A1 w D' v S [] u' := by
  obtain ⟨hd, hf, hS, hPm⟩ := h
  refine (dk_crash_nil hd (by have := P_map_len hPm; omega)).mono ?_
  rintro e u' ⟨rfl, D', hd', hs, hp, hS', hP'⟩
  exact ⟨rfl, D', hp, hd', hf.step hs, by rw [hS', hS], by rw [hP']; rfl⟩
/-- what is told by the two reads at the end -/
theorem aw_read {w u : World} {D : DkS} {v : Value} {S : List UInt8} (h : A1 w D v S [] u) (k : Nat) (hk : k < 2) (b : List UInt8) (hb : sectorOf S k = b) (hl : b.length = 64) :
    Calls Try.prog 12 #[D.ptr, .int .i64 k] u fun e u' => ∃ g c, e = .returned (.tuple #[.slice (some ⟨g, 0, none⟩) 64 c, .int .i64 0]) ∧ u'.cell? ⟨g, 3, none⟩ = some (.int .u8 ((b.getD 3 0).toNat : Int)) ∧ A1 w D v S [] u' ∧ Below u.heap.size u u' := by
  obtain ⟨hd, hf, hS, hPm⟩ := h
  have hPn : D.P = [] := by simpa using hPm
  refine (dk_read_in hd hk (by rw [hPn]; simp)).mono ?_
  rintro e u' ⟨x, rfl, hx, hbel⟩
  have hr : readD D.S D.P k = b := by rw [hPn, hS]; exact hb
  rw [hr] at hx
  obtain ⟨g, cap, rfl, _, _, _, hc, _⟩ := own_reads hx (by omega)
  refine ⟨g, cap, by rw [hl], ?_, ⟨hd.go hbel, hf.step (Step.of_below hbel), hS, hPm⟩, hbel⟩
  rw [hc 3 (by omega)]
  simp [u8s, List.getD_eq_getElem?_getD, List.getElem?_eq_getElem (show 3 < b.length by omega)]

theorem awB_s1 : sectorOf awPatched 1 = awB := by decide +kernel
theorem awB_s0 : sectorOf awPatched 0 = zeros 64 := by decide +kernel
theorem u8s_awB : u8s awB = (u8s (zeros 64)).set 3 (.int .u8 7) := by rfl
theorem aw_made {w u : World} {D : DkS} (hd : Dk w 2 D u) (hS : D.S = zeros 128) (hP : D.P = []) :
    A1 w D (.slice (some ⟨u.heap.size, 0, none⟩) 64 64) (zeros 128) [] ((u.alloc (madeB 64)).setCell ⟨u.heap.size, 3, none⟩ (.int .u8 7)) := by
  have hbel : Below u.heap.size u ((u.alloc (madeB 64)).setCell ⟨u.heap.size, 3, none⟩ (.int .u8 7)) := ((Below.refl _ _).alloc (Nat.le_refl _) _).setCell (Nat.le_refl _) _
  refine ⟨hd.go hbel, Far.new hd ?_, hS, by rw [hP]; rfl⟩
  rw [u8s_awB]
  exact own_set (owns_madeB u 64 (by decide)) _
theorem made_cell (w : World) : (w.alloc (madeB 64)).cell? ⟨w.heap.size, 3, none⟩ = some (.int .u8 0) := by
  obtain ⟨g, cap, hv, _, _, _, hc, _⟩ := own_reads (owns_madeB w 64 (by decide)) (by decide)
  cases hv
  rw [hc 3 (by decide)]; rfl
set_option maxRecDepth 100000 in
theorem awake_any (w : World) : Calls Try.prog 9 #[] w fun e w' => e = .returned (.bool true) ∧ Below w.heap.size w w' := by
  have HN := Lib.hid (fun w => dk_new 2 w (by decide) (by decide))
  have hmk : ∀ w, (Instr.makeSlice 23 (.int .i64 64) (.int .i64 64)).run Try.prog w = .ok (.slice (some ⟨w.heap.size, 0, none⟩) 64 64) (w.alloc (madeB 64)) := fun w => run_mkB 23 Try.underlying23 64 (by decide) w
  go_enter Try.func9, Try.ntmps9
  go_wp2_with (first
    | (go_at_call 7; refine (HN.out _).mono ?_; rintro e w1 ⟨D, rfl, hd, hS, hP⟩; have HM := Lib.hid (aw_made hd hS hP); have hcm := made_cell w1; have hfm := frozen_of_block (heap_alloc_new w1 (madeB 64)) 3; unfold DkS.ptr; clear hd hS hP))
  have H1 := Lib.hid (aw_write HM.out 1 (by decide) (by decide))
  unfold DkS.ptr at H1
  refine H1.out.mono ?_
  rintro e w2 ⟨rfl, D2, hp2, h2⟩
  rw [show D.db = D2.db from by simpa [DkS.ptr] using hp2.symm]
  clear hcm hfm hp2 H1
  have H1 := Lib.hid (aw_flush h2 (by decide))
  clear h2
  go_wp2_with fail
  unfold DkS.ptr at H1
  refine H1.out.mono ?_
  rintro e w3 ⟨rfl, D3, hp3, h3⟩
  rw [show D2.db = D3.db from by simpa [DkS.ptr] using hp3.symm]
  clear hp3 H1
  have H1 := Lib.hid (aw_write h3 0 (by decide) (by decide))
  clear h3
  go_wp2_with fail
  unfold DkS.ptr at H1
  refine H1.out.mono ?_
  rintro e w4 ⟨rfl, D4, hp4, h4⟩
  rw [show D3.db = D4.db from by simpa [DkS.ptr] using hp4.symm]
  clear hp4 H1
  have H1 := Lib.hid (aw_crash h4 (by decide))
  clear h4
  go_wp2_with fail
  unfold DkS.ptr at H1
  refine H1.out.mono ?_
  rintro e w5 ⟨rfl, D5, hp5, h5⟩
  rw [show D4.db = D5.db from by simpa [DkS.ptr] using hp5.symm]
  clear hp5 H1
  have H1 := Lib.hid (aw_read h5 1 (by decide) awB awB_s1 rfl)
  clear h5
  go_wp2_with fail
  unfold DkS.ptr at H1
  refine H1.out.mono ?_
  rintro e w6 ⟨g, c, rfl, hc6, h6, hb6⟩
  clear hb6 H1
  have H1 := Lib.hid (aw_read h6 0 (by decide) (zeros 64) awB_s0 rfl)
  have hg6 : g < w6.heap.size := World.block_lt_of_cell? w6 _ hc6
  clear h6
  go_wp2_with fail
  unfold DkS.ptr at H1
  refine H1.out.mono ?_
  rintro e w7 ⟨g', c', rfl, hc7, h7, hb7⟩
  have hc67 := (hb7.cell (p := ⟨g, 3, none⟩) hg6).trans hc6
  have HB := Lib.hid h7.1.below
  have hc67 : w7.cell? ⟨g, 3, none⟩ = some (.int .u8 7) := hc67
  have hc7 : w7.cell? ⟨g', 3, none⟩ = some (.int .u8 0) := hc7
  clear hb7 H1 h7 hc6
  go_wp2_with fail
  go_ret
  exact ⟨rfl, HB.out⟩
#print axioms awake_any
end Go.Proofs.Ytjlbamjebidhgaa
