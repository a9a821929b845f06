/- The reference's May; Prepare of both. -/
import Derived.Test.YtaopfgoofhojeaaBal2
namespace Go.Proofs.Ytaopfgoofhojeaa
open Go.RowKit Own

theorem cells2 {w : World} {n : Nat} {t : TypeId} {c0 c1 : Value} (h : w.heap[n]? = some (.cells #[c0, c1] t (0, 0))) :
    w.cell? ⟨n, 0, none⟩ = some c0 ∧ w.cell? ⟨n, 1, none⟩ = some c1 ∧ ∀ j, w.frozen? ⟨n, j, none⟩ = false :=
  ⟨by rw [cell_of_row _ _ 0 _ _ _ h]; rfl, by rw [cell_of_row _ _ 1 _ _ _ h]; rfl, fun j => frozen_of_block h j⟩
theorem acc_cells {w w' : World} {pr pm ar am r m : Int} {b : Value} (hb : Below ((w.alloc (Obj.cells #[Value.int .i64 pr, .int .i64 pm, .int .i64 ar, .int .i64 am, b] 26)).alloc (Obj.cells #[Value.int .i64 r, .int .i64 m] 23)).heap.size ((w.alloc (Obj.cells #[Value.int .i64 pr, .int .i64 pm, .int .i64 ar, .int .i64 am, b] 26)).alloc (Obj.cells #[Value.int .i64 r, .int .i64 m] 23)) w') :
    (w'.cell? ⟨w.heap.size, 0, none⟩ = some (.int .i64 pr) ∧ w'.cell? ⟨w.heap.size, 1, none⟩ = some (.int .i64 pm) ∧ w'.cell? ⟨w.heap.size, 2, none⟩ = some (.int .i64 ar) ∧ w'.cell? ⟨w.heap.size, 3, none⟩ = some (.int .i64 am) ∧ w'.cell? ⟨w.heap.size, 4, none⟩ = some b) ∧
      w'.cell? ⟨w.heap.size + 1, 0, none⟩ = some (.int .i64 r) ∧ w'.cell? ⟨w.heap.size + 1, 1, none⟩ = some (.int .i64 m) ∧ Below w.heap.size w w' := by
  obtain ⟨b1, b2⟩ := two_blocks hb
  obtain ⟨k0, k1, k2, k3, k4, _⟩ := cells5 b1
  obtain ⟨n0, n1, _⟩ := cells2 b2
  exact ⟨⟨k0, k1, k2, k3, k4⟩, n0, n1, (((Below.refl _ _).alloc (Nat.le_refl _) _).alloc (by simp) _).trans (hb.mono (by simp <;> omega))⟩
theorem mayA_eq (pr pm ar am : Int) (l : List UInt8) : mayA ⟨⟨pr, pm⟩, ⟨ar, am⟩, l⟩ = ((zeroB ⟨pr, pm⟩ || mayB ⟨pr, pm⟩) && (zeroB ⟨ar, am⟩ || mayB ⟨ar, am⟩) && !lessB ⟨pr, pm⟩ ⟨ar, am⟩ && ((l.length : Int) == 0 || !zeroB ⟨ar, am⟩)) := by
  have : decide (l.length = 0) = ((l.length : Int) == 0) := by
    rw [Bool.eq_iff_iff]; simp
  simp only [mayA, this]
set_option maxRecDepth 100000 in
theorem rmayA_any (pr pm ar am : Int) (A : Option Addr) (l : List UInt8) (c : Nat) (w : World) :
    Calls Try.prog 18 #[.agg #[.int .i64 pr, .int .i64 pm, .int .i64 ar, .int .i64 am, .slice A l.length c]] w (Ans (.bool (mayA ⟨⟨pr, pm⟩, ⟨ar, am⟩, l⟩)) w) := by
  have HM := Lib.hid rmay_any
  have HL := Lib.hid rless_any
  have HV := Lib.hid mayA_eq
  rcases zero_cases pr pm with ⟨rfl, rfl, hzp⟩ | ⟨rfl, hp2, hzp⟩ | ⟨hp1, hzp⟩ <;> rcases zero_cases ar am with ⟨rfl, rfl, hza⟩ | ⟨rfl, ha2, hza⟩ | ⟨ha1, hza⟩
  all_goals
    have HZP := Lib.hid hzp
    have HZA := Lib.hid hza
    clear hzp hza
    go_enter Try.func18, Try.ntmps18
    go_wp2_with (first
      | (go_at_call 19; refine (HM.out _ _ _).mono ?_; rintro e wn ⟨rfl, hb⟩; (first | (have q := acc_cells hb; have HBL := Lib.hid hb) | (have q := acc_cells (HBL.out.trans (hb.mono HBL.out.size)); replace HBL := Lib.hid (HBL.out.trans (hb.mono HBL.out.size)))); obtain ⟨⟨k0, k1, k2, k3, k4⟩, n0, n1, hbn⟩ := q; have HBN := Lib.hid hbn; clear hb hbn)
      | (go_at_call 20; refine (HL.out _ _ _ _ _).mono ?_; rintro e wn ⟨rfl, hb⟩; (first | (have q := acc_cells hb; have HBL := Lib.hid hb) | (have q := acc_cells (HBL.out.trans (hb.mono HBL.out.size)); replace HBL := Lib.hid (HBL.out.trans (hb.mono HBL.out.size)))); obtain ⟨⟨k0, k1, k2, k3, k4⟩, n0, n1, hbn⟩ := q; have HBN := Lib.hid hbn; clear hb hbn))
    all_goals
      go_ret
      refine ⟨?_, HBN.out⟩
      rw [HV.out, HZP.out]
      (try rw [HZA.out])
      simp_all
end Go.Proofs.Ytaopfgoofhojeaa
