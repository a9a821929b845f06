/- The walk of the law's heavy. -/
import Derived.Test.YtbbbdhpihcbmmaaPLess1
namespace Go.Proofs.Ytbbbdhpihcbmmaa
open Go.RowKit Own

def hvS (xs : List EvIn) : Nat → Int
  | 0 => 0
  | j + 1 => wrap64 (hvS xs j + (((xs[j]?.map (fun x => x.call.d.length)).getD 0 : Nat) : Int))
theorem hvS_succ (xs : List EvIn) {j : Nat} (hj : j < xs.length) : hvS xs (j + 1) = wrap64 (hvS xs j + ((xs[j]'hj).call.d.length : Int)) := by
  simp [hvS, List.getElem?_eq_getElem hj]
def heavyB (xs : List EvIn) : Bool := decide (2000 < hvS xs xs.length)
set_option maxHeartbeats 1000000 in
theorem heavy_any (v : Value) (xs : List EvIn) (w : World) (hv : xs = [] ∨ ReadsEvs w v xs) (hsl : ∃ A c, v = .slice A xs.length c) (hn : xs.length ≤ 140737488351232) :
    Calls Try.prog 14 #[v] w fun e w' => e = .returned (.bool (heavyB xs)) ∧ Below w.heap.size w w' := by
  obtain ⟨Av, cv, rfl⟩ := hsl
  have HV := Lib.hid hv
  have hM : (xs.length : Int) ≤ 140737488351232 := by omega
  clear hv hn
  go_enter Try.func14, Try.ntmps14
  go_wp2_with fail
  go_loopw [3, 4] (fun nv i wr => ∃ (m : Int) (j : Nat), nv = .int .i64 m ∧ Hid (m = hvS xs j) ∧ i = .int .i64 j ∧ j ≤ xs.length ∧ Below w.heap.size w wr) (fun _ i _ => xs.length - (intOf i).toNat)
  case atStart => exact ⟨0, 0, rfl, rfl, rfl, Nat.zero_le _, Below.refl _ _⟩
  case round =>
    obtain ⟨m, j, rfl, HS, rfl, hj, hb⟩ := hrel
    have HB := Lib.hid hb
    clear hb
    by_cases hlt : j < xs.length
    · have k1 : (j : Int) < (xs.length : Int) := by omega
      have k0 : (0 : Int) ≤ (j : Int) := by omega
      have hve : ReadsEvs w (.slice Av xs.length cv) xs := by
        rcases HV.out with h | h
        · subst h; cases hlt
        · exact h
      obtain ⟨bb, off, cc, hvv, hact⟩ := (hve.below HB.out).at_ hlt
      cases hvv
      have HSs := Lib.hid (hvS_succ xs hlt)
      generalize xs[j]'hlt = x at *
      obtain ⟨dA, dc, rA, rc, ⟨e0, e1, e2, e3, e4, e5, e6, e7, e8, e9, e10, e11⟩, hrd, hrr⟩ := hact.cells
      obtain ⟨xc, xk, done, unk, ⟨k, xs', a, d, n⟩, ⟨code, size, rd⟩⟩ := x
      dsimp only at e0 e1 e2 e3 e4 e5 e6 e7 e8 e9 e10 e11 HSs
      clear hact hve hrd hrr
      go_wp2_with fail
      go_roundw
      case rel => exact ⟨_, j + 1, rfl, Lib.hid (by rw [HSs.out, HS.out]), by go_num, by omega, HB.out⟩
      case measure => simp [intOf]; omega
    · have k1 : ¬ (j : Int) < (xs.length : Int) := by omega
      go_wp2_with fail
      go_ret
      refine ⟨?_, HB.out⟩
      have h9 : heavyB xs = decide (2000 < m) := by unfold heavyB; rw [HS.out, show j = xs.length by omega]
      simp [h9]
end Go.Proofs.Ytbbbdhpihcbmmaa
