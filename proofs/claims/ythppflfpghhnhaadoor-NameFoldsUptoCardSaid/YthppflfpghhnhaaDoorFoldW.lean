/- The walks of small, Fold, Same and the reference's Fold. -/
import Derived.Test.YthppflfpghhnhaaDoorFold
import Derived.Test.YthppflfpghhnhaaDoorRunes
import Derived.Test.YthppflfpghhnhaaDoorAw
import Derived.Test.YthppflfpghhnhaaDoorShelf
namespace Go.Proofs.YthppflfpghhnhaaDoor
open Go.RowKit Utf

/-- the two tables of the library, as their initialisers lay them -/
def Tabs (w : World) : Prop := Lib.Utf8Tabs 0 1 w
theorem Tabs.below {w w' : World} (h : Tabs w) (hb : Below w.heap.size w w') : Tabs w' := Utf8Tabs_below h hb

theorem small_any (x : Int) (w : World) (h1 : 0 ≤ x) (h2 : x ≤ 1114111) :
    Calls Tryd.prog 11 #[.int .i32 x] w fun e w' => e = .returned (.int .i32 (smallU x)) ∧ w = w' := by
  have hw1 : IntKind.i32.wrap (x - 65) = x - 65 := by rw [IntKind.wrap_i32]; omega
  have hw2 : IntKind.i32.wrap (x - 65 + 97) = x + 32 := by rw [IntKind.wrap_i32]; omega
  have hcase : (65 ≤ x ∧ x ≤ 90) ∨ (65 ≤ x ∧ ¬ x ≤ 90) ∨ ¬ 65 ≤ x := by omega
  rcases hcase with ⟨c1, c2⟩ | ⟨c1, c2⟩ | c1
  · have HV : Hid (smallU x = x + 32) := by show _ = _; unfold smallU; rw [if_pos ⟨c1, c2⟩]
    go_enter Tryd.func11, Tryd.ntmps11
    go_wp2
    go_ret
    exact ⟨by rw [HV.out]; rfl, rfl⟩
  · have HV : Hid (smallU x = x) := by show _ = _; unfold smallU; rw [if_neg (by omega)]
    go_enter Tryd.func11, Tryd.ntmps11
    go_wp2
    go_ret
    exact ⟨by rw [HV.out]; rfl, rfl⟩
  · have HV : Hid (smallU x = x) := by show _ = _; unfold smallU; rw [if_neg (by omega)]
    go_enter Tryd.func11, Tryd.ntmps11
    go_wp2
    go_ret
    exact ⟨by rw [HV.out]; rfl, rfl⟩
theorem small_pays (w : World) : MapAtRunes Tryd.prog 11 #[] smallU w := by
  intro W x hx hb
  show Calls Tryd.prog 11 #[.int .i32 (x : Int)] W _
  refine (small_any (x : Int) W (by omega) (by omega)).mono ?_
  rintro e w' ⟨rfl, rfl⟩
  exact ⟨rfl, 0, rfl⟩
theorem small_range (x : Nat) (hx : x ≤ 1114111) : 0 ≤ smallU x ∧ smallU x ≤ 2147483647 := by
  unfold smallU
  split <;> omega
theorem map_any (s : ByteArray) (w : World) (hs : s.size ≤ 1048576) (hT : Tabs w) (hg : (runes s).isSome = true) :
    Calls Tryd.prog 10 #[.func (.func 11) #[] #[], .string s] w fun e w' => e = .returned (.string (foldS s)) ∧ Below w.heap.size w w' := by
  have h := Tryd.strings_Map_runes 11 #[] (enters_of Tryd.func11 (by kernel_rfl) rfl) smallU s w (by omega) (small_pays w) small_range hT
  have e := mapD_fold s s.size 0 (by omega) hg
  rw [List.drop_zero] at e
  rw [e] at h
  exact h

def foldE (s : ByteArray) : Int := if (runes s).isSome = true then 0 else 5
def foldV (s : ByteArray) : ByteArray := if (runes s).isSome = true then foldS s else ⟨#[]⟩
theorem fold_any (s : ByteArray) (w : World) (hs : s.size ≤ 1048576) (hT : Tabs w) :
    Calls Tryd.prog 4 #[.string s] w fun e w' => e = .returned (.tuple #[.string (foldV s), .int .i64 (foldE s)]) ∧ Below w.heap.size w w' := by
  have hG := good_any s w
  have hM := fun w' hb hg => map_any s w' hs (hT.below hb) hg
  unfold foldV foldE
  cases hg : (runes s).isSome with
  | false =>
    rw [hg] at hG
    clear hM hg hT hs
    go_enter Tryd.func4, Tryd.ntmps4
    go_wp2_with (go_at_call 9; refine hG.mono ?_; rintro e w1 ⟨rfl, hb1⟩)
    go_ret2
    exact ⟨rfl, hb1⟩
  | true =>
    rw [hg] at hG
    have HM : Hid (∀ w', Below w.heap.size w w' → Calls Tryd.prog 10 #[.func (.func 11) #[] #[], .string s] w' fun e w'' => e = .returned (.string (foldS s)) ∧ Below w'.heap.size w' w'') := fun w' hb => hM w' hb hg
    clear hM hg hT hs
    go_enter Tryd.func4, Tryd.ntmps4
    go_wp2_with (first
      | (go_at_call 9; refine hG.mono ?_; rintro e w1 ⟨rfl, hb1⟩)
      | (go_at_call 10; refine (HM.out _ hb1).mono ?_; rintro e w2 ⟨rfl, hb2⟩))
    go_ret2
    exact ⟨rfl, hb1.trans (hb2.mono hb1.size)⟩
end Go.Proofs.YthppflfpghhnhaaDoor
