/- The walk of orders, of one call. -/
import Derived.Test.YtbbbdhpihcbmmaaPGo3
import Derived.Deep.Onto
import Derived.Laws.EntriesVeiled
namespace Go.Proofs.Ytbbbdhpihcbmmaa
open Go.RowKit Own
open Go.Maps (Keyed)

set_option maxHeartbeats 8000000 in
theorem orders_one (g cap : Nat) (c : CallIn) (hok : CallOk c) (dv rv : Value) (r : RepIn) (hrd : r.d.length ≤ 140737488351232) (w : World) (B : Nat)
    (hl : w.ownsRow B 73 11 (.slice (some ⟨g, 0, none⟩) 1 cap) 1 (spanC c dv 0 1 true r rv).toList) (hD : ReadsB w dv c.d) (hR : ReadsB w rv r.d) :
    Calls Try.prog 27 #[.slice (some ⟨g, 0, none⟩) 1 cap] w fun e w' => e = .returned (.bool (sameB (repOf (doR c false [])) r)) ∧ Below w.heap.size w w' := by
  obtain ⟨dA, dc, rfl⟩ := hD.slice
  obtain ⟨rA, rc, rfl⟩ := hR.slice
  have HL := Lib.hid (And.intro hl (And.intro hD hR))
  have HOk := Lib.hid (And.intro hok hrd)
  clear hl hD hR hok hrd
  have hmm := @run_makeMap Try.prog
  obtain ⟨wA, hwA⟩ : ∃ wA, wA = (((w.alloc (.cells #[.slice (some ⟨g, 0, none⟩) 1 cap] 63)).alloc (.map #[] 0)).alloc (.cells #[.map (some (w.heap.size + 1))] 76)).alloc (.cells #[.func (.func 35) #[] #[.pointer (some ⟨w.heap.size + 1 + 1, 0, none⟩), .pointer (some ⟨w.heap.size, 0, none⟩), .pointer (some ⟨w.heap.size + 1 + 1 + 1, 0, none⟩)]] 77) := ⟨_, rfl⟩
  have hn1 : (w.alloc (.cells #[.slice (some ⟨g, 0, none⟩) 1 cap] 63)).heap.size = w.heap.size + 1 := Array.size_push _
  have hn2 : ((w.alloc (.cells #[.slice (some ⟨g, 0, none⟩) 1 cap] 63)).alloc (.map #[] 0)).heap.size = w.heap.size + 1 + 1 := (Array.size_push _).trans (congrArg (· + 1) hn1)
  have hn3 : (((w.alloc (.cells #[.slice (some ⟨g, 0, none⟩) 1 cap] 63)).alloc (.map #[] 0)).alloc (.cells #[.map (some (w.heap.size + 1))] 76)).heap.size = w.heap.size + 1 + 1 + 1 := (Array.size_push _).trans (congrArg (· + 1) hn2)
  have al := fun (W : World) o => (Below.refl W.heap.size W).alloc (Nat.le_refl _) o
  have k0 := heap_alloc_new w (.cells #[.slice (some ⟨g, 0, none⟩) 1 cap] 63)
  have k1 := heap_alloc_new (w.alloc (.cells #[.slice (some ⟨g, 0, none⟩) 1 cap] 63)) (.map #[] 0)
  have k2 := heap_alloc_new ((w.alloc (.cells #[.slice (some ⟨g, 0, none⟩) 1 cap] 63)).alloc (.map #[] 0)) (.cells #[.map (some (w.heap.size + 1))] 76)
  have k3 := heap_alloc_new (((w.alloc (.cells #[.slice (some ⟨g, 0, none⟩) 1 cap] 63)).alloc (.map #[] 0)).alloc (.cells #[.map (some (w.heap.size + 1))] 76)) (.cells #[.func (.func 35) #[] #[.pointer (some ⟨w.heap.size + 1 + 1, 0, none⟩), .pointer (some ⟨w.heap.size, 0, none⟩), .pointer (some ⟨w.heap.size + 1 + 1 + 1, 0, none⟩)]] 77)
  rw [hn1] at k1
  rw [hn2] at k2
  rw [hn3] at k3
  have up : ∀ {W : World} {o o' : Obj} {b : Nat}, W.heap[b]? = some o' → (W.alloc o).heap[b]? = some o' := fun {W o o' b} h => ((al W o).block b (Array.getElem?_eq_some_iff.1 h).1).trans h
  have k0 : wA.heap[w.heap.size]? = some (.cells #[.slice (some ⟨g, 0, none⟩) 1 cap] 63 (0, 0)) := by rw [hwA]; exact up (up (o := .cells #[.map (some (w.heap.size + 1))] 76) (up (o := .map #[] 0) k0))
  have k1 : wA.heap[w.heap.size + 1]? = some (.map #[] 0) := by rw [hwA]; exact up (up (o := .cells #[.map (some (w.heap.size + 1))] 76) k1)
  have k2 : wA.heap[w.heap.size + 1 + 1]? = some (.cells #[.map (some (w.heap.size + 1))] 76 (0, 0)) := by rw [hwA]; exact up k2
  have hb0 : Below w.heap.size w wA := by
    rw [hwA]
    exact ((((Below.refl _ _).alloc (Nat.le_refl _) _).alloc (by rw [hn1]; omega) _).alloc (by rw [hn2]; omega) _).alloc (by rw [hn3]; omega) _
  rw [← hwA] at k3
  have hge : GE w (w.heap.size + 1 + 1) w.heap.size (w.heap.size + 1 + 1 + 1) (w.heap.size + 1) 0 noKeys g cap (spanC c (.slice dA c.d.length dc) 0 1 true r (.slice rA r.d.length rc)) wA :=
    ⟨k2, k0, k3, ⟨#[], 0, k1, Go.MapKept.stamped_empty 0, Nat.le_refl _, by simp, by simp [noKeys]⟩, World.ownsRow.mono (own_below HL.out.1 hb0) (Nat.zero_le _), by omega, hb0⟩
  have H2 := Lib.hid (goes_first w _ _ _ _ 0 g cap c HOk.out.1 dA rA dc rc r HOk.out.2 wA hge (HL.out.2.1.below hb0) (HL.out.2.2.below hb0))
  clear hge al k0 k1 k2 k3 up hb0 hn1 hn2 hn3
  subst hwA
  go_enter Try.func27, Try.ntmps27
  go_wp2_with (go_at_call 35; (with_reducible refine H2.out.mono ?_); rintro e w6 ⟨rfl, hb6⟩; have HB6 := Lib.hid hb6; clear hb6)
  go_ret
  exact ⟨rfl, HB6.out⟩
end Go.Proofs.Ytbbbdhpihcbmmaa
