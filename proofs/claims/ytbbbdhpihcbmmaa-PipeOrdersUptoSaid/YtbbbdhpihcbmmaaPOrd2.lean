/- The walk of orders, of any calls. -/
import Derived.Test.YtbbbdhpihcbmmaaPLin2
import Derived.Deep.Onto
import Derived.Laws.EntriesVeiled
namespace Go.Proofs.Ytbbbdhpihcbmmaa
open Go.RowKit Own
open Go.Maps (Keyed)

/-- calls of one name as they lie -/
def RowL (w : World) (B g cap : Nat) (LV : List SpV) : Prop := w.ownsRow B 73 11 (.slice (some ⟨g, 0, none⟩) LV.length cap) LV.length (cellsSp LV) ∧ ∀ p ∈ LV, SpReads w p

open Classical in
set_option maxHeartbeats 8000000 in
theorem orders_any (g cap : Nat) (LV : List SpV) (hN : LV.length ≤ 8) (hok : ∀ p ∈ LV, SpOk p.1) (w : World) (B : Nat) (hl : RowL w B g cap LV) :
    Calls Try.prog 27 #[.slice (some ⟨g, 0, none⟩) LV.length cap] w fun e w' => e = .returned (.bool (decide (Goes (LV.map Prod.fst) 0 false []))) ∧ Below w.heap.size w w' := by
  have HL := Lib.hid hl
  have HOk := Lib.hid (And.intro hok hN)
  clear hl hok hN
  have hmm := @run_makeMap Try.prog
  obtain ⟨N, hN⟩ : ∃ N, N = LV.length := ⟨_, rfl⟩
  obtain ⟨wA, hwA⟩ : ∃ wA, wA = (((w.alloc (.cells #[.slice (some ⟨g, 0, none⟩) N cap] 63)).alloc (.map #[] 0)).alloc (.cells #[.map (some (w.heap.size + 1))] 76)).alloc (.cells #[.func (.func 35) #[] #[.pointer (some ⟨w.heap.size + 1 + 1, 0, none⟩), .pointer (some ⟨w.heap.size, 0, none⟩), .pointer (some ⟨w.heap.size + 1 + 1 + 1, 0, none⟩)]] 77) := ⟨_, rfl⟩
  have hn1 : (w.alloc (.cells #[.slice (some ⟨g, 0, none⟩) N cap] 63)).heap.size = w.heap.size + 1 := Array.size_push _
  have hn2 : ((w.alloc (.cells #[.slice (some ⟨g, 0, none⟩) N cap] 63)).alloc (.map #[] 0)).heap.size = w.heap.size + 1 + 1 := (Array.size_push _).trans (congrArg (· + 1) hn1)
  have hn3 : (((w.alloc (.cells #[.slice (some ⟨g, 0, none⟩) N cap] 63)).alloc (.map #[] 0)).alloc (.cells #[.map (some (w.heap.size + 1))] 76)).heap.size = w.heap.size + 1 + 1 + 1 := (Array.size_push _).trans (congrArg (· + 1) hn2)
  have al := fun (W : World) o => (Below.refl W.heap.size W).alloc (Nat.le_refl _) o
  have k0 := heap_alloc_new w (.cells #[.slice (some ⟨g, 0, none⟩) N cap] 63)
  have k1 := heap_alloc_new (w.alloc (.cells #[.slice (some ⟨g, 0, none⟩) N cap] 63)) (.map #[] 0)
  have k2 := heap_alloc_new ((w.alloc (.cells #[.slice (some ⟨g, 0, none⟩) N cap] 63)).alloc (.map #[] 0)) (.cells #[.map (some (w.heap.size + 1))] 76)
  have k3 := heap_alloc_new (((w.alloc (.cells #[.slice (some ⟨g, 0, none⟩) N cap] 63)).alloc (.map #[] 0)).alloc (.cells #[.map (some (w.heap.size + 1))] 76)) (.cells #[.func (.func 35) #[] #[.pointer (some ⟨w.heap.size + 1 + 1, 0, none⟩), .pointer (some ⟨w.heap.size, 0, none⟩), .pointer (some ⟨w.heap.size + 1 + 1 + 1, 0, none⟩)]] 77)
  rw [hn1] at k1
  rw [hn2] at k2
  rw [hn3] at k3
  have up : ∀ {W : World} {o o' : Obj} {b : Nat}, W.heap[b]? = some o' → (W.alloc o).heap[b]? = some o' := fun {W o o' b} h => ((al W o).block b (Array.getElem?_eq_some_iff.1 h).1).trans h
  have k0 : wA.heap[w.heap.size]? = some (.cells #[.slice (some ⟨g, 0, none⟩) N cap] 63 (0, 0)) := by rw [hwA]; exact up (up (o := .cells #[.map (some (w.heap.size + 1))] 76) (up (o := .map #[] 0) k0))
  have k1 : wA.heap[w.heap.size + 1]? = some (.map #[] 0) := by rw [hwA]; exact up (up (o := .cells #[.map (some (w.heap.size + 1))] 76) k1)
  have k2 : wA.heap[w.heap.size + 1 + 1]? = some (.cells #[.map (some (w.heap.size + 1))] 76 (0, 0)) := by rw [hwA]; exact up k2
  have hb0 : Below w.heap.size w wA := by
    rw [hwA]
    exact ((((Below.refl _ _).alloc (Nat.le_refl _) _).alloc (by rw [hn1]; omega) _).alloc (by rw [hn2]; omega) _).alloc (by rw [hn3]; omega) _
  rw [← hwA] at k3
  have hge : GG (w.heap.size + 1 + 1) w.heap.size (w.heap.size + 1 + 1 + 1) (w.heap.size + 1) 0 noKeys g cap LV wA :=
    ⟨k2, by rw [← hN]; exact k0, k3, ⟨#[], 0, k1, Go.MapKept.stamped_empty 0, Nat.le_refl _, by simp, by simp [noKeys]⟩, World.ownsRow.mono (own_below HL.out.1 hb0) (Nat.zero_le _), fun p hp => (HL.out.2 p hp).kept (Kept.of_below hb0)⟩
  have H2 : Hid (Calls Try.prog 35 #[.agg #[.int .u64 0, .bool false, .string ⟨#[]⟩], .pointer (some ⟨w.heap.size + 1 + 1, 0, none⟩), .pointer (some ⟨w.heap.size, 0, none⟩), .pointer (some ⟨w.heap.size + 1 + 1 + 1, 0, none⟩)] wA (GPost (w.heap.size + 1 + 1) w.heap.size (w.heap.size + 1 + 1 + 1) (w.heap.size + 1) g cap LV [] 0 false [] wA)) := (goes_any (w.heap.size + 1 + 1) w.heap.size (w.heap.size + 1 + 1 + 1) (w.heap.size + 1) g cap LV HOk.out.2 HOk.out.1 (LV.length + 1) 0 (by omega) (by omega) false [] (by simp) 0 noKeys [] wA hge SK.nil (fun t ht => by cases ht))
  have HB0 := Lib.hid hb0
  rw [← hN]
  clear hge al k0 k1 k2 k3 up hb0 hn1 hn2 hn3 hN
  have HZ : Hid (∀ b, b ∈ [w.heap.size + 1] → w.heap.size ≤ b) := fun b hb => by rw [List.mem_singleton] at hb; omega
  subst hwA
  go_enter Try.func27, Try.ntmps27
  go_wp2_with (go_at_call 35; (with_reducible refine H2.out.mono ?_); rintro e w6 ⟨r, rfl, hr, hc6, _⟩; have HR := Lib.hid hr; have HC := Lib.hid hc6; clear hr hc6)
  go_ret
  refine ⟨?_, HB0.out.trans (HC.out.below HB0.out.size HZ.out)⟩
  have h := HR.out
  cases r with
  | true => simp [h.1 rfl]
  | false => simpa using (fun hg => by cases h.2 hg : ¬ Goes (LV.map Prod.fst) 0 false [])
end Go.Proofs.Ytbbbdhpihcbmmaa
