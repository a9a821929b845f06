/- The law's own small question. -/
import Derived.Test.YtaopfgoofhojeaaBal6
namespace Go.Proofs.Ytaopfgoofhojeaa
open Go.RowKit Own

theorem aw1 (w : World) : Calls Try.prog 5 #[.agg #[.int .i64 0, .int .i64 0, .int .i64 0, .int .i64 0, .slice none 0 0], .agg #[.int .i64 3, .int .i64 1]] w fun e w' => ∃ A c, e = .returned (.tuple #[.agg #[.int .i64 3, .int .i64 1, .int .i64 0, .int .i64 0, .slice A 0 c], .bool true]) ∧ ReadsB w' (.slice A 0 c) [] ∧ Below w.heap.size w w' := by
  refine (prep_any 0 0 0 0 3 1 none [] 0 w (.inl ⟨rfl, rfl⟩) (by decide)).mono ?_
  rintro e w' ⟨A, c, rfl, ho, hb⟩
  exact ⟨A, c, rfl, ReadsB.own ho, hb⟩
theorem aw2 (A : Option Addr) (c : Nat) (w : World) (h : ReadsB w (.slice A 0 c) []) : Calls Try.prog 8 #[.agg #[.int .i64 3, .int .i64 1, .int .i64 0, .int .i64 0, .slice A 0 c], .agg #[.int .i64 2, .int .i64 4], .slice none 0 0] w fun e w' => ∃ A' c', e = .returned (.tuple #[.agg #[.int .i64 3, .int .i64 1, .int .i64 0, .int .i64 0, .slice A' 0 c'], .bool false]) ∧ Below w.heap.size w w' := by
  refine (accept_any 3 1 0 0 2 4 A [] c (.slice none 0 0) [] w h (by decide) (.inl ⟨rfl, rfl⟩) (by decide)).mono ?_
  rintro e w' ⟨A', c', rfl, ho, hb⟩
  exact ⟨A', c', rfl, hb⟩
theorem aw3 (A : Option Addr) (c : Nat) (v : Value) (w : World) (h : ReadsB w (.slice A 0 c) []) (hv : ReadsB w v [7]) : Calls Try.prog 8 #[.agg #[.int .i64 3, .int .i64 1, .int .i64 0, .int .i64 0, .slice A 0 c], .agg #[.int .i64 3, .int .i64 1], v] w fun e w' => ∃ A' c', e = .returned (.tuple #[.agg #[.int .i64 3, .int .i64 1, .int .i64 3, .int .i64 1, .slice A' 1 c'], .bool true]) ∧ Below w.heap.size w w' := by
  refine (accept_any 3 1 0 0 3 1 A [] c v [7] w h (by decide) hv (by decide)).mono ?_
  rintro e w' ⟨A', c', rfl, ho, hb⟩
  exact ⟨A', c', rfl, hb⟩
theorem aw4 (w : World) : Calls Try.prog 11 #[.agg #[.int .i64 3, .int .i64 1], .int .i64 0] w fun e w' => e = .returned (.tuple #[.agg #[.int .i64 4, .int .i64 0], .bool true]) ∧ Below w.heap.size w w' := by
  refine (next_in 3 1 0 w (.inr (by decide)) (by decide) (by decide)).mono ?_
  rintro e w' ⟨rfl, hb⟩
  exact ⟨rfl, hb⟩
theorem reads_seven (w : World) : ReadsB (w.alloc (Obj.cells #[Value.int .u8 7] 5)) (.slice (some ⟨w.heap.size, 0, none⟩) 1 1) [7] := by
  refine .inr ⟨⟨w.heap.size, 0, none⟩, 1, rfl, fun j u hu => ?_⟩
  have hj : j < 1 := by have := (List.getElem?_eq_some_iff.1 hu).1; simpa [u8s] using this
  obtain rfl : j = 0 := by omega
  rw [Addr.add_lit, Nat.zero_add, cell_of_row _ _ 0 _ _ (0, 0) (heap_alloc_new w _)]
  exact hu
set_option maxHeartbeats 400000 in
set_option maxRecDepth 100000 in
theorem awake_any (w : World) : Calls Try.prog 10 #[] w fun e w' => e = .returned (.bool true) ∧ Below w.heap.size w w' := by
  go_enter Try.func10, Try.ntmps10
  go_wp2_with fail
  refine (aw1 _).mono ?_
  rintro e w1 ⟨A, c, rfl, hr1, hb1⟩
  obtain ⟨n0, n1, _⟩ := cells2 ((hb1.block _ (by simp)).trans (heap_alloc_new w _))
  have hlt : w.heap.size < w1.heap.size := by have := hb1.size; simp at this; omega
  have hB1 := ((Below.refl w.heap.size w).alloc (Nat.le_refl _) _).trans (hb1.mono (by simp))
  have hn := (hb1.block _ (by simp)).trans (heap_alloc_new w _)
  have HR1 := Lib.hid hr1
  have HB1 := Lib.hid hB1
  have HN := Lib.hid hn
  have HLT := Lib.hid hlt
  clear hr1 hb1 hlt hB1 hn
  go_wp2_with fail
  have hbel : ∀ o : Obj, Below w1.heap.size w1 (w1.alloc o) := fun o => (Below.refl _ _).alloc (Nat.le_refl _) _
  refine (aw2 _ _ _ (HR1.out.below (hbel _))).mono ?_
  rintro e w2 ⟨A2, c2, rfl, hb2⟩
  have h12 := (hbel _).trans (hb2.mono (hbel _).size)
  have hacc := (hb2.block _ (by simp)).trans (heap_alloc_new w1 _)
  obtain ⟨n0, n1, _⟩ := cells2 ((h12.block _ HLT.out).trans HN.out)
  obtain ⟨k0, k1, k2, k3, k4, _⟩ := cells5 hacc
  have H12 := Lib.hid h12
  have HACC := Lib.hid hacc
  have HLT2 : Hid (w1.heap.size < w2.heap.size) := by
    have := hb2.size
    show _ < _
    simp at this; omega
  clear hb2 h12 hacc hbel
  have hbel2 : ∀ o o2 : Obj, Below w2.heap.size w2 ((w2.alloc o).alloc o2) := fun o o2 => ((Below.refl _ _).alloc (Nat.le_refl _) _).alloc (by simp) _
  have HBEL2 := Lib.hid hbel2
  have HLTW : Hid (w.heap.size < w2.heap.size) := Nat.lt_trans HLT.out HLT2.out
  have kk : ∀ o : Obj, (w2.alloc o).cell? ⟨w.heap.size, 0, none⟩ = some (.int .i64 3) ∧ (w2.alloc o).cell? ⟨w.heap.size, 1, none⟩ = some (.int .i64 1) ∧ (w2.alloc o).heap[w1.heap.size]? = some (.cells #[Value.int .i64 3, .int .i64 1, .int .i64 0, .int .i64 0, .slice A 0 c] 26 (0, 0)) := fun o => by
    have hb := (Below.refl w2.heap.size w2).alloc (Nat.le_refl _) o
    exact ⟨(hb.cell (p := ⟨w.heap.size, 0, none⟩) HLTW.out).trans n0, (hb.cell (p := ⟨w.heap.size, 1, none⟩) HLTW.out).trans n1, (hb.block _ HLT2.out).trans HACC.out⟩
  obtain ⟨n0a, n1a, hka⟩ := kk (Obj.cells #[Value.int .i64 3, .int .i64 1, .int .i64 0, .int .i64 0, .slice A2 0 c2] 26)
  obtain ⟨k0a, k1a, k2a, k3a, k4a, _⟩ := cells5 hka
  clear kk hbel2 hka
  go_wp2_with fail
  refine (aw3 A c (.slice (some ⟨w2.heap.size + 1, 0, none⟩) 1 1) _ ?_ ?_).mono ?_
  · exact HR1.out.below (H12.out.trans ((HBEL2.out _ _).mono H12.out.size))
  · have := reads_seven (w2.alloc (Obj.cells #[Value.int .i64 3, .int .i64 1, .int .i64 0, .int .i64 0, .slice A2 0 c2] 26))
    rwa [show (w2.alloc (Obj.cells #[Value.int .i64 3, .int .i64 1, .int .i64 0, .int .i64 0, .slice A2 0 c2] 26)).heap.size = w2.heap.size + 1 by simp] at this
  rintro e w3 ⟨A3, c3, rfl, hb3⟩
  have hb23 : Below w2.heap.size w2 w3 := (HBEL2.out _ _).trans (hb3.mono (HBEL2.out _ _).size)
  have n0b : w3.cell? ⟨w.heap.size, 0, none⟩ = some (.int .i64 3) := (hb23.cell (p := ⟨w.heap.size, 0, none⟩) HLTW.out).trans n0
  have n1b : w3.cell? ⟨w.heap.size, 1, none⟩ = some (.int .i64 1) := (hb23.cell (p := ⟨w.heap.size, 1, none⟩) HLTW.out).trans n1
  have hlt3 : w.heap.size < w3.heap.size := Nat.lt_of_lt_of_le HLTW.out hb23.size
  have n0c : ∀ o : Obj, (w3.alloc o).cell? ⟨w.heap.size, 0, none⟩ = some (.int .i64 3) := fun o => (((Below.refl w3.heap.size w3).alloc (Nat.le_refl _) o).cell (p := ⟨w.heap.size, 0, none⟩) hlt3).trans n0b
  have n1c : ∀ o : Obj, (w3.alloc o).cell? ⟨w.heap.size, 1, none⟩ = some (.int .i64 1) := fun o => (((Below.refl w3.heap.size w3).alloc (Nat.le_refl _) o).cell (p := ⟨w.heap.size, 1, none⟩) hlt3).trans n1b
  have HB3 := Lib.hid (HB1.out.trans ((H12.out.trans (hb23.mono H12.out.size)).mono HB1.out.size))
  clear hb3 hb23 n0 n1 k0 k1 k2 k3 k4 n0a n1a k0a k1a k2a k3a k4a hlt3
  go_wp2_with fail
  refine (aw4 _).mono ?_
  rintro e w4 ⟨rfl, hb4⟩
  have hblk := (hb4.block _ (by simp)).trans (heap_alloc_new w3 _)
  obtain ⟨_, _, _, _, v4, _⟩ := cells5 hblk
  have hlt4 : w3.heap.size < w4.heap.size := by have := hb4.size; simp at this; omega
  have v5 : ∀ o : Obj, (w4.alloc o).cell? ⟨w3.heap.size, 4, none⟩ = some (.slice A3 1 c3) := fun o => (((Below.refl w4.heap.size w4).alloc (Nat.le_refl _) o).cell (p := ⟨w3.heap.size, 4, none⟩) hlt4).trans v4
  have HB4 : Hid (∀ o : Obj, Below w.heap.size w (w4.alloc o)) := fun o => (HB3.out.trans ((((Below.refl w3.heap.size w3).alloc (Nat.le_refl _) _).trans (hb4.mono (by simp))).mono HB3.out.size)).alloc (Nat.le_trans HB3.out.size (Nat.le_of_lt hlt4)) o
  clear hb4 hblk hlt4 n0c n1c n0b n1b v4
  go_wp2_with fail
  go_ret
  exact ⟨rfl, HB4.out _⟩
end Go.Proofs.Ytaopfgoofhojeaa
