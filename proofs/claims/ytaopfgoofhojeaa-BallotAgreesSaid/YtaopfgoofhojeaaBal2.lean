/- Acceptors: the reference's May; own, Prepare, Accept of both; Same. -/
import Derived.Test.YtaopfgoofhojeaaBal
import Derived.Test.YtaopfgoofhojeaaBytesIn
namespace Go.Proofs.Ytaopfgoofhojeaa
open Go.RowKit Own

theorem cells5 {w : World} {n : Nat} {t : TypeId} {c0 c1 c2 c3 c4 : Value} (h : w.heap[n]? = some (.cells #[c0, c1, c2, c3, c4] t (0, 0))) :
    w.cell? ⟨n, 0, none⟩ = some c0 ∧ w.cell? ⟨n, 1, none⟩ = some c1 ∧ w.cell? ⟨n, 2, none⟩ = some c2 ∧ w.cell? ⟨n, 3, none⟩ = some c3 ∧ w.cell? ⟨n, 4, none⟩ = some c4 ∧ ∀ j, w.frozen? ⟨n, j, none⟩ = false :=
  ⟨by rw [cell_of_row _ _ 0 _ _ _ h]; rfl, by rw [cell_of_row _ _ 1 _ _ _ h]; rfl, by rw [cell_of_row _ _ 2 _ _ _ h]; rfl, by rw [cell_of_row _ _ 3 _ _ _ h]; rfl, by rw [cell_of_row _ _ 4 _ _ _ h]; rfl, fun j => frozen_of_block h j⟩
/-- two blocks that were made first, at a later world -/
theorem two_blocks {w w1 : World} {O1 O2 : Obj} (hb : Below ((w.alloc O1).alloc O2).heap.size ((w.alloc O1).alloc O2) w1) : w1.heap[w.heap.size]? = some O1 ∧ w1.heap[w.heap.size + 1]? = some O2 := by
  constructor
  · rw [hb.block _ (by simp; omega)]
    have h1 := heap_alloc_new w O1
    have h2 := ((Below.refl (w.alloc O1).heap.size (w.alloc O1)).alloc (Nat.le_refl _) O2).block w.heap.size (by simp)
    rw [h2, h1]
  · rw [hb.block _ (by simp)]
    have := heap_alloc_new (w.alloc O1) O2
    simpa using this
theorem own_low {w : World} {base : Nat} {e : TypeId} {size n : Nat} {v : Value} {xs : List Value} (h : w.ownsRow base e size v n xs) {k : Nat} (hk : k < base) (j : Nat) (u : Value) : (w.setCell ⟨k, j, none⟩ u).ownsRow base e size v n xs :=
  own_same h fun g hg => Below.heap_setCell _ _ _ _ (by have := (h.lt g hg).1; rintro rfl; omega)
def OwnPost (pr pm ar am : Int) (l : List UInt8) (w : World) (e : Ending) (w' : World) : Prop :=
  ∃ A c, e = .returned (.agg #[.int .i64 pr, .int .i64 pm, .int .i64 ar, .int .i64 am, .slice A l.length c]) ∧ w'.ownsRow w.heap.size 5 1 (.slice A l.length c) l.length (u8s l) ∧ Below w.heap.size w w'
theorem own_any (pr pm ar am : Int) (A : Option Addr) (l : List UInt8) (c : Nat) (w : World) (h : ReadsB w (.slice A l.length c) l) (hl : l.length ≤ 140737488351232) :
    Calls Try.prog 17 #[.agg #[.int .i64 pr, .int .i64 pm, .int .i64 ar, .int .i64 am, .slice A l.length c]] w (OwnPost pr pm ar am l w) := by
  have HC := Lib.hid (fun (w' : World) (hb : Below w.heap.size w w') => clone_any (.slice A l.length c) l w' (h.below hb) hl)
  clear h hl
  go_enter Try.func17, Try.ntmps17
  go_wp2_with (go_at_call 21; refine (HC.out _ ?_).mono ?_; (exact ((Below.refl _ _).alloc (Nat.le_refl _) _).alloc (by simp) _); rintro e w1 ⟨v, rfl, hown, hb, _⟩; obtain ⟨A', c', rfl⟩ := own_slice hown; obtain ⟨b1, b2⟩ := two_blocks hb; obtain ⟨k0, k1, k2, k3, k4, kf⟩ := cells5 b1; obtain ⟨z0, z1, z2, z3, z4, zf⟩ := cells5 b2; clear b1 b2; have HO := Lib.hid hown; have HB := Lib.hid hb; clear hown hb)
  refine bodyPost_ret (v := .agg #[.int .i64 pr, .int .i64 pm, .int .i64 ar, .int .i64 am, .slice A' l.length c']) (by simp [results, Try.results17, go_sem, *]) rfl ⟨A', c', rfl, ?_, ?_⟩
  · refine own_mono (base := ((w.alloc (Obj.cells #[Value.int .i64 pr, .int .i64 pm, .int .i64 ar, .int .i64 am, .slice A l.length c] 26)).alloc (Obj.cells #[Value.int .i64 0, .int .i64 0, .int .i64 0, .int .i64 0, .slice none 0 0] 26)).heap.size) ?_ (by simp; omega)
    repeat (refine own_low ?_ (by simp <;> omega) _ _)
    exact HO.out
  · have hbase : Below w.heap.size w w1 := (((Below.refl _ _).alloc (Nat.le_refl _) _).alloc (by simp) _).trans (HB.out.mono (by simp <;> omega))
    repeat (refine Below.setCell ?_ (by simp) _)
    exact hbase
end Go.Proofs.Ytaopfgoofhojeaa
