/- A disk in memory, and the walks of its methods that read. -/
import Derived.Test.YtjlbamjebidhgaaClone
import Derived.Test.YtjlbamjebidhgaaChg
import Derived.Deep.QuietTactic
import Derived.BigQuiet
import Derived.Deep.RegionHeld3
import Derived.Deep.RegionLaw
namespace Go.Proofs.Ytjlbamjebidhgaa
open Go.RowKit Own

/-- a write that is not safe: where, what, and the value that holds it -/
structure Wr where
  at_ : Nat
  b : List UInt8
  v : Value
def cellsW (P : List Wr) : List Value := P.flatMap fun p => [.int .i64 p.at_, p.v]
theorem cellsW_length (P : List Wr) : (cellsW P).length = P.length * 2 := by
  induction P with
  | nil => rfl
  | cons p L ih => simp only [cellsW, List.flatMap_cons, List.length_append] at *; rw [ih]; simp; omega
theorem infoW : (Try.prog.info? 59).map (fun i => (i.zero, i.size, i.bytes)) = some (some (.agg #[.int .i64 0, .slice none 0 0]), 2, 32) := by kernel_rfl
structure DiskAt (B db : Nat) (sv pv : Value) (S : List UInt8) (P : List Wr) (w : World) : Prop where
  hB : B ≤ db
  st : w.heap[db]? = some (.cells #[sv, pv] 53 (0, 0))
  safe : w.ownsRow B 5 1 sv S.length (u8s S)
  pend : w.ownsRow B 59 2 pv P.length (cellsW P)
  bytes : ∀ p ∈ P, w.ownsRow B 5 1 p.v p.b.length (u8s p.b) ∧ p.b.length = 64 ∧ (∀ g, p.v.ownBlock = some g → sv.ownBlock ≠ some g) ∧ p.at_ * 64 + 64 ≤ S.length
theorem DiskAt.below {B db : Nat} {sv pv : Value} {S : List UInt8} {P : List Wr} {w w' : World} (h : DiskAt B db sv pv S P w) (hb : Below w.heap.size w w') : DiskAt B db sv pv S P w' :=
  ⟨h.hB, (hb.block db (Array.getElem?_eq_some_iff.1 h.st).1).trans h.st, own_below h.safe hb, own_below h.pend hb, fun p hp => ⟨own_below (h.bytes p hp).1 hb, (h.bytes p hp).2⟩⟩

theorem size_any (db : Nat) (A : Option Addr) (n c : Nat) (pv : Value) (w : World) (hst : w.heap[db]? = some (.cells #[.slice A (n * 64) c, pv] 53 (0, 0))) (hn : n ≤ 4096) :
    Calls Try.prog 19 #[.pointer (some ⟨db, 0, none⟩)] w fun e w' => e = .returned (.int .i64 n) ∧ w = w' := by
  have hc0 : w.cell? ⟨db, 0, none⟩ = some (.slice A (n * 64) c) := by rw [cell_of_row w db 0 _ _ _ hst]; rfl
  have hq : ((n : Int) * 64).tdiv 64 = n := Int.mul_tdiv_cancel _ (by decide)
  clear hst
  go_enter Try.func19, Try.ntmps19
  go_wp2_with fail
  go_ret
  exact ⟨rfl, rfl⟩

theorem pending_any (db : Nat) (A : Option Addr) (n c : Nat) (sv : Value) (w : World) (hst : w.heap[db]? = some (.cells #[sv, .slice A n c] 53 (0, 0))) :
    Calls Try.prog 16 #[.pointer (some ⟨db, 0, none⟩)] w fun e w' => e = .returned (.int .i64 n) ∧ w = w' := by
  have hc1 : w.cell? ⟨db, 1, none⟩ = some (.slice A n c) := by rw [cell_of_row w db 1 _ _ _ hst]; rfl
  clear hst
  go_enter Try.func16, Try.ntmps16
  go_wp2_with fail
  go_ret
  exact ⟨rfl, rfl⟩
/-- is there such a sector? -/
def inB (n : Nat) (at_ : Int) : Bool := decide (0 ≤ at_) && decide (at_ < (n : Int))
theorem has_any (db : Nat) (A : Option Addr) (n c : Nat) (pv : Value) (at_ : Int) (w : World) (hst : w.heap[db]? = some (.cells #[.slice A (n * 64) c, pv] 53 (0, 0))) (hn : n ≤ 4096) :
    Calls Try.prog 21 #[.pointer (some ⟨db, 0, none⟩), .int .i64 at_] w fun e w' => e = .returned (.bool (inB n at_)) ∧ w = w' := by
  have HS := Lib.hid (size_any db A n c pv w hst hn)
  clear hst
  by_cases h0 : 0 ≤ at_
  · have e0 : decide (0 ≤ at_) = true := decide_eq_true h0
    obtain ⟨b, hb⟩ : ∃ b, b = decide (at_ < (n : Int)) := ⟨_, rfl⟩
    have HV : Hid (inB n at_ = b) := by show _ = _; unfold inB; rw [e0, ← hb]; rfl
    have hb' := hb.symm
    clear hb h0
    go_enter Try.func21, Try.ntmps21
    go_wp2_with (go_at_call 19; refine HS.out.mono ?_; rintro e w' ⟨rfl, rfl⟩)
    go_ret
    exact ⟨by rw [HV.out]; rfl, rfl⟩
  · have e0 : decide (0 ≤ at_) = false := decide_eq_false h0
    have HV : Hid (inB n at_ = false) := by show _ = _; unfold inB; rw [e0]; rfl
    clear h0
    go_enter Try.func21, Try.ntmps21
    go_wp2_with fail
    go_ret
    exact ⟨by rw [HV.out]; rfl, rfl⟩
theorem sector_any (db g n k c : Nat) (pv : Value) (w : World) (hst : w.heap[db]? = some (.cells #[.slice (some ⟨g, 0, none⟩) (n * 64) c, pv] 53 (0, 0))) (hk : k < n) (hc : n * 64 ≤ c) (hcm : c ≤ 9223372036854775807) :
    Calls Try.prog 24 #[.pointer (some ⟨db, 0, none⟩), .int .i64 k] w fun e w' => (∃ c', e = .returned (.slice (some ⟨g, k * 64, none⟩) 64 c')) ∧ w = w' := by
  have hc0 : w.cell? ⟨db, 0, none⟩ = some (.slice (some ⟨g, 0, none⟩) (n * 64) c) := by rw [cell_of_row w db 0 _ _ _ hst]; rfl
  have p0 : (0 : Int) ≤ (k : Int) * 64 := by omega
  have p1 : (k : Int) * 64 ≤ ((k : Int) + 1) * 64 := by omega
  have p2 : ((k : Int) + 1) * 64 ≤ (c : Int) := by omega
  have p3 : ((k : Int) * 64).toNat = k * 64 := by omega
  have p4 : (((k : Int) + 1) * 64).toNat = (k + 1) * 64 := by omega
  have p5 : (k : Int) * 64 ≤ (c : Int) := by omega
  clear hst
  go_enter Try.func24, Try.ntmps24
  go_wp2_with fail
  go_ret
  exact ⟨⟨c - k * 64, by show Ending.returned (.slice (some ⟨g, k * 64, none⟩) ((k + 1) * 64 - k * 64) (c - k * 64)) = _; rw [show (k + 1) * 64 - k * 64 = 64 by omega]⟩, rfl⟩

theorem dump_any (B db : Nat) (sv pv : Value) (S : List UInt8) (P : List Wr) (w : World) (h : DiskAt B db sv pv S P w) (hS : S.length ≤ 262144) :
    Calls Try.prog 13 #[.pointer (some ⟨db, 0, none⟩)] w fun e w' => ∃ v, e = .returned v ∧ w'.ownsRow w.heap.size 5 1 v S.length (u8s S) ∧ Below w.heap.size w w' := by
  have hc0 : w.cell? ⟨db, 0, none⟩ = some sv := by rw [cell_of_row w db 0 _ _ _ h.st]; rfl
  have HC := Lib.hid (clone_any sv S w (ReadsB.own h.safe) (by omega))
  clear h
  go_enter Try.func13, Try.ntmps13
  go_wp2_with (go_at_call 22; refine HC.out.mono ?_; rintro e w' ⟨v, rfl, hown, hb, _⟩)
  go_ret
  exact ⟨v, rfl, hown, hb⟩

def ErrSame (k : Int) (w : World) (e : Ending) (w' : World) : Prop := w = w' ∧ e = .returned (.int .i64 k)
theorem write_out (B db n : Nat) (sv pv : Value) (S : List UInt8) (P : List Wr) (at_ : Int) (v : Value) (l : List UInt8) (w : World) (h : DiskAt B db sv pv S P w) (hS : S.length = n * 64) (hn : n ≤ 4096) (hv : ReadsB w v l) (hbad : inB n at_ = false ∨ l.length ≠ 64) :
    Calls Try.prog 8 #[.pointer (some ⟨db, 0, none⟩), .int .i64 at_, v] w (ErrSame 1 w) := by
  obtain ⟨Av, cv, rfl⟩ := hv.slice
  obtain ⟨A, c, rfl⟩ := own_slice h.safe
  have hst := h.st
  rw [hS] at hst
  have HH := Lib.hid (has_any db A n c pv at_ w hst hn)
  clear h hv hst
  cases hi : inB n at_ with
  | false =>
    rw [hi] at HH
    clear hbad hi
    go_enter Try.func8, Try.ntmps8
    go_wp2_with (go_at_call 21; refine HH.out.mono ?_; rintro e w' ⟨rfl, rfl⟩)
    go_ret
    exact ⟨rfl, rfl⟩
  | true =>
    have hl : ((l.length : Int) != 64) = true := bne_iff_ne.2 (by rcases hbad with h | h; (rw [hi] at h; cases h); omega)
    rw [hi] at HH
    clear hbad hi
    go_enter Try.func8, Try.ntmps8
    go_wp2_with (go_at_call 21; refine HH.out.mono ?_; rintro e w' ⟨rfl, rfl⟩)
    go_ret
    exact ⟨rfl, rfl⟩
end Go.Proofs.Ytjlbamjebidhgaa
