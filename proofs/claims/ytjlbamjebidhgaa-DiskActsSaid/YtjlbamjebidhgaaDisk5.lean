/- The walks of a disk's New, Flush, Rot. -/
import Derived.Test.YtjlbamjebidhgaaRepeat
import Derived.Laws.BitsAllLaws
namespace Go.Proofs.Ytjlbamjebidhgaa
open Go.RowKit Own

def madeB (n : Nat) : Obj := .cells (madeCells #[.int .u8 0] n) 5
theorem run_mkB (t : TypeId) (ht : Try.prog.underlying t = some (.slice 5)) (n : Nat) (hn : n ≤ 262144) (w : World) : (Instr.makeSlice t (.int .i64 n) (.int .i64 n)).run Try.prog w = .ok (.slice (some ⟨w.heap.size, 0, none⟩) n n) (w.alloc (madeB n)) := by
  obtain ⟨i0, hi, hz0, hz1, hz2⟩ := info_parts infoByte
  have := run_make (P := Try.prog) w t 5 i0 (.int .u8 0) ht hi hz0 .i64 .i64 n n (by omega) (Int.le_refl _) (by rw [hz2]; omega) (by omega)
  rw [this, hz1]
  simp [madeB, Value.cells]
def zeros (n : Nat) : List UInt8 := List.replicate n 0
theorem zeros_length (n : Nat) : (zeros n).length = n := by simp [zeros]
theorem owns_madeB (w : World) (n : Nat) (hn : n ≤ 262144) : (w.alloc (madeB n)).ownsRow w.heap.size 5 1 (.slice (some ⟨w.heap.size, 0, none⟩) n n) n (u8s (zeros n)) := by
  refine ⟨by simp [u8s, zeros], .inr ⟨w.heap.size, n, _, rfl, Nat.le_refl _, heap_alloc_new w _, Nat.le_refl _, by simp [maxLen]; omega, by rw [size_madeCells, Nat.mul_one], ?_⟩⟩
  rw [toList_madeCells_one]
  simp [u8s, zeros]

def NewPost (n : Nat) (w : World) (e : Ending) (w' : World) : Prop := ∃ db sv, e = .returned (.tuple #[.pointer (some ⟨db, 0, none⟩), .int .i64 0]) ∧ DiskAt w.heap.size db sv (.slice none 0 0) (zeros (n * 64)) [] w' ∧ Below w.heap.size w w'
theorem new_any (n : Nat) (w : World) (h1 : 1 ≤ n) (hn : n ≤ 4096) :
    Calls Try.prog 7 #[.int .i64 n] w (NewPost n w) := by
  have a1 : (1 : Int) ≤ n := by omega
  have a2 : (n : Int) ≤ 4096 := by omega
  have hmk := fun w => run_mkB 23 Try.underlying23 (n * 64) (by omega) w
  have hmk : ∀ w, (Instr.makeSlice 23 (.int .i64 ((n : Int) * 64)) (.int .i64 ((n : Int) * 64))).run Try.prog w = .ok (.slice (some ⟨w.heap.size, 0, none⟩) (n * 64) (n * 64)) (w.alloc (madeB (n * 64))) := fun w => by
    have := hmk w
    rwa [show ((n * 64 : Nat) : Int) = (n : Int) * 64 by omega] at this
  have H : Hid (NewPost n w (.returned (.tuple #[.pointer (some ⟨w.heap.size + 1, 0, none⟩), .int .i64 0])) ((w.alloc (madeB (n * 64))).alloc (.cells #[.slice (some ⟨w.heap.size, 0, none⟩) (n * 64) (n * 64), .slice none 0 0] 53))) := by
    refine ⟨_, .slice (some ⟨w.heap.size, 0, none⟩) (n * 64) (n * 64), rfl, ⟨Nat.le_succ _, ?_, ?_, World.ownsRow_nil _ _ _ _, fun p hp => by cases hp⟩, ((Below.refl _ _).alloc (Nat.le_refl _) _).alloc (by simp) _⟩
    · have := heap_alloc_new (w.alloc (madeB (n * 64))) (.cells #[.slice (some ⟨w.heap.size, 0, none⟩) (n * 64) (n * 64), .slice none 0 0] 53)
      simpa using this
    · rw [zeros_length]
      exact own_below (owns_madeB w (n * 64) (by omega)) ((Below.refl _ _).alloc (Nat.le_refl _) _)
  clear h1 hn
  go_enter Try.func7, Try.ntmps7
  go_wp2_with fail
  go_ret2
  exact H.out
theorem new_out (n : Int) (w : World) (h : n < 1 ∨ 4096 < n) :
    Calls Try.prog 7 #[.int .i64 n] w fun e w' => e = .returned (.tuple #[.pointer none, .int .i64 1]) ∧ w = w' := by
  rcases h with h | h
  · go_enter Try.func7, Try.ntmps7
    go_wp2_with fail
    go_ret2
    exact ⟨rfl, rfl⟩
  · have h1 : ¬ n < 1 := by omega
    go_enter Try.func7, Try.ntmps7
    go_wp2_with fail
    go_ret2
    exact ⟨rfl, rfl⟩

def FlushPost (B db : Nat) (sv : Value) (S : List UInt8) (P : List Wr) (w : World) (e : Ending) (w' : World) : Prop :=
  e = .returned (.tuple #[]) ∧ DiskAt B db sv (.slice none 0 0) (crashD S P (List.replicate P.length true)) [] w' ∧ Chg (db :: sv.ownBlock.toList) w w'
theorem flush_any (B db n : Nat) (sv pv : Value) (S : List UInt8) (P : List Wr) (w : World) (hf : DiskAt B db sv pv S P w) (hS : S.length = n * 64) (hn : n ≤ 4096) (hn0 : 0 < n) (hP : P.length ≤ 16384) :
    Calls Try.prog 10 #[.pointer (some ⟨db, 0, none⟩)] w (FlushPost B db sv S P w) := by
  obtain ⟨pA, pc, rfl⟩ := own_slice hf.pend
  have hdb : db < w.heap.size := (Array.getElem?_eq_some_iff.1 hf.st).1
  obtain ⟨O, hO⟩ : ∃ O, O = Obj.cells #[Value.bool true] 4 := ⟨_, rfl⟩
  have hb0 : Below w.heap.size w (w.alloc O) := (Below.refl _ _).alloc (Nat.le_refl _) _
  have hc1 : (w.alloc O).cell? ⟨db, 1, none⟩ = some (.slice pA P.length pc) := by rw [cell_of_row _ db 1 _ _ _ ((hb0.block db hdb).trans hf.st)]; rfl
  have hcb : (w.alloc O).cell? ⟨w.heap.size, 0, none⟩ = some (.bool true) := by rw [hO, cell_of_row _ _ 0 _ _ (0, 0) (heap_alloc_new w _)]; rfl
  have HR := Lib.hid (repeat_any w.heap.size P.length (w.alloc O) hcb hP)
  have HC : Hid (∀ v w1, w1.ownsRow (w.alloc O).heap.size 4 1 v P.length (boolV (List.replicate P.length true)) → Below (w.alloc O).heap.size (w.alloc O) w1 → Calls Try.prog 11 #[.pointer (some ⟨db, 0, none⟩), v] w1 (FlushPost B db sv S P w)) := fun v w1 hv hb1 => by
    have hbw : Below w.heap.size w w1 := hb0.trans (hb1.mono hb0.size)
    refine (crash_any B db n sv (.slice pA P.length pc) S P v (List.replicate P.length true) w1 (hf.below hbw) hS hn hn0 hP (reads_bool_own hv (by simp)) ?_).mono ?_
    · intro a n' c ha _ hx
      have h1 := (hv.lt a.block (by rw [ha]; rcases hv.2 with ⟨h0, _⟩ | ⟨g, cap, cur, h0, _⟩ <;> (rw [ha] at h0; cases h0); rfl)).1
      have h2 : (w.alloc O).heap.size = w.heap.size + 1 := by simp
      rcases List.mem_cons.1 hx with hx | hx
      · omega
      · have := (hf.safe.lt a.block (by simpa using hx)).2
        omega
    · rintro e w' ⟨rfl, hd, hc⟩
      exact ⟨rfl, hd, (Chg.of_below hbw).trans hc fun x hx _ => hx⟩
  rw [hO] at HR HC hc1
  clear hf hS hn hn0 hP hO hb0 hcb
  go_enter Try.func10, Try.ntmps10
  go_wp2_with (first
    | (go_at_call 23; refine HR.out.mono ?_; rintro e w1 ⟨v, rfl, hv, hb1⟩)
    | (go_at_call 11; refine (HC.out v w1 hv hb1).mono ?_; rintro e w2 ⟨rfl, hd2, hc2⟩))
  go_end0
  exact ⟨rfl, hd2, hc2⟩

theorem rot_out (db : Nat) (A : Option Addr) (n c : Nat) (pv : Value) (at_ : Int) (x : UInt8) (w : World) (hst : w.heap[db]? = some (.cells #[.slice A n c, pv] 53 (0, 0))) (h : at_ < 0 ∨ (n : Int) ≤ at_) :
    Calls Try.prog 20 #[.pointer (some ⟨db, 0, none⟩), .int .i64 at_, .int .u8 (x.toNat : Int)] w (ErrSame 1 w) := by
  have hc0 : w.cell? ⟨db, 0, none⟩ = some (.slice A n c) := by rw [cell_of_row w db 0 _ _ _ hst]; rfl
  clear hst
  by_cases h0 : at_ < 0
  · clear h
    go_enter Try.func20, Try.ntmps20
    go_wp2_with fail
    go_ret
    exact ⟨rfl, rfl⟩
  · have h1 : (n : Int) ≤ at_ := by omega
    clear h
    go_enter Try.func20, Try.ntmps20
    go_wp2_with fail
    go_ret
    exact ⟨rfl, rfl⟩
def RotPost (B db : Nat) (sv pv : Value) (S : List UInt8) (P : List Wr) (k : Nat) (x : UInt8) (w : World) (e : Ending) (w' : World) : Prop :=
  e = .returned (.int .i64 0) ∧ DiskAt B db sv pv (S.set k (S.getD k 0 ^^^ x)) P w' ∧ Chg sv.ownBlock.toList w w'
theorem rot_in (B db k : Nat) (sv pv : Value) (S : List UInt8) (P : List Wr) (x : UInt8) (w : World) (hf : DiskAt B db sv pv S P w) (hk : k < S.length) (hS : S.length ≤ 262144) :
    Calls Try.prog 20 #[.pointer (some ⟨db, 0, none⟩), .int .i64 k, .int .u8 (x.toNat : Int)] w (RotPost B db sv pv S P k x w) := by
  obtain ⟨g, cap, rfl, hg, hlt, hcap, hcell, hfz, hcur⟩ := own_reads hf.safe (by omega)
  have hc0 : w.cell? ⟨db, 0, none⟩ = some (.slice (some ⟨g, 0, none⟩) S.length cap) := by rw [cell_of_row w db 0 _ _ _ hf.st]; rfl
  have hcg : w.cell? ⟨g, k, none⟩ = some (.int .u8 ((S.getD k 0).toNat : Int)) := by
    rw [hcell k hk]
    simp [u8s, List.getD_eq_getElem?_getD, List.getElem?_eq_getElem hk]
  have hfg := hfz k
  have q0 : (0 : Int) ≤ (k : Int) := by omega
  have q1 : (k : Int) < (S.length : Int) := by omega
  have hx : bits .xor .u8 ((S.getD k 0).toNat : Int) (x.toNat : Int) = ((S.getD k 0 ^^^ x).toNat : Int) := by
    rw [u8_xor_nat _ _ (UInt8.toNat_lt _) (UInt8.toNat_lt _), UInt8.toNat_xor]
  have hcap' : (S.length : Int) ≤ 262144 := by omega
  have hne : db ≠ g := by rintro rfl; obtain ⟨cur, hc⟩ := hcur; rw [hf.st] at hc; cases hc
  have HP : Hid (RotPost B db (.slice (some ⟨g, 0, none⟩) S.length cap) pv S P k x w (.returned (.int .i64 0)) (w.setCell ⟨g, k, none⟩ (.int .u8 ((S.getD k 0 ^^^ x).toNat : Int)))) := by
    have hu : u8s (S.set k (S.getD k 0 ^^^ x)) = (u8s S).set k (.int .u8 ((S.getD k 0 ^^^ x).toNat : Int)) := by simp [u8s, List.map_set]
    refine ⟨rfl, ⟨hf.hB, ?_, ?_, ?_, fun p hp => ⟨?_, (hf.bytes p hp).2.1, (hf.bytes p hp).2.2.1, by rw [List.length_set]; exact (hf.bytes p hp).2.2.2⟩⟩, Chg.setCell _ (by simp [Value.ownBlock])⟩
    · rw [Below.heap_setCell _ _ _ _ hne]; exact hf.st
    · rw [hu, List.length_set]
      exact own_set hf.safe _
    · refine own_same hf.pend fun g' hg' => Below.heap_setCell _ _ _ _ ?_
      rintro rfl
      obtain ⟨cur', hc'⟩ := own_type hf.pend hg'
      obtain ⟨cur, hc⟩ := hcur
      rw [hc'] at hc; cases hc
    · refine own_same (hf.bytes p hp).1 fun g' hg' => Below.heap_setCell _ _ _ _ ?_
      rintro rfl
      exact (hf.bytes p hp).2.2.1 g' hg' rfl
  generalize (S.getD k 0 ^^^ x) = y at *
  generalize (S.getD k 0) = z at *
  clear hf hcell hfz hcur hS
  go_enter Try.func20, Try.ntmps20
  go_wp2_with fail
  go_ret
  exact HP.out
end Go.Proofs.Ytjlbamjebidhgaa
