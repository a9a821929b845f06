/- Ballot's Chosen: what counts, and what is found. -/
import Derived.Test.YtaopfgoofhojeaaPick
import Derived.Test.YtaopfgoofhojeaaMap2
import Derived.StringKeys
import Derived.DeepKeys4
namespace Go.Proofs.Ytaopfgoofhojeaa
open Go.RowKit Own
open Go.Maps (Keyed)

theorem laidOut : laidOutB Try.prog = true := by kernel_rfl
theorem rowBal : (23 : TypeId) < Try.prog.types.size := of_decide_eq_true (by kernel_rfl)
theorem wideBal : (match Try.prog.underlying 23 with | some (.array _ _) | some (.struct _) => true | _ => false) = true := by kernel_rfl
theorem keyedBal : Keyed Try.prog 23 := Keyed.of_law (deep_law_laid laidOut (m := 2) (by omega) rowBal (by kernel_rfl) wideBal)
theorem balV_inj {a b : Bal} (h : a.v = b.v) : a = b := by
  obtain ⟨r, m⟩ := a
  obtain ⟨r2, m2⟩ := b
  simp [Bal.v] at h
  rw [h.1, h.2]
theorem keyBal {a b : Int} (ha : (Lit.int .i64 a).wf = true) (hb : (Lit.int .i64 b).wf = true) : ∃ kl, keyOf Try.prog 23 (.agg #[.int .i64 a, .int .i64 b]) = some kl := by
  have h1 : Try.prog.keyType 23 = true := by kernel_rfl
  have h2 : Try.prog.cellsOf 23 = 2 := by kernel_rfl
  have h3 : Try.prog.cellsOf 3 = 1 := by kernel_rfl
  obtain ⟨n, hn⟩ : ∃ n, Try.prog.types.size = n + 1 := ⟨Try.prog.types.size - 1, (Nat.succ_pred_eq_of_pos (Nat.lt_of_le_of_lt (Nat.zero_le _) rowBal)).symm⟩
  simp only [keyOf, Try.underlying23, h1, Value.formed, h2, Value.cells, hn]
  have e : Try.prog.keyLits (n + 1 + 1) 23 [.int .i64 a, .int .i64 b] = some [.int .i64 a, .int .i64 b] := by
    simp [Program.keyLits, Try.underlying23, Try.underlying3, h2, h3, ha, hb]
  simp [e]
theorem zero_int (w : World) : (zeroValue 3).run Try.prog w = .ok (.int .i64 0) w := by kernel_rfl

theorem eq_bal (x y a b : Int) (w : World) : (Op.equalIn 10000 23 (.agg #[.int .i64 x, .int .i64 y]) (.agg #[.int .i64 a, .int .i64 b])).run Try.prog w = .ok (x == a && y == b) w := by
  simp [go_sem]
  by_cases h1 : x = a <;> by_cases h2 : y = b <;> simp [h1, h2]
def accB (r m : Int) (x : Acc) : Bool := x.a.r == r && x.a.m == m
theorem clo_any (eb : Nat) (r m : Int) (x : Acc) (dA : Option Addr) (dn dc : Nat) (w : World) (h0 : w.cell? ⟨eb, 0, none⟩ = some (.int .i64 r)) (h1 : w.cell? ⟨eb, 1, none⟩ = some (.int .i64 m)) :
    Calls Try.prog 24 #[.agg #[.int .i64 x.p.r, .int .i64 x.p.m, .int .i64 x.a.r, .int .i64 x.a.m, .slice dA dn dc], .pointer (some ⟨eb, 0, none⟩)] w fun e w' => e = .returned (.bool (accB r m x)) ∧ Below w.heap.size w w' := by
  obtain ⟨⟨pr, pm⟩, ⟨ar, am⟩, l⟩ := x
  simp only [accB]
  have k0 := fun o => (((Below.refl w.heap.size w).alloc (Nat.le_refl _) o).cell (World.block_lt_of_cell? w _ h0)).trans h0
  have k1 := fun o => (((Below.refl w.heap.size w).alloc (Nat.le_refl _) o).cell (World.block_lt_of_cell? w _ h1)).trans h1
  have HB : Hid (∀ o, Below w.heap.size w (w.alloc o)) := fun o => (Below.refl _ _).alloc (Nat.le_refl _) o
  have hE := fun W => eq_bal ar am r m W
  generalize (ar == r && am == m) = E at *
  clear h0 h1
  go_enter Try.func24, Try.ntmps24
  go_wp2_with fail
  go_ret
  exact ⟨by simp, HB.out _⟩

/-- where the first such event is; -1: nowhere -/
def accI (r m : Int) (xs : List Acc) : Int := if xs.findIdx (accB r m) < xs.length then (xs.findIdx (accB r m) : Int) else -1
set_option maxHeartbeats 1000000 in
theorem idx_any (eb : Nat) (r m : Int) (v : Value) (xs : List Acc) (w : World) (hv : ReadsAccs w v xs) (h0 : w.cell? ⟨eb, 0, none⟩ = some (.int .i64 r)) (h1 : w.cell? ⟨eb, 1, none⟩ = some (.int .i64 m)) (hn : xs.length ≤ 140737488351232) :
    Calls Try.prog 23 #[v, .func (.func 24) #[] #[.pointer (some ⟨eb, 0, none⟩)]] w fun e w' => e = .returned (.int .i64 (accI r m xs)) ∧ Below w.heap.size w w' := by
  obtain ⟨Av, cv, rfl⟩ := hv.slice
  have HV := Lib.hid hv
  have HK : Hid (∀ w', Below w.heap.size w w' → w'.cell? ⟨eb, 0, none⟩ = some (.int .i64 r) ∧ w'.cell? ⟨eb, 1, none⟩ = some (.int .i64 m)) := fun w' hb => ⟨(hb.cell (World.block_lt_of_cell? w _ h0)).trans h0, (hb.cell (World.block_lt_of_cell? w _ h1)).trans h1⟩
  have hM' : (xs.length : Int) ≤ 140737488351232 := by omega
  clear hv h0 h1 hn
  go_enter Try.func23, Try.ntmps23
  go_wp2_with fail
  go_loopw [8] (fun i wr => ∃ j : Nat, i = .int .i64 j ∧ j ≤ xs.length ∧ Hid (Below w.heap.size w wr ∧ ∀ k (hk : k < xs.length), k < j → accB r m (xs[k]'hk) = false)) (fun i _ => xs.length - (intOf i).toNat)
  case atStart => exact ⟨0, rfl, Nat.zero_le _, Below.refl _ _, fun k _ h => absurd h (Nat.not_lt_zero _)⟩
  case round =>
    obtain ⟨j, rfl, hjk, HJ⟩ := hrel
    obtain ⟨wL, rfl⟩ : ∃ wo : World, wo = wr := ⟨_, rfl⟩
    by_cases hj : j < xs.length
    · have hj' : (j : Int) < (xs.length : Int) := by omega
      have hj0 : (0 : Int) ≤ (j : Int) := by omega
      obtain ⟨bb, off, cc, hvv, hact⟩ := ReadsAccs.at_ (HV.out.below HJ.out.1) hj
      cases hvv
      obtain ⟨dA, dc, e0, e1, e2, e3, e4, _⟩ := hact
      obtain ⟨q0, q1⟩ := HK.out wL HJ.out.1
      have HC := Lib.hid (clo_any eb r m (xs[j]'hj) dA (xs[j]'hj).l.length dc wL q0 q1)
      clear q0 q1
      obtain ⟨x, hx⟩ : ∃ x, xs[j]'hj = x := ⟨_, rfl⟩
      rw [hx] at e0 e1 e2 e3 e4 HC
      have HG := Lib.hid hx
      clear hx
      cases hq : accB r m x with
      | true =>
        rw [hq] at HC
        have HQ := Lib.hid hq
        clear hq
        go_wp2_with (go_at_call 24; refine HC.out.mono ?_; rintro e w2 ⟨rfl, hb2⟩)
        go_ret
        have hidx : xs.findIdx (accB r m) = j := by
          rw [List.findIdx_eq hj]
          refine ⟨by rw [HG.out]; exact HQ.out, fun k hk => ?_⟩
          have := HJ.out.2 k (by omega) hk
          simpa using this
        refine ⟨?_, HJ.out.1.trans (hb2.mono HJ.out.1.size)⟩
        unfold accI
        rw [hidx, if_pos hj]
        rfl
      | false =>
        rw [hq] at HC
        have HQ := Lib.hid hq
        clear hq
        go_wp2_with (go_at_call 24; refine HC.out.mono ?_; rintro e w2 ⟨rfl, hb2⟩)
        go_roundw
        case rel =>
          refine ⟨j + 1, by go_num, by omega, HJ.out.1.trans (hb2.mono HJ.out.1.size), fun k hk hlt => ?_⟩
          by_cases hkj : k = j
          · subst hkj; rw [HG.out]; exact HQ.out
          · exact HJ.out.2 k hk (by omega)
        case measure => simp [intOf]; omega
    · go_wp2_with fail
      go_ret
      have hidx : ¬ xs.findIdx (accB r m) < xs.length := by
        intro hlt
        have h1 := List.findIdx_getElem (w := hlt)
        rw [HJ.out.2 _ hlt (by omega)] at h1
        cases h1
      refine ⟨?_, HJ.out.1⟩
      unfold accI
      rw [if_neg hidx]
      rfl
end Go.Proofs.Ytaopfgoofhojeaa
