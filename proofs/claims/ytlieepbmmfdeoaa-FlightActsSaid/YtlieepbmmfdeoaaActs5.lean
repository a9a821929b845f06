/- The walk of the law's 'does': part. -/
import Derived.Test.YtlieepbmmfdeoaaActs4
namespace Go.Proofs.Ytlieepbmmfdeoaa
open Go.RowKit Own

attribute [local go_sem ↓] hide_append
set_option maxHeartbeats 4000000 in
set_option maxRecDepth 100000 in
theorem does_part (w0 : World) (fb mb rb m : Nat) (a b : Int) (Av : Option Addr) (nv cv : Nat) (w : World) (h : JS w0 fb mb rb m w) (hm : m ≤ 600) (ha : (Lit.int .i64 a).wf = true) (hb : (Lit.int .i64 b).wf = true) :
    Calls Try.prog 15 #[.pointer (some ⟨fb, 0, none⟩), .pointer (some ⟨rb, 0, none⟩), .agg #[.int .i64 4, .int .i64 a, .int .i64 b, .slice Av nv cv]] w (DoesPost w0 fb mb rb (m + 1)) := by
  obtain ⟨n, f, L, ML, PP, hJ, hL, hP, hl1, hl2⟩ := jb_start h 4 a b (.slice Av nv cv)
  obtain ⟨Am, cm, hm0⟩ := hJ.m0
  have k0 := hJ.c0
  have k1 := hJ.c1
  have hml : (ML.length : Int) ≤ 600 := by omega
  have hpl : (PP.length : Int) ≤ 600 := by omega
  have hcase : decide (0 ≤ a) = false ∨ (decide (0 ≤ a) = true ∧ decide (a < (ML.length : Int)) = true) ∨ (decide (0 ≤ a) = true ∧ decide (a < (ML.length : Int)) = false) := by
    simp only [decide_eq_true_eq, decide_eq_false_iff_not]; omega
  have HJ := Lib.hid (fun nq => hJ.go (bel_drewN _ nq))
  have HPa := Lib.hid (fun nq => jb_part (hJ.go (bel_drewN _ nq)) hP a b ha hb)
  have HPu : Hid (∀ n' f' W, JB w0 fb mb n' f' L rb ML PP w.heap.size 4 a b (.slice Av nv cv) W → _) := fun n' f' W hj => jb_pushP hj a b (by omega)
  have HPd : Hid (∀ n' f' W, JB w0 fb mb n' f' L rb ML (PP ++ [(a, b)]) w.heap.size 4 a b (.slice Av nv cv) W → PKeys f' (PP ++ [(a, b)]) → Calls Try.prog 17 #[.pointer (some ⟨fb, 0, none⟩), .int .i64 a, .int .i64 b] W fun e w' => e = .returned (.bool (a != b)) ∧ JB w0 fb mb n' f' L rb ML (PP ++ [(a, b)]) w.heap.size 4 a b (.slice Av nv cv) w') := fun n' f' W hj hk => by
    have := jb_parted hj a b ha hb hk
    rwa [partedM_snoc] at this
  have HF : Hid (L.map (·.1) = ML ∧ ML.length ≤ m + 1 ∧ PP.length + 1 ≤ m + 1) := ⟨hL, by omega, by omega⟩
  have hq : ((a != b) == (a != b)) = true := by simp
  clear h hJ hL hP hl1 hl2 hm ha hb
  rcases hcase with c1 | ⟨c1, c2⟩ | ⟨c1, c2⟩
  all_goals
    go_enter Try.func15, Try.ntmps15
    go_wp2_with fail
    go_quiet (fail)
    have hJW := HJ.out nq
    have HPaW := Lib.hid (HPa.out nq)
    clear HJ hm0 k0 k1 HPa
    generalize (w.alloc (Obj.cells #[Value.int IntKind.i64 4, Value.int IntKind.i64 a, Value.int IntKind.i64 b, Value.slice Av nv cv] 28)).drewN nq = W at *
    have k0 := hJW.c0
    have k1 := hJW.c1
    have k2 := hJW.c2
    clear hJW
    go_wp2_with (go_at_call 19; refine HPaW.out.mono ?_; rintro e w3 ⟨rfl, n', f', hj3, hpk⟩; have q1 := hj3.c1; have q2 := hj3.c2; obtain ⟨A, c, A', c', w2, q0, hr, q3, q4, hn⟩ := HPu.out _ _ _ hj3; have qA := fun o => (((Below.refl w3.heap.size w3).alloc (Nat.le_refl _) o).cell (World.block_lt_of_cell? w3 _ q0)).trans q0; have HN := Lib.hid hn; have HPK := Lib.hid hpk; clear hj3 hpk)
    clear HPaW k0 k1 k2
    have j1 := hn.c1
    have j2 := hn.c2
    clear hn
    go_region
    all_goals
      have HPd2 := Lib.hid (HPd.out _ _ _ HN.out.drew HPK.out)
      go_wp2_with fail
      go_region_held3 (fun w' => w'.cell? ⟨w.heap.size, 1, none⟩ = some (.int .i64 a) ∧ w'.cell? ⟨w.heap.size, 2, none⟩ = some (.int .i64 b)) (go_keep)
        (first
          | (go_at_call 17; (with_reducible refine HPd2.out.mono ?_); rintro e w4 ⟨rfl, hj4⟩; have f1 := hj4.c1; have f2 := hj4.c2; have HJ4 := Lib.hid hj4; clear hj4))
      all_goals
        go_wp2_with fail
        go_ret
        exact ⟨rfl, HJ4.out.js HF.out.1 HPK.out HF.out.2.1 (by have := HF.out.2.2; simpa using this)⟩
end Go.Proofs.Ytlieepbmmfdeoaa
