/- The reference's Do: it reads. -/
import Derived.Test.YtbbbdhpihcbmmaaPRDo2
namespace Go.Proofs.Ytbbbdhpihcbmmaa
open Go.RowKit Own

attribute [local go_sem ↓] hide_append
set_option maxHeartbeats 8000000 in
theorem rdo_read (k : Int) (s : ByteArray) (a : Int) (d : List UInt8) (n : Int) (dv bv : Value) (b : List UInt8) (w : World) (hd : ReadsB w dv d) (hb : ReadsB w bv b) (hbl : b.length ≤ 4096) (hs : s.size ≤ 1048576) (hm : MayC ⟨k, s, a, d, n⟩) (hk1 : (k == 1) = false) (hk2 : (k == 2) = false) (hk3 : (k == 3) = false) (hk4 : (k == 4) = false) (hk5 : (k == 5) = true) (q p : Nat) (hq : a = q) (hp : n = p) :
    Calls Try.prog 11 #[.agg #[.int .i64 k, .string s, .int .i64 a, dv, .int .i64 n], .agg #[.bool true, bv]] w (RDoPost ⟨0, 0, (b.drop q).take p, true, b⟩ w) := by
  have HMy : Hid (∀ W, RF w ⟨k, s, a, d, n⟩ dv true bv w.heap.size (w.heap.size + 1) (w.heap.size + 1 + 1) (w.heap.size + 1 + 1 + 1) W → Calls Try.prog 10 #[.agg #[.int .i64 k, .string s, .int .i64 a, dv, .int .i64 n]] W fun e w' => e = .returned (.bool true) ∧ RF w ⟨k, s, a, d, n⟩ dv true bv w.heap.size (w.heap.size + 1) (w.heap.size + 1 + 1) (w.heap.size + 1 + 1 + 1) w') := fun W h => by
    have := rf_may h hd hs
    rwa [show mayB ⟨k, s, a, d, n⟩ = true from decide_eq_true hm] at this
  have HS := Lib.hid (rf_start ⟨k, s, a, d, n⟩ dv true bv w)
  simp only [] at HS
  subst hq
  subst hp
  have HBv := Lib.hid hb
  have HQ := Lib.hid hbl
  obtain ⟨Ad, cd, rfl⟩ := hd.slice
  obtain ⟨Ab, cb, rfl⟩ := hb.slice
  clear hd hb hbl hs hm
  go_enter Try.func11, Try.ntmps11
  go_wp2_with (first
    | (go_at_call 10; refine (HMy.out _ HS.out).mono ?_; rintro e w2 ⟨rfl, hrf⟩; obtain ⟨c0, c1, c2, c3, c4, o0, o1, r0, r1, r2, p0, p1, z0, z1, z2, y0, y1⟩ := hrf.facts; have HD := Lib.hid hrf; have al2 := fun o => (hrf.go ((Below.refl _ _).alloc (Nat.le_refl _) o)).facts.2.2.1; clear hrf))
  go_loopw [12] (fun i wr => ∃ (m : Nat) (x : Value), i = .int .i64 ((q : Int) + (m : Int)) ∧ Hid (m ≤ p ∧ (m = 0 ∨ q + m ≤ b.length) ∧ wr.heap[w2.heap.size]? = some (.cells #[.int .i64 0, .int .i64 0, x] 26 (0, 0)) ∧ wr.ownsRow (w2.heap.size + 1) 5 1 x m (u8s ((b.drop q).take m)) ∧ Below w2.heap.size w2 wr)) (fun i _ => b.length - (intOf i).toNat)
  case atStart => exact ⟨0, .slice none 0 0, by simp, Nat.zero_le _, .inl rfl, heap_alloc_new w2 _, World.ownsRow_nil _ _ _ _, (Below.refl _ _).alloc (Nat.le_refl _) _⟩
  case round =>
    obtain ⟨m, x, rfl, HR⟩ := hrel
    obtain ⟨wL, rfl⟩ : ∃ wo : World, wo = wr := ⟨_, rfl⟩
    clear c0 c1 c2 c3 c4 o0 o1 r0 r1 r2 p0 p1 z0 z1 z2 y0 y1 al2
    obtain ⟨hmp, hmb, hbx, hown, hbel⟩ := HR.out
    have hdf := HD.out.go hbel
    obtain ⟨c0, c1, c2, c3, c4, o0, o1, r0, r1, r2, p0, p1, z0, z1, z2, y0, y1⟩ := hdf.facts
    have HD3 := Lib.hid hdf
    obtain ⟨Ax, cx, rfl⟩ := own_slice hown
    have x0 : wL.cell? ⟨w2.heap.size, 0, none⟩ = some (.int .i64 0) := by rw [cell_of_row _ _ 0 _ _ _ hbx]; rfl
    have x1 : wL.cell? ⟨w2.heap.size, 1, none⟩ = some (.int .i64 0) := by rw [cell_of_row _ _ 1 _ _ _ hbx]; rfl
    have x2 : wL.cell? ⟨w2.heap.size, 2, none⟩ = some (.slice Ax m cx) := by rw [cell_of_row _ _ 2 _ _ _ hbx]; rfl
    have x3 : wL.frozen? ⟨w2.heap.size, 2, none⟩ = false := frozen_of_block hbx 2
    have hml : ((b.drop q).take m).length = m := by rw [List.length_take, List.length_drop]; omega
    have HOw : Hid (OwnB (w2.heap.size + 1) (.slice Ax m cx) ((b.drop q).take m) wL) := OwnB.of_row (by rw [hml]; exact hown)
    by_cases hlt : q + m < b.length
    · have k0 : (q : Int) + (m : Int) < (b.length : Int) := by omega
      by_cases hmq : m < p
      · have k1 : (m : Int) < (p : Int) := by omega
        obtain ⟨bd, od, cd2, hue, hud⟩ := ReadsB.at_ (HBv.out.below (HD3.out.below)) (by omega)
        cases hue
        have hdq := hud (q + m) hlt
        have hst : (b.drop q).take (m + 1) = (b.drop q).take m ++ [b[q + m]'hlt] := by
          have : m < (b.drop q).length := by rw [List.length_drop]; omega
          rw [List.take_succ_eq_append_getElem this, List.getElem_drop]
        have HSt := Lib.hid hst
        generalize b[q + m]'hlt = y at *
        have hbd : Below wL.heap.size wL wL.drew := bel_drew1
        have hsz : w2.heap.size + 1 ≤ wL.drew.heap.size := by have := (Array.getElem?_eq_some_iff.1 hbx).1; exact this
        obtain ⟨A', c', W, hrun, hown2, hbel2⟩ := push_byte wL.drew (w2.heap.size + 1) wL.heap.size Ax cx ((b.drop q).take m) (y.toNat : Int) y rfl rfl (by rw [hml]; exact own_below hown hbd) hsz (by rw [hml]; have := HQ.out; omega)
        rw [hml] at hrun
        rw [List.length_append, hml] at hown2
        have hbW : W.heap[w2.heap.size]? = some (.cells #[.int .i64 0, .int .i64 0, .slice Ax m cx] 26 (0, 0)) := (hbel2.block _ (Nat.lt_succ_self _)).trans hbx
        have v0 : W.cell? ⟨w2.heap.size, 2, none⟩ = some (.slice Ax m cx) := by rw [cell_of_row _ _ 2 _ _ _ hbW]; rfl
        have v1 : W.frozen? ⟨w2.heap.size, 2, none⟩ = false := frozen_of_block hbW 2
        have hrun2 : (appendH #[23, 23] 23 #[.slice Ax m cx, .slice (some ⟨wL.heap.size, 0, none⟩) 1 1]).run Try.prog (wL.alloc (.cells #[.int .u8 (y.toNat : Int)] 5)).drew = _ := hrun
        have v2 : ∀ o, (wL.alloc o).drew.cell? ⟨w2.heap.size, 2, none⟩ = some (.slice Ax m cx) := fun o => by
          have hb9 := (Below.refl wL.drew.heap.size wL.drew).alloc (Nat.le_refl _) o
          exact (cell_of_row (wL.drew.alloc o) _ 2 _ _ _ ((hb9.block _ hsz).trans hbx)).trans rfl
        have q0 : (0 : Int) ≤ (q : Int) + (m : Int) := by omega
        have q9 : (q : Int) + (m : Int) < 4096 := by have := HQ.out; omega
        have q2 : ((q : Int) + (m : Int)).toNat = q + m := by omega
        have HB2 : Hid (Below w2.heap.size w2 W) := hbel.drew.trans (hbel2.mono (Nat.le_succ _))
        have HW := Lib.hid (And.intro hbW hown2)
        clear hown hbel hdf hbx hmb hmp hud hst hbd hsz hown2 hbel2 hbW hml hrun
        go_wp2_with fail
        go_region
        all_goals
          go_wp2_with fail
          go_roundw
          case rel =>
            refine ⟨m + 1, .slice A' (m + 1) c', by go_num, by omega, .inr (by omega), Own.heap_setCell_same HW.out.1 2 _, ?_, HB2.out.setCell (Nat.le_refl _) _⟩
            rw [HSt.out]
            exact own_same HW.out.2 (fun g hg => Below.heap_setCell _ _ _ _ (by have h9 := (HW.out.2.lt g hg).1; rintro rfl; exact Nat.not_succ_le_self _ h9))
          case measure => simp [intOf]; omega
      · have k1 : ¬ (m : Int) < (p : Int) := by omega
        have HE : Hid ((b.drop q).take m = (b.drop q).take p) := by
          have hmp : m = p := by omega
          show _ = _
          rw [hmp]
        clear hown hbel hdf hbx hmb hmp hlt hml
        go_wp2_with fail
        go_region
        all_goals
          go_wp2_with fail
          obtain ⟨hbw, hpo⟩ := (HD3.out.go bel_drew1).fin (.int .i64 0) (.int .i64 0) (.slice Ax m cx) (.bool true) (.slice Ab b.length cb)
          exact bodyPost_ret (v := .tuple #[.agg #[.int .i64 0, .int .i64 0, .slice Ax m cx], .agg #[.bool true, (.slice Ab b.length cb)]]) (by simp [results, Try.results11, go_sem, *]) rfl ⟨_, _, rfl, by rw [← HE.out]; exact (hpo _ _ _ (HOw.out.below bel_drew1)).reads, HBv.out.below hbw, hbw⟩
    · have k0 : ¬ (q : Int) + (m : Int) < (b.length : Int) := by omega
      have HE : Hid ((b.drop q).take m = (b.drop q).take p) := by
        show _ = _
        rw [List.take_of_length_le (by rw [List.length_drop]; omega), List.take_of_length_le (by rw [List.length_drop]; omega)]
      clear hown hbel hdf hbx hmb hmp hlt hml
      go_wp2_with fail
      go_region
      all_goals
        go_wp2_with fail
        obtain ⟨hbw, hpo⟩ := (HD3.out.go bel_drew1).fin (.int .i64 0) (.int .i64 0) (.slice Ax m cx) (.bool true) (.slice Ab b.length cb)
        exact bodyPost_ret (v := .tuple #[.agg #[.int .i64 0, .int .i64 0, .slice Ax m cx], .agg #[.bool true, (.slice Ab b.length cb)]]) (by simp [results, Try.results11, go_sem, *]) rfl ⟨_, _, rfl, by rw [← HE.out]; exact (hpo _ _ _ (HOw.out.below bel_drew1)).reads, HBv.out.below hbw, hbw⟩
end Go.Proofs.Ytbbbdhpihcbmmaa
