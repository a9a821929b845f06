/- The walk of CheckHistory: why a history may not be. -/
import Derived.Test.YtbbbdhpihcbmmaaPHist
namespace Go.Proofs.Ytbbbdhpihcbmmaa
open Go.RowKit Own

theorem chkH_no {xs : List EvIn} (h64 : ¬ 64 < xs.length) (h : csRun xs ⟨[], [], [], 0⟩ = none) : chkH xs = 1 := by unfold chkH; rw [if_neg h64, h]
theorem chkH_yes {xs : List EvIn} {st : CS} (h64 : ¬ 64 < xs.length) (h : csRun xs ⟨[], [], [], 0⟩ = some st) : chkH xs = if 8 < st.most then 2 else 0 := by unfold chkH; rw [if_neg h64, h]

set_option maxHeartbeats 8000000 in
set_option maxRecDepth 100000 in
theorem chk_any (v : Value) (xs : List EvIn) (w : World) (hv : ReadsEvs w v xs) (hok : ∀ x ∈ xs, EvOk x) (hn : xs.length ≤ 140737488351232) :
    Calls Try.prog 25 #[v] w fun e w' => e = .returned (.int .i64 (chkH xs)) ∧ Below w.heap.size w w' := by
  obtain ⟨Av, cv, rfl⟩ := hv.slice
  by_cases h64 : 64 < xs.length
  · have k1 : (64 : Int) < (xs.length : Int) := by omega
    have HR : Hid (chkH xs = 3) := by show _ = _; unfold chkH; rw [if_pos h64]
    clear hv hok hn h64
    go_enter Try.func25, Try.ntmps25
    go_wp2_with fail
    go_ret
    exact ⟨by rw [HR.out]; rfl, Below.refl _ _⟩
  · have k1 : ¬ (64 : Int) < (xs.length : Int) := by omega
    have HV := Lib.hid hv
    have HO := Lib.hid hok
    have H64 := Lib.hid h64
    have HS := Lib.hid (CH.start w)
    have hmm := @run_makeMap Try.prog
    clear hv hok hn h64
    go_enter Try.func25, Try.ntmps25
    go_wp2_with fail
    go_loopw [6, 17] (fun mo i wr => ∃ (j : Nat) (st : CS) (nn : Nat), i = .int .i64 j ∧ mo = .int .i64 st.most ∧ j ≤ xs.length ∧ st.ns.length ≤ j ∧ CH w w.heap.size (w.heap.size + 1) (w.heap.size + 2) nn st wr ∧ csRun (xs.drop j) st = csRun xs ⟨[], [], [], 0⟩) (fun _ i _ => xs.length - (intOf i).toNat)
    case atStart => exact ⟨0, ⟨[], [], [], 0⟩, 0, rfl, rfl, Nat.zero_le _, Nat.le_refl _, HS.out, rfl⟩
    case round =>
      obtain ⟨j, ⟨bs, es, ns, most⟩, nn, rfl, rfl, hjk, hns, hch, hrun⟩ := hrel
      obtain ⟨wL, rfl⟩ : ∃ wo : World, wo = wr := ⟨_, rfl⟩
      simp only [] at hns
      clear HS
      by_cases hj : j < xs.length
      · have k2 : (j : Int) < (xs.length : Int) := by omega
        have k0 : (0 : Int) ≤ (j : Int) := by omega
        obtain ⟨bb, off, cc, hvv, hact⟩ := ReadsEvs.at_ (HV.out.below hch.below) hj
        cases hvv
        have hxo := HO.out _ (List.getElem_mem hj)
        rw [List.drop_eq_getElem_cons hj] at hrun
        generalize xs[j]'hj = x at *
        obtain ⟨dA, dc, rA, rc, ⟨e0, e1, e2, e3, e4, e5, e6, e7, e8, e9, e10, e11⟩, hrd, hrr⟩ := hact.cells
        have HAl : Hid (∀ (W : World) o, Below W.heap.size W (W.alloc o)) := fun W o => (Below.refl _ _).alloc (Nat.le_refl _) o
        have HNo : Hid (csOk ⟨bs, es, ns, most⟩ x = false → chkH xs = 1) := fun h => chkH_no H64.out (by rw [← hrun, csRun, if_neg (by rw [h]; decide)])
        have HYes : Hid (csOk ⟨bs, es, ns, most⟩ x = true → csRun (xs.drop (j + 1)) (csStep ⟨bs, es, ns, most⟩ x) = csRun xs ⟨[], [], [], 0⟩) := fun h => by rw [← hrun, csRun, if_pos h]
        have HX1 : Hid (EX w w.heap.size (w.heap.size + 1) (w.heap.size + 2) nn ⟨bs, es, ns, most⟩ wL.heap.size x (.slice dA x.call.d.length dc) (.slice rA x.rep.d.length rc) (wL.alloc (.cells (evC x (.slice dA x.call.d.length dc) (.slice rA x.rep.d.length rc)) 44))) := ⟨hch.go (HAl.out wL _), heap_alloc_new wL _⟩
        have HChk : Hid (∀ W, Below wL.heap.size wL W → Calls Try.prog 15 #[callV x.call (.slice dA x.call.d.length dc)] W fun e w' => e = .returned (.int .i64 (mayN x.call)) ∧ Below W.heap.size W w') := fun W hW => pcheck_any x.call _ W (hrd.below hW) hxo.call.s
        have HSil : Hid (∀ W, Calls Try.prog 31 #[repV x.rep (.slice rA x.rep.d.length rc)] W fun e w' => e = .returned (.bool (silentB x.rep)) ∧ Below W.heap.size W w') := fun W => silent_any x.rep _ W ⟨rA, rc, rfl⟩
        have HZe : Hid (∀ W, Calls Try.prog 32 #[callV x.call (.slice dA x.call.d.length dc)] W fun e w' => e = .returned (.bool (zeroB x.call)) ∧ Below W.heap.size W w') := fun W => zero_any x.call _ W ⟨dA, dc, rfl⟩
        have HOk : Hid ((Lit.int .i64 x.kc).wf = true ∧ (Lit.int .i64 x.ks).wf = true ∧ x.call.s.size ≤ 140737488351232) := ⟨hxo.kc, hxo.ks, hxo.call.s⟩
        have l1 := HX1.out.ch.look1 HOk.out.1 HOk.out.2.1
        have l2 := HX1.out.ch.look2 HOk.out.1 HOk.out.2.1
        obtain ⟨xc, xk, done, unk, ⟨k, xs', a, d, n⟩, ⟨code, size, rd⟩⟩ := x
        unfold K2 at l1 l2
        dsimp only at e0 e1 e2 e3 e4 e5 e6 e7 e8 e9 e10 e11 HOk
        dsimp only [evC] at HX1 l1 l2
        dsimp only [callV] at HChk HZe
        dsimp only [repV] at HSil
        clear hch hrun hact hxo hrd hrr
        cases done with
        | false =>
          cases hB1 : decide ((xc, xk) ∈ bs) with
          | true =>
            rw [hB1] at l1
            have HR := Lib.hid (HNo.out (by simp [csOk, *]))
            go_wp2_with fail
            go_ret
            exact ⟨by rw [HR.out]; rfl, HX1.out.ch.below⟩
          | false =>
            rw [hB1] at l1
            cases unk with
            | true =>
              have HR := Lib.hid (HNo.out (by simp [csOk, *]))
              go_wp2_with fail
              go_ret
              exact ⟨by rw [HR.out]; rfl, HX1.out.ch.below⟩
            | false =>
              by_cases hm : MayC ⟨k, xs', a, d, n⟩
              · rw [mayN_yes hm] at HChk
                cases hS : silentB ⟨code, size, rd⟩ with
                | false =>
                  rw [hS] at HSil
                  have HR := Lib.hid (HNo.out (by simp [csOk, *]))
                  go_wp2_with (first | (go_at_call 15; refine (HChk.out _ (HAl.out wL _)).mono ?_; rintro e w2 ⟨rfl, hb2⟩; have hx := HX1.out.go hb2; have HX2 := Lib.hid hx; obtain ⟨f0, f1, f2, f3, f4, f5, f6, f7, f8, f9, f10, f11⟩ := hx.facts; clear hx hb2) | (go_at_call 31; refine (HSil.out _).mono ?_; clear f0 f1 f2 f3 f4 f5 f6 f7 f8 f9 f10 f11; rintro e w3 ⟨rfl, hb3⟩; have hx := HX2.out.go hb3; have HX3 := Lib.hid hx; obtain ⟨f0, f1, f2, f3, f4, f5, f6, f7, f8, f9, f10, f11⟩ := hx.facts; clear hx hb3))
                  go_ret
                  exact ⟨by rw [HR.out]; rfl, HX3.out.ch.below⟩
                | true =>
                  rw [hS] at HSil
                  have hw : IntKind.i64.wrap ((cntN ns xs' : Int) + 1) = (cntN (xs' :: ns) xs' : Int) := by rw [cntN_succ, IntKind.wrap_i64]; have := cntN_le ns xs'; omega
                  by_cases hmx : (most : Int) < (cntN (xs' :: ns) xs' : Int)
                  · have HMx : Hid ((cntN (xs' :: ns) xs' : Int) = ((max most (cntN (xs' :: ns) xs') : Nat) : Int)) := by show _ = _; omega
                    have hmx' : most < cntN (xs' :: ns) xs' := by omega
                    have HR := Lib.hid (HYes.out (by simp [csOk, hB1, hm, hS]))
                    go_wp2_with (first | (go_at_call 15; refine (HChk.out _ (HAl.out wL _)).mono ?_; rintro e w2 ⟨rfl, hb2⟩; have hx := HX1.out.go hb2; have HX2 := Lib.hid hx; obtain ⟨f0, f1, f2, f3, f4, f5, f6, f7, f8, f9, f10, f11⟩ := hx.facts; clear hx hb2) | (go_at_call 31; refine (HSil.out _).mono ?_; clear f0 f1 f2 f3 f4 f5 f6 f7 f8 f9 f10 f11; rintro e w3 ⟨rfl, hb3⟩; have hx := HX2.out.go hb3; have HX3 := Lib.hid hx; obtain ⟨f0, f1, f2, f3, f4, f5, f6, f7, f8, f9, f10, f11⟩ := hx.facts; have l3 := hx.ch.look3 xs' HOk.out.2.2; obtain ⟨w8, u3, hx8⟩ := hx.put3 HOk.out.2.2 (max most (cntN (xs' :: ns) xs')); have l4 := hx8.ch.look3 xs' HOk.out.2.2; obtain ⟨g0, g1, g2, g3, g4, g5, g6, g7, g8, g9, g10, g11⟩ := hx8.facts; obtain ⟨w9, u4, hx9⟩ := hx8.put1 HOk.out.1 HOk.out.2.1; have HX9 := Lib.hid hx9; unfold K2 at u4; (try dsimp only at l3); (try dsimp only at l4); (try dsimp only at u3); (try dsimp only at u4); clear hx8 hx9; clear hx hb3))
                    go_roundw
                    case rel => exact ⟨j + 1, _, nn + 1 + 1, by go_num, congrArg (Value.int .i64) HMx.out, by omega, by simp; omega, HX9.out.ch, HR.out⟩
                    case measure => simp [intOf]; omega
                  · have HMx : Hid ((most : Int) = ((max most (cntN (xs' :: ns) xs') : Nat) : Int)) := by show _ = _; omega
                    have hmx' : ¬ most < cntN (xs' :: ns) xs' := by omega
                    have HR := Lib.hid (HYes.out (by simp [csOk, hB1, hm, hS]))
                    go_wp2_with (first | (go_at_call 15; refine (HChk.out _ (HAl.out wL _)).mono ?_; rintro e w2 ⟨rfl, hb2⟩; have hx := HX1.out.go hb2; have HX2 := Lib.hid hx; obtain ⟨f0, f1, f2, f3, f4, f5, f6, f7, f8, f9, f10, f11⟩ := hx.facts; clear hx hb2) | (go_at_call 31; refine (HSil.out _).mono ?_; clear f0 f1 f2 f3 f4 f5 f6 f7 f8 f9 f10 f11; rintro e w3 ⟨rfl, hb3⟩; have hx := HX2.out.go hb3; have HX3 := Lib.hid hx; obtain ⟨f0, f1, f2, f3, f4, f5, f6, f7, f8, f9, f10, f11⟩ := hx.facts; have l3 := hx.ch.look3 xs' HOk.out.2.2; obtain ⟨w8, u3, hx8⟩ := hx.put3 HOk.out.2.2 (max most (cntN (xs' :: ns) xs')); have l4 := hx8.ch.look3 xs' HOk.out.2.2; obtain ⟨g0, g1, g2, g3, g4, g5, g6, g7, g8, g9, g10, g11⟩ := hx8.facts; obtain ⟨w9, u4, hx9⟩ := hx8.put1 HOk.out.1 HOk.out.2.1; have HX9 := Lib.hid hx9; unfold K2 at u4; (try dsimp only at l3); (try dsimp only at l4); (try dsimp only at u3); (try dsimp only at u4); clear hx8 hx9; clear hx hb3))
                    go_roundw
                    case rel => exact ⟨j + 1, _, nn + 1 + 1, by go_num, congrArg (Value.int .i64) HMx.out, by omega, by simp; omega, HX9.out.ch, HR.out⟩
                    case measure => simp [intOf]; omega
              · rw [mayN_no hm] at HChk
                have HR := Lib.hid (HNo.out (by simp [csOk, *]))
                go_wp2_with (first | (go_at_call 15; refine (HChk.out _ (HAl.out wL _)).mono ?_; rintro e w2 ⟨rfl, hb2⟩; have hx := HX1.out.go hb2; have HX2 := Lib.hid hx; obtain ⟨f0, f1, f2, f3, f4, f5, f6, f7, f8, f9, f10, f11⟩ := hx.facts; clear hx hb2))
                go_ret
                exact ⟨by rw [HR.out]; rfl, HX2.out.ch.below⟩
        | true =>
          cases hB1 : decide ((xc, xk) ∈ bs) with
          | false =>
            rw [hB1] at l1
            have HR := Lib.hid (HNo.out (by simp [csOk, *]))
            go_wp2_with fail
            go_ret
            exact ⟨by rw [HR.out]; rfl, HX1.out.ch.below⟩
          | true =>
            rw [hB1] at l1
            cases hB2 : decide ((xc, xk) ∈ es) with
            | true =>
              rw [hB2] at l2
              have HR := Lib.hid (HNo.out (by simp [csOk, *]))
              go_wp2_with fail
              go_ret
              exact ⟨by rw [HR.out]; rfl, HX1.out.ch.below⟩
            | false =>
              rw [hB2] at l2
              cases hZ : zeroB ⟨k, xs', a, d, n⟩ with
              | false =>
                rw [hZ] at HZe
                have HR := Lib.hid (HNo.out (by simp [csOk, *]))
                go_wp2_with (first | (go_at_call 32; refine (HZe.out _).mono ?_; rintro e w2 ⟨rfl, hb2⟩; have hx := HX1.out.go hb2; have HX2 := Lib.hid hx; obtain ⟨f0, f1, f2, f3, f4, f5, f6, f7, f8, f9, f10, f11⟩ := hx.facts; clear hx hb2))
                go_ret
                exact ⟨by rw [HR.out]; rfl, HX2.out.ch.below⟩
              | true =>
                rw [hZ] at HZe
                cases unk with
                | false =>
                  have HR := Lib.hid (HYes.out (by simp [csOk, hB1, hB2, hZ]))
                  go_wp2_with (first | (go_at_call 32; refine (HZe.out _).mono ?_; rintro e w2 ⟨rfl, hb2⟩; have hx := HX1.out.go hb2; have HX2 := Lib.hid hx; obtain ⟨f0, f1, f2, f3, f4, f5, f6, f7, f8, f9, f10, f11⟩ := hx.facts; obtain ⟨w8, u3, hx8⟩ := hx.put2 HOk.out.1 HOk.out.2.1; obtain ⟨g0, g1, g2, g3, g4, g5, g6, g7, g8, g9, g10, g11⟩ := hx8.facts; obtain ⟨w9, u4, hx9⟩ := hx8.put1 HOk.out.1 HOk.out.2.1; have HX9 := Lib.hid hx9; unfold K2 at u3 u4; clear hx8 hx9; clear hx hb2))
                  go_roundw
                  case rel => exact ⟨j + 1, _, nn + 1 + 1, by go_num, rfl, by omega, Nat.le_succ_of_le hns, HX9.out.ch, HR.out⟩
                  case measure => simp [intOf]; omega
                | true =>
                  cases hS : silentB ⟨code, size, rd⟩ with
                  | false =>
                    rw [hS] at HSil
                    have HR := Lib.hid (HNo.out (by simp [csOk, *]))
                    go_wp2_with (first | (go_at_call 32; refine (HZe.out _).mono ?_; rintro e w2 ⟨rfl, hb2⟩; have hx := HX1.out.go hb2; have HX2 := Lib.hid hx; obtain ⟨f0, f1, f2, f3, f4, f5, f6, f7, f8, f9, f10, f11⟩ := hx.facts; clear hx hb2) | (go_at_call 31; refine (HSil.out _).mono ?_; clear f0 f1 f2 f3 f4 f5 f6 f7 f8 f9 f10 f11; rintro e w3 ⟨rfl, hb3⟩; have hx := HX2.out.go hb3; have HX3 := Lib.hid hx; obtain ⟨f0, f1, f2, f3, f4, f5, f6, f7, f8, f9, f10, f11⟩ := hx.facts; clear hx hb3))
                    go_ret
                    exact ⟨by rw [HR.out]; rfl, HX3.out.ch.below⟩
                  | true =>
                    rw [hS] at HSil
                    have HR := Lib.hid (HYes.out (by simp [csOk, hB1, hB2, hZ, hS]))
                    go_wp2_with (first | (go_at_call 32; refine (HZe.out _).mono ?_; rintro e w2 ⟨rfl, hb2⟩; have hx := HX1.out.go hb2; have HX2 := Lib.hid hx; obtain ⟨f0, f1, f2, f3, f4, f5, f6, f7, f8, f9, f10, f11⟩ := hx.facts; clear hx hb2) | (go_at_call 31; refine (HSil.out _).mono ?_; clear f0 f1 f2 f3 f4 f5 f6 f7 f8 f9 f10 f11; rintro e w3 ⟨rfl, hb3⟩; have hx := HX2.out.go hb3; have HX3 := Lib.hid hx; obtain ⟨f0, f1, f2, f3, f4, f5, f6, f7, f8, f9, f10, f11⟩ := hx.facts; obtain ⟨w8, u3, hx8⟩ := hx.put2 HOk.out.1 HOk.out.2.1; obtain ⟨g0, g1, g2, g3, g4, g5, g6, g7, g8, g9, g10, g11⟩ := hx8.facts; obtain ⟨w9, u4, hx9⟩ := hx8.put1 HOk.out.1 HOk.out.2.1; have HX9 := Lib.hid hx9; unfold K2 at u3 u4; clear hx8 hx9; clear hx hb3))
                    go_roundw
                    case rel => exact ⟨j + 1, _, nn + 1 + 1, by go_num, rfl, by omega, Nat.le_succ_of_le hns, HX9.out.ch, HR.out⟩
                    case measure => simp [intOf]; omega
      · obtain rfl : j = xs.length := by omega
        have hr : csRun xs ⟨[], [], [], 0⟩ = some ⟨bs, es, ns, most⟩ := by rw [← hrun, List.drop_length]; rfl
        have HR := Lib.hid (chkH_yes H64.out hr)
        have HB := Lib.hid hch.below
        clear hch hrun hr hj
        by_cases hm : (8 : Int) < (most : Int)
        · have HM : Hid (8 < most) := by show _ < _; omega
          go_wp2_with fail
          go_ret
          exact ⟨by rw [HR.out, if_pos HM.out]; rfl, HB.out⟩
        · have HM : Hid (¬ 8 < most) := by show ¬ _; omega
          go_wp2_with fail
          go_ret
          exact ⟨by rw [HR.out, if_neg HM.out]; rfl, HB.out⟩
end Go.Proofs.Ytbbbdhpihcbmmaa
