/- The walk of the reference's goes: the next call of the name. -/
import Derived.Test.YtbbbdhpihcbmmaaGRGo2
import Derived.Test.YtbbbdhpihcbmmaaLaw
import Derived.Deep.RegionHeld3
import Derived.Deep.CutRange
namespace Go.Proofs.Ytbbbdhpihcbmmaa
open Go.RowKit Own

theorem dn_set8 {l : List OE} {s : ByteArray} {m k db : Nat} {w W7 : World} (hK : NextK l s m k) (hd : w.heap[db]? = some (.cells (dnA l s m) 4 (0, 0))) (h7 : Below w.heap.size w W7) : (W7.setCell ⟨db, 2 * k, none⟩ (.bool true)).heap[db]? = some (.cells (dnA l s (k + 1)) 4 (0, 0)) := by
  have h := Own.heap_setCell_same ((h7.block db (Array.getElem?_eq_some_iff.1 hd).1).trans hd) (2 * k) (.bool true)
  rw [dne_set hK] at h
  exact h
theorem dn_back_below {l : List OE} {s : ByteArray} {m k db : Nat} {w W7 W9 : World} (hK : NextK l s m k) (hd : w.heap[db]? = some (.cells (dnA l s m) 4 (0, 0))) (h7 : Below w.heap.size w W7) (h9 : Below (W7.setCell ⟨db, 2 * k, none⟩ (.bool true)).heap.size (W7.setCell ⟨db, 2 * k, none⟩ (.bool true)) W9) : Below w.heap.size w (W9.setCell ⟨db, 2 * k, none⟩ (.bool false)) := by
  have hlt := (Array.getElem?_eq_some_iff.1 hd).1
  have s8 : (W7.setCell ⟨db, 2 * k, none⟩ (.bool true)).heap.size = W7.heap.size := by simp [World.setCell]
  have s10 : (W9.setCell ⟨db, 2 * k, none⟩ (.bool false)).heap.size = W9.heap.size := by simp [World.setCell]
  have h8 := dn_set8 hK hd h7
  have hd9 := (h9.block db (Array.getElem?_eq_some_iff.1 h8).1).trans h8
  have hd10 := Own.heap_setCell_same hd9 (2 * k) (.bool false)
  rw [dne_back hK] at hd10
  refine ⟨h9.os.trans h7.os, h9.tape.trans h7.tape, h9.output.trans h7.output, ?_, fun q hq => ?_⟩
  · rw [s10]
    exact Nat.le_trans (by rw [s8]; exact h7.size) h9.size
  · by_cases e : q = db
    · subst e
      exact hd10.trans hd.symm
    · refine (Below.heap_setCell _ _ _ _ e).trans ((h9.block q ?_).trans ((Below.heap_setCell _ _ _ _ e).trans (h7.block q hq)))
      rw [s8]
      exact Nat.lt_of_lt_of_le hq h7.size
set_option maxHeartbeats 4000000 in
set_option maxRecDepth 100000 in
theorem rgoes_some (l : List OE) (hl : OkL l) (Av : Option Addr) (cv : Nat) (s : ByteArray) (db m : Nat) (k0 : Nat) (hK : NextK l s m k0) (hk0 : k0 < l.length) (has : Bool) (b : List UInt8) (hb4 : b.length ≤ 4096) (sm r1 : Bool) (hsm : sameB (repOf (doR (l[k0]'hk0).c has b)) (l[k0]'hk0).r = sm) (bv : Value) (w : World)
    (hv : ReadsEvs w (.slice Av (evsOf l).length cv) (evsOf l)) (hd : w.heap[db]? = some (.cells (dnA l s m) 4 (0, 0))) (hb : ReadsB w bv b)
    (hI : sm = true → ∀ bv' W, ReadsEvs W (.slice Av (evsOf l).length cv) (evsOf l) → W.heap[db]? = some (.cells (dnA l s (k0 + 1)) 4 (0, 0)) → ReadsB W bv' (doR (l[k0]'hk0).c has b).b → Calls Try.prog 28 #[.slice Av (evsOf l).length cv, .string s, .slice (some ⟨db, 0, none⟩) (evsOf l).length (evsOf l).length, .agg #[.bool (doR (l[k0]'hk0).c has b).has, bv']] W fun e w' => e = .returned (.bool r1) ∧ Below W.heap.size W w') :
    Calls Try.prog 28 #[.slice Av (evsOf l).length cv, .string s, .slice (some ⟨db, 0, none⟩) (evsOf l).length (evsOf l).length, .agg #[.bool has, bv]] w fun e w' => e = .returned (.bool (sm && r1)) ∧ Below w.heap.size w w' := by
  obtain ⟨K, hKe, hK⟩ : ∃ K : Option Nat, K = some k0 ∧ IsK l s m K := ⟨some k0, rfl, hK⟩
  obtain ⟨N, hN⟩ : ∃ N, N = (evsOf l).length := ⟨_, rfl⟩
  obtain ⟨bA, bn, bc, rfl⟩ : ∃ A n c, bv = .slice A n c := by obtain ⟨A, c, h⟩ := hb.slice; exact ⟨A, _, c, h⟩
  have hN2 : N = 2 * l.length := by rw [hN, evsOf_len]
  have hN64 : (N : Int) ≤ 64 := by have := hl.n; omega
  have HV := Lib.hid hv
  rw [← hN] at hI
  have HI := Lib.hid hI
  have HSm := Lib.hid hsm
  have HBb := Lib.hid (And.intro hb hb4)
  clear hI hsm hb4
  have HD := Lib.hid hd
  have HL := Lib.hid (And.intro hl (And.intro hK (And.intro hN hN2)))
  have HEnd : Hid (∀ (kc ks : Int) (W : World), Below w.heap.size w W → Calls Try.prog 37 #[.slice Av N cv, .agg #[.int .i64 kc, .int .i64 ks]] W fun e w' => e = .returned (.int .i64 (endI kc ks (evsOf l))) ∧ Below W.heap.size W w') := fun kc ks W hb => by
    have := rend_any kc ks (.slice Av (evsOf l).length cv) (evsOf l) W (hv.below hb) (by rw [evsOf_len]; have := hl.n; omega)
    rw [← hN] at this
    exact this
  have HS : Hid (Below w.heap.size w (w.alloc (.cells #[.bool has, .slice bA bn bc] 38)) ∧ (w.alloc (.cells #[.bool has, .slice bA bn bc] 38)).heap[w.heap.size]? = some (.cells #[.bool has, .slice bA bn bc] 38 (0, 0))) := ⟨(Below.refl _ _).alloc (Nat.le_refl _) _, heap_alloc_new w _⟩
  rw [← hN]
  clear hv hd hb hK hl hN hN2
  go_enter Try.func28, Try.ntmps28
  go_wp2_with fail
  go_loopw [9, 10, 11] (fun fi le i wr => ∃ j : Nat, i = .int .i64 j ∧ fi = .int .i64 (ffn K N j) ∧ le = .bool (lfn K j) ∧ j ≤ N ∧ Hid (Below w.heap.size w wr ∧ wr.heap[w.heap.size]? = some (.cells #[.bool has, .slice bA bn bc] 38 (0, 0)))) (fun _ _ i _ => N - (intOf i).toNat)
  case atStart => exact ⟨0, rfl, by cases K <;> simp [ffn], by cases K <;> simp [lfn], Nat.zero_le _, HS.out⟩
  case round =>
    obtain ⟨j, rfl, rfl, rfl, hj, HBX⟩ := hrel
    have HB := Lib.hid HBX.out.1
    obtain ⟨wL, rfl⟩ : ∃ wo : World, wo = wr := ⟨_, rfl⟩
    by_cases hlt : j < N
    · have k1 : (j : Int) < (N : Int) := by omega
      have k0 : (0 : Int) ≤ (j : Int) := by omega
      have hjx : j < (evsOf l).length := by have := HL.out.2.2.1; omega
      obtain ⟨bb, off, cc, hvv, hact⟩ := (HV.out.below HB.out).at_ hjx
      obtain ⟨rfl, rfl⟩ : Av = some ⟨bb, off, none⟩ ∧ cv = cc := by
        rw [Value.slice.injEq] at hvv
        exact ⟨hvv.1, hvv.2.2⟩
      have hq : wL.cell? ⟨db, j, none⟩ = some (.bool (dneB l s m j)) := by
        have h1 : w.cell? ⟨db, j, none⟩ = some (.bool (dneB l s m j)) := by
          rw [cell_of_row _ _ j _ _ _ HD.out]; exact dnA_at (by have := HL.out.2.2.2; omega)
        exact (HB.out.cell (p := ⟨db, j, none⟩) (World.block_lt_of_cell? w _ h1)).trans h1
      obtain ⟨dA, dc, rA, rc, ⟨e0, e1, e2, e3, e4, e5, e6, e7, e8, e9, e10, e11⟩, _, _⟩ := hact.cells
      rcases Nat.mod_two_eq_zero_or_one j with hpar | hpar
      · obtain ⟨k, rfl⟩ : ∃ k, j = 2 * k := ⟨j / 2, by omega⟩
        have hk : k < l.length := by have := HL.out.2.2.2; omega
        have hx := evsOf_bg l k hk
        rw [List.getElem?_eq_getElem hjx, Option.some.injEq] at hx
        rw [hx] at e0 e1 e2 e3 e4 e5 e6 e7 e8 e9 e10 e11
        simp only [bgE] at e0 e1 e2 e3 e4 e5 e6 e7 e8 e9 e10 e11
        have h2k : 2 * k / 2 = k := by omega
        by_cases hnm : s = (l[k]'hk).c.s
        · have hdn : dneB l s m (2 * k) = decide (k < m) := by
            unfold dneB
            rw [h2k, List.getElem?_eq_getElem hk]
            simp only [decide_eq_decide]
            exact ⟨fun h => h.2.1, fun h => ⟨by omega, h, hnm⟩⟩
          by_cases hkm : k < m
          · have hsk := ffn_skip (N := N) (j := 2 * k) HL.out.2.1 (.inr fun _ => .inr (by rw [h2k]; exact hkm))
            have HSk := Lib.hid hsk
            rw [hdn, decide_eq_true hkm] at hq
            rw [← hnm] at e5
            clear hsk hx hvv hact hdn hnm
            go_wp2_with fail
            go_roundw
            case rel => exact ⟨2 * k + 1, by go_num, by rw [HSk.out.1], by rw [HSk.out.2], by omega, HBX.out⟩
            case measure => simp [intOf]; omega
          · have hht := ffn_hit HL.out.2.1 hk HL.out.2.2.2 hnm (Nat.le_of_not_lt hkm)
            have hfe := find_end HL.out.1.apart hk
            have hqe : endI (l[k]'hk).kc (l[k]'hk).ks (evsOf l) = ((2 * k + 1 : Nat) : Int) := by
              have h1 : 2 * k + 1 < (evsOf l).length := by rw [evsOf_len]; omega
              unfold endI
              rw [hfe, if_pos h1]
            have HC : Hid (∀ W, Below w.heap.size w W → Calls Try.prog 37 #[.slice (some ⟨bb, off, none⟩) N cv, .agg #[.int .i64 (l[k]'hk).kc, .int .i64 (l[k]'hk).ks]] W fun e w' => e = .returned (.int .i64 ((2 * k + 1 : Nat) : Int)) ∧ Below W.heap.size W w') := fun W hb => by
              have := HEnd.out (l[k]'hk).kc (l[k]'hk).ks W hb
              rw [hqe] at this
              exact this
            have hxe : ∃ u, ∀ W, Below w.heap.size w W → W.cell? ⟨bb, off + (2 * k + 1) * 12 + 3, none⟩ = some (.bool false) ∧ u = () := by
              have hjy : 2 * k + 1 < (evsOf l).length := by rw [evsOf_len]; omega
              refine ⟨(), fun W hb => ?_⟩
              obtain ⟨b2, o2, c2, hv2, hat2⟩ := (HV.out.below hb).at_ hjy
              have hy := evsOf_en l k hk
              rw [List.getElem?_eq_getElem hjy, Option.some.injEq] at hy
              obtain ⟨_, _, _, _, ⟨_, _, _, g3, _⟩, _, _⟩ := hat2.cells
              rw [Value.slice.injEq, Option.some.injEq, Addr.mk.injEq] at hv2
              obtain ⟨⟨rfl, rfl, _⟩, _, _⟩ := hv2
              rw [hy] at g3
              exact ⟨g3, rfl⟩
            obtain ⟨_, hxe⟩ := hxe
            have HXe := Lib.hid hxe
            rw [hdn, decide_eq_false hkm] at hq
            rw [← hnm] at e5
            have kN1 : ((2 * k + 1 : Nat) : Int) < (N : Int) := by have := HL.out.2.2.2; omega
            have kN0 : (0 : Int) ≤ ((2 * k + 1 : Nat) : Int) := by omega
            generalize hFF : ffn K N (2 * k) = F0 at *
            generalize hLL : lfn K (2 * k) = L0 at *
            obtain ⟨Q, hQ⟩ : ∃ Q : Nat, Q = 2 * k + 1 := ⟨_, rfl⟩
            rw [← hQ] at kN1 kN0 HC HXe hht
            have HQ := Lib.hid hQ
            have HHt := Lib.hid hht.1
            rcases hht.2 with ⟨hlt9, hFn⟩ | ⟨hlt9, hFn⟩
            · have k9 : (Q : Int) < (F0 : Int) := by omega
              have HFn := Lib.hid hFn
              clear hht hx hvv hact hdn hnm hfe hqe hxe hFn hlt9 hQ
              go_wp2_with (go_at_call 37; (with_reducible refine (HC.out _ HB.out).mono ?_); rintro e w3 ⟨rfl, hb3⟩; have HB3 := Lib.hid (And.intro (HB.out.trans (hb3.mono HB.out.size)) ((hb3.block _ (Array.getElem?_eq_some_iff.1 HBX.out.2).1).trans HBX.out.2)); have g3 := (HXe.out _ HB3.out.1).1; clear hb3)
              go_roundw
              case rel => exact ⟨Q, by rw [HQ.out]; go_num, by rw [HFn.out], by rw [HHt.out], by have := HL.out.2.2.2; have := HQ.out; omega, HB3.out⟩
              case measure => simp [intOf]; omega
            · have k9 : ¬ (Q : Int) < (F0 : Int) := by omega
              have HFn := Lib.hid hFn
              clear hht hx hvv hact hdn hnm hfe hqe hxe hFn hlt9 hQ
              go_wp2_with (go_at_call 37; (with_reducible refine (HC.out _ HB.out).mono ?_); rintro e w3 ⟨rfl, hb3⟩; have HB3 := Lib.hid (And.intro (HB.out.trans (hb3.mono HB.out.size)) ((hb3.block _ (Array.getElem?_eq_some_iff.1 HBX.out.2).1).trans HBX.out.2)); have g3 := (HXe.out _ HB3.out.1).1; clear hb3)
              go_roundw
              case rel => exact ⟨Q, by rw [HQ.out]; go_num, by rw [HFn.out], by rw [HHt.out], by have := HL.out.2.2.2; have := HQ.out; omega, HB3.out⟩
              case measure => simp [intOf]; omega
        · have hsk := ffn_skip (N := N) (j := 2 * k) HL.out.2.1 (.inr fun _ => .inl (by simp only [h2k]; exact hnm))
          have HSk := Lib.hid hsk
          have hn1 : ((l[k]'hk).c.s.toList == s.toList) = false := by
            rw [beq_eq_false_iff_ne]
            intro h
            rw [ByteArray.toList_eq, ByteArray.toList_eq] at h
            exact hnm (ByteArray.ext (Array.toList_inj.1 h)).symm
          clear hsk hx hvv hact hq hnm
          go_wp2_with fail
          go_roundw
          case rel => exact ⟨2 * k + 1, by go_num, by rw [HSk.out.1], by rw [HSk.out.2], by omega, HBX.out⟩
          case measure => simp [intOf]; omega
      · obtain ⟨k, rfl⟩ : ∃ k, j = 2 * k + 1 := ⟨j / 2, by omega⟩
        have hk : k < l.length := by have := HL.out.2.2.2; omega
        have hx := evsOf_en l k hk
        rw [List.getElem?_eq_getElem hjx, Option.some.injEq] at hx
        have hsk := ffn_skip (N := N) (j := 2 * k + 1) HL.out.2.1 (.inl hpar)
        rw [hx] at e0 e1 e2 e3 e4 e5 e6 e7 e8 e9 e10 e11
        simp only [enE] at e0 e1 e2 e3 e4 e5 e6 e7 e8 e9 e10 e11
        have HSk := Lib.hid hsk
        clear hsk hx hvv hact hq
        go_wp2_with fail
        go_roundw
        case rel => exact ⟨2 * k + 1 + 1, by go_num, by rw [HSk.out.1], by rw [HSk.out.2], by omega, HBX.out⟩
        case measure => simp [intOf]; omega
    · have k1 : ¬ (j : Int) < (N : Int) := by omega
      obtain rfl : j = N := by omega
      have hNk : 2 * k0 < j := by have := HL.out.2.2.2; omega
      have h1 : lfn K j = true := by rw [hKe]; exact decide_eq_true hNk
      have h2 : ffn K j j = 2 * k0 + 1 := by rw [hKe]; exact if_pos hNk
      rw [h1, h2]
      clear h1 h2
      have HFin := Lib.hid HBX.out
      clear HB HBX hj
      go_upto_region 15 with (fail)
      go_loopw [13] (fun i wr => ∃ q : Nat, i = .int .i64 q ∧ q ≤ 2 * k0 + 1 ∧ Hid ((q ≤ 2 * k0 ∧ Below w.heap.size w wr ∧ wr.heap[w.heap.size]? = some (.cells #[.bool has, .slice bA bn bc] 38 (0, 0))) ∨ (q = 2 * k0 + 1 ∧ (sm && r1) = false ∧ Below w.heap.size w wr))) (fun i _ => 2 * k0 + 1 - (intOf i).toNat)
      case atStart => exact ⟨0, rfl, Nat.zero_le _, .inl ⟨Nat.zero_le _, HFin.out⟩⟩
      case round =>
        obtain ⟨q, rfl, hq1, HQ⟩ := hrel
        obtain ⟨wR, rfl⟩ : ∃ wo : World, wo = wr := ⟨_, rfl⟩
        by_cases hql : q < 2 * k0 + 1
        · have kq1 : (q : Int) < ((2 * k0 + 1 : Nat) : Int) := by omega
          have kq0 : (0 : Int) ≤ (q : Int) := by omega
          have kqN : (q : Int) < (j : Int) := by omega
          have HR : Hid (Below w.heap.size w wR ∧ wR.heap[w.heap.size]? = some (.cells #[.bool has, .slice bA bn bc] 38 (0, 0))) := by
            rcases HQ.out with h | h
            · exact h.2
            · exact absurd h.1 (by omega)
          have hqx : q < (evsOf l).length := by rw [evsOf_len]; have := HL.out.2.2.2; omega
          obtain ⟨bb, off, cc, hvv, hact⟩ := (HV.out.below HR.out.1).at_ hqx
          obtain ⟨rfl, rfl⟩ : Av = some ⟨bb, off, none⟩ ∧ cv = cc := by
            rw [Value.slice.injEq] at hvv
            exact ⟨hvv.1, hvv.2.2⟩
          have hdq : wR.cell? ⟨db, q, none⟩ = some (.bool (dneB l s m q)) := by
            have h1 : w.cell? ⟨db, q, none⟩ = some (.bool (dneB l s m q)) := by
              rw [cell_of_row _ _ q _ _ _ HD.out]; exact dnA_at (by have := HL.out.2.2.2; omega)
            exact (HR.out.1.cell (p := ⟨db, q, none⟩) (World.block_lt_of_cell? w _ h1)).trans h1
          obtain ⟨dA, dc, rA, rc, ⟨e0, e1, e2, e3, e4, e5, e6, e7, e8, e9, e10, e11⟩, hrdd, _⟩ := hact.cells
          rcases Nat.mod_two_eq_zero_or_one q with hpar | hpar
          · obtain ⟨k, rfl⟩ : ∃ k, q = 2 * k := ⟨q / 2, by omega⟩
            have hk : k < l.length := by have := HL.out.2.2.2; omega
            have hx := evsOf_bg l k hk
            rw [List.getElem?_eq_getElem hqx, Option.some.injEq] at hx
            rw [hx] at e0 e1 e2 e3 e4 e5 e6 e7 e8 e9 e10 e11 hrdd
            simp only [bgE] at e0 e1 e2 e3 e4 e5 e6 e7 e8 e9 e10 e11 hrdd
            have h2k : 2 * k / 2 = k := by omega
            by_cases hnm : s = (l[k]'hk).c.s
            · have hdn : dneB l s m (2 * k) = decide (k < m) := by
                unfold dneB
                rw [h2k, List.getElem?_eq_getElem hk]
                simp only [decide_eq_decide]
                exact ⟨fun h => h.2.1, fun h => ⟨by omega, h, hnm⟩⟩
              by_cases hkm : k < m
              · rw [hdn, decide_eq_true hkm] at hdq
                rw [← hnm] at e5
                have hk9 : 2 * k + 1 ≤ 2 * k0 := by
                  have h9 : NextK l s m k0 := by have := HL.out.2.1; rw [hKe] at this; exact this
                  have := h9.1
                  omega
                clear hx hvv hact hdn hnm
                go_wp2_with fail
                go_roundw
                case rel => exact ⟨2 * k + 1, by go_num, by omega, .inl ⟨hk9, HR.out⟩⟩
                case measure => simp [intOf]; omega
              · have hkk : k = k0 := by
                  have h9 : NextK l s m k0 := by have := HL.out.2.1; rw [hKe] at this; exact this
                  obtain ⟨_, _, _, hno⟩ := h9
                  by_cases h : k < k0
                  · exact absurd hnm (hno k hk (by omega) h)
                  · omega
                subst hkk
                rw [hdn, decide_eq_false hkm] at hdq
                rw [← hnm] at e5
                have HRdd := Lib.hid hrdd
                have HNm := Lib.hid hnm
                clear hx hvv hact hdn hnm h2k
                generalize hQ : 2 * k = Q at *
                have HQe := Lib.hid hQ
                have kq5 : (Q : Int) < 2 * (k : Int) + 1 := by omega
                clear hQ
                go_upto_region 18 with (fail)
                have hbx := HR.out.2
                have b0 : wR.cell? ⟨w.heap.size, 0, none⟩ = some (.bool has) := by rw [cell_of_row _ _ 0 _ _ _ hbx]; rfl
                have b1 : wR.cell? ⟨w.heap.size, 1, none⟩ = some (.slice bA bn bc) := by rw [cell_of_row _ _ 1 _ _ _ hbx]; rfl
                have HDo : Hid (∀ W, Below wR.heap.size wR W → Calls Try.prog 11 #[.agg #[.int .i64 (l[k]'hk).c.k, .string s, .int .i64 (l[k]'hk).c.a, .slice dA (l[k]'hk).c.d.length dc, .int .i64 (l[k]'hk).c.n], .agg #[.bool has, .slice bA bn bc]] W (RDoPost (doR (l[k]'hk).c has b) W)) := fun W hW => by
                  have hcl := HL.out.1.call _ (List.getElem_mem hk)
                  have := rdo_any (l[k]'hk).c (.slice dA (l[k]'hk).c.d.length dc) (.slice bA bn bc) has b W (HRdd.out.below hW) (HBb.out.1.below (HR.out.1.trans (hW.mono HR.out.1.size))) HBb.out.2 hcl.2.1 (Law.wf_i64 hcl.1.a).2
                  unfold callV at this
                  rw [← HNm.out] at this
                  exact this
                have HSt : Hid (∀ W, Below wR.heap.size wR W → W.cell? ⟨bb, off + Q * 12 + 4, none⟩ = some (.int .i64 (l[k]'hk).c.k) ∧ W.cell? ⟨bb, off + Q * 12 + 5, none⟩ = some (.string s) ∧ W.cell? ⟨bb, off + Q * 12 + 6, none⟩ = some (.int .i64 (l[k]'hk).c.a) ∧ W.cell? ⟨bb, off + Q * 12 + 7, none⟩ = some (.slice dA (l[k]'hk).c.d.length dc) ∧ W.cell? ⟨bb, off + Q * 12 + 8, none⟩ = some (.int .i64 (l[k]'hk).c.n) ∧ W.cell? ⟨w.heap.size, 0, none⟩ = some (.bool has) ∧ W.cell? ⟨w.heap.size, 1, none⟩ = some (.slice bA bn bc)) := fun W hW => by
                  have t : ∀ bk o u, wR.cell? ⟨bk, o, none⟩ = some u → W.cell? ⟨bk, o, none⟩ = some u := fun bk o u hu => (hW.cell (World.block_lt_of_cell? wR _ hu)).trans hu
                  exact ⟨t _ _ _ e4, t _ _ _ e5, t _ _ _ e6, t _ _ _ e7, t _ _ _ e8, t _ _ _ b0, t _ _ _ b1⟩
                have hlt1 := World.block_lt_of_cell? wR _ e4
                have hlt2 := World.block_lt_of_cell? wR _ b0
                simp only [] at hlt1 hlt2
                generalize hDD : doR (l[k]'hk).c has b = DD at *
                go_cut [14, 15] from 96 to 105 (fun px qx wx => ∃ (gp gq : Nat) (dv' bv' : Value), px = .pointer (some ⟨gp, 0, none⟩) ∧ qx = .pointer (some ⟨gq, 0, none⟩) ∧ Hid (RgBox wR DD gp gq dv' bv' wx))
                case first =>
                  have ne1 : ¬ bb = wR.heap.size := Nat.ne_of_lt hlt1
                  have ne2 : ¬ wR.heap.size = bb := Nat.ne_of_gt hlt1
                  have ne3 : ¬ w.heap.size = wR.heap.size := Nat.ne_of_lt hlt2
                  have ne4 : ¬ wR.heap.size = w.heap.size := Nat.ne_of_gt hlt2
                  have ne5 : ¬ bb = wR.heap.size + 1 := by omega
                  have ne6 : ¬ wR.heap.size + 1 = bb := by omega
                  have ne7 : ¬ w.heap.size = wR.heap.size + 1 := by omega
                  have ne8 : ¬ wR.heap.size + 1 = w.heap.size := by omega
                  have HD0 : Hid (Below wR.heap.size wR wR.drew) := (Below.refl _ _).drew
                  have HD1 : Hid (Below wR.heap.size wR (wR.alloc (.cells #[.int .i64 0, .int .i64 0, .slice none 0 0] 26)).drew) := ((Below.refl _ _).alloc (Nat.le_refl _) _).drew
                  have HD2 : Hid (Below wR.heap.size wR (wR.alloc (.cells #[.bool false, .slice none 0 0] 38)).drew) := ((Below.refl _ _).alloc (Nat.le_refl _) _).drew
                  have HD3 : Hid (Below wR.heap.size wR ((wR.alloc (.cells #[.int .i64 0, .int .i64 0, .slice none 0 0] 26)).alloc (.cells #[.bool false, .slice none 0 0] 38)).drew) := (((Below.refl _ _).alloc (Nat.le_refl _) _).alloc (by simp) _).drew
                  have HD4 : Hid (Below wR.heap.size wR ((wR.alloc (.cells #[.bool false, .slice none 0 0] 38)).alloc (.cells #[.int .i64 0, .int .i64 0, .slice none 0 0] 26)).drew) := (((Below.refl _ _).alloc (Nat.le_refl _) _).alloc (by simp) _).drew
                  go_region_held3 (fun W => W.cell? ⟨bb, off + Q * 12 + 4, none⟩ = some (.int .i64 (l[k]'hk).c.k) ∧ W.cell? ⟨bb, off + Q * 12 + 5, none⟩ = some (.string s) ∧ W.cell? ⟨bb, off + Q * 12 + 6, none⟩ = some (.int .i64 (l[k]'hk).c.a) ∧ W.cell? ⟨bb, off + Q * 12 + 7, none⟩ = some (.slice dA (l[k]'hk).c.d.length dc) ∧ W.cell? ⟨bb, off + Q * 12 + 8, none⟩ = some (.int .i64 (l[k]'hk).c.n) ∧ W.cell? ⟨w.heap.size, 0, none⟩ = some (.bool has) ∧ W.cell? ⟨w.heap.size, 1, none⟩ = some (.slice bA bn bc)) (go_keep)
                    (first
                      | (go_at_call 11; (with_reducible refine (HDo.out _ HD0.out).mono ?_); rintro e w5 ⟨dv', bv', rfl, hd5, hb5, hbl5⟩; obtain ⟨A5, c5, rfl⟩ := hd5.slice; obtain ⟨A6, c6, rfl⟩ := hb5.slice; have hk5 := HD0.out.trans (hbl5.mono HD0.out.size); obtain ⟨e4, e5, e6, e7, e8, b0, b1⟩ := HSt.out _ hk5; have ls5 := hk5.size; have nb1 : ¬ bb = w5.heap.size := (by omega); have nb2 : ¬ w5.heap.size = bb := (by omega); have nb3 : ¬ w.heap.size = w5.heap.size := (by omega); have nb4 : ¬ w5.heap.size = w.heap.size := (by omega); have H5 := Lib.hid (And.intro hd5 (And.intro hb5 (And.intro hbl5 hk5))); clear hd5 hb5 hbl5 hk5)
                      | (go_at_call 11; (with_reducible refine (HDo.out _ HD1.out).mono ?_); rintro e w5 ⟨dv', bv', rfl, hd5, hb5, hbl5⟩; obtain ⟨A5, c5, rfl⟩ := hd5.slice; obtain ⟨A6, c6, rfl⟩ := hb5.slice; have hk5 := HD1.out.trans (hbl5.mono HD1.out.size); obtain ⟨e4, e5, e6, e7, e8, b0, b1⟩ := HSt.out _ hk5; have ls5 := hk5.size; have nb1 : ¬ bb = w5.heap.size := (by omega); have nb2 : ¬ w5.heap.size = bb := (by omega); have nb3 : ¬ w.heap.size = w5.heap.size := (by omega); have nb4 : ¬ w5.heap.size = w.heap.size := (by omega); have ls6 : wR.heap.size + 1 ≤ w5.heap.size := (by have h6 := hbl5.size; simp at h6; omega); have nb5 : ¬ wR.heap.size = w5.heap.size := (by omega); have nb6 : ¬ w5.heap.size = wR.heap.size := (by omega); have hbxR := (hbl5.block (wR.heap.size) (by simp <;> omega)).trans (heap_alloc_new wR (.cells #[.int .i64 0, .int .i64 0, .slice none 0 0] 26)); obtain ⟨z0, z1, z2, zf⟩ := cells3R hbxR; obtain ⟨z0', z1', z2', zf'⟩ := cells3R' hbxR; have HBxR := Lib.hid hbxR; clear hbxR; have H5 := Lib.hid (And.intro hd5 (And.intro hb5 (And.intro hbl5 hk5))); clear hd5 hb5 hbl5 hk5)
                      | (go_at_call 11; (with_reducible refine (HDo.out _ HD2.out).mono ?_); rintro e w5 ⟨dv', bv', rfl, hd5, hb5, hbl5⟩; obtain ⟨A5, c5, rfl⟩ := hd5.slice; obtain ⟨A6, c6, rfl⟩ := hb5.slice; have hk5 := HD2.out.trans (hbl5.mono HD2.out.size); obtain ⟨e4, e5, e6, e7, e8, b0, b1⟩ := HSt.out _ hk5; have ls5 := hk5.size; have nb1 : ¬ bb = w5.heap.size := (by omega); have nb2 : ¬ w5.heap.size = bb := (by omega); have nb3 : ¬ w.heap.size = w5.heap.size := (by omega); have nb4 : ¬ w5.heap.size = w.heap.size := (by omega); have ls6 : wR.heap.size + 1 ≤ w5.heap.size := (by have h6 := hbl5.size; simp at h6; omega); have nb5 : ¬ wR.heap.size = w5.heap.size := (by omega); have nb6 : ¬ w5.heap.size = wR.heap.size := (by omega); have hbxO := (hbl5.block (wR.heap.size) (by simp <;> omega)).trans (heap_alloc_new wR (.cells #[.bool false, .slice none 0 0] 38)); obtain ⟨y0, y1, yf⟩ := cells2O hbxO; obtain ⟨y0', y1', yf'⟩ := cells2O' hbxO; have HBxO := Lib.hid hbxO; clear hbxO; have H5 := Lib.hid (And.intro hd5 (And.intro hb5 (And.intro hbl5 hk5))); clear hd5 hb5 hbl5 hk5)
                      | (go_at_call 11; (with_reducible refine (HDo.out _ HD3.out).mono ?_); rintro e w5 ⟨dv', bv', rfl, hd5, hb5, hbl5⟩; obtain ⟨A5, c5, rfl⟩ := hd5.slice; obtain ⟨A6, c6, rfl⟩ := hb5.slice; have hk5 := HD3.out.trans (hbl5.mono HD3.out.size); obtain ⟨e4, e5, e6, e7, e8, b0, b1⟩ := HSt.out _ hk5; have ls5 := hk5.size; have nb1 : ¬ bb = w5.heap.size := (by omega); have nb2 : ¬ w5.heap.size = bb := (by omega); have nb3 : ¬ w.heap.size = w5.heap.size := (by omega); have nb4 : ¬ w5.heap.size = w.heap.size := (by omega); have ls6 : wR.heap.size + 2 ≤ w5.heap.size := (by have h6 := hbl5.size; simp at h6; omega); have nb5 : ¬ wR.heap.size = w5.heap.size := (by omega); have nb6 : ¬ w5.heap.size = wR.heap.size := (by omega); have nb7 : ¬ wR.heap.size + 1 = w5.heap.size := (by omega); have nb8 : ¬ w5.heap.size = wR.heap.size + 1 := (by omega); have hbxR := (hbl5.block (wR.heap.size) (by simp <;> omega)).trans (((((Below.refl _ _).alloc (Nat.le_refl _) (.cells #[.bool false, .slice none 0 0] 38)) : Below (wR.alloc (.cells #[.int .i64 0, .int .i64 0, .slice none 0 0] 26)).heap.size (wR.alloc (.cells #[.int .i64 0, .int .i64 0, .slice none 0 0] 26)) ((wR.alloc (.cells #[.int .i64 0, .int .i64 0, .slice none 0 0] 26)).alloc (.cells #[.bool false, .slice none 0 0] 38))).block wR.heap.size (by simp)).trans (heap_alloc_new wR (.cells #[.int .i64 0, .int .i64 0, .slice none 0 0] 26))); obtain ⟨z0, z1, z2, zf⟩ := cells3R hbxR; obtain ⟨z0', z1', z2', zf'⟩ := cells3R' hbxR; have HBxR := Lib.hid hbxR; clear hbxR; have hbxO := (hbl5.block (wR.heap.size + 1) (by simp <;> omega)).trans (new2 wR (.cells #[.int .i64 0, .int .i64 0, .slice none 0 0] 26) (.cells #[.bool false, .slice none 0 0] 38)); obtain ⟨y0, y1, yf⟩ := cells2O hbxO; obtain ⟨y0', y1', yf'⟩ := cells2O' hbxO; have HBxO := Lib.hid hbxO; clear hbxO; have H5 := Lib.hid (And.intro hd5 (And.intro hb5 (And.intro hbl5 hk5))); clear hd5 hb5 hbl5 hk5)
                      | (go_at_call 11; (with_reducible refine (HDo.out _ HD4.out).mono ?_); rintro e w5 ⟨dv', bv', rfl, hd5, hb5, hbl5⟩; obtain ⟨A5, c5, rfl⟩ := hd5.slice; obtain ⟨A6, c6, rfl⟩ := hb5.slice; have hk5 := HD4.out.trans (hbl5.mono HD4.out.size); obtain ⟨e4, e5, e6, e7, e8, b0, b1⟩ := HSt.out _ hk5; have ls5 := hk5.size; have nb1 : ¬ bb = w5.heap.size := (by omega); have nb2 : ¬ w5.heap.size = bb := (by omega); have nb3 : ¬ w.heap.size = w5.heap.size := (by omega); have nb4 : ¬ w5.heap.size = w.heap.size := (by omega); have ls6 : wR.heap.size + 2 ≤ w5.heap.size := (by have h6 := hbl5.size; simp at h6; omega); have nb5 : ¬ wR.heap.size = w5.heap.size := (by omega); have nb6 : ¬ w5.heap.size = wR.heap.size := (by omega); have nb7 : ¬ wR.heap.size + 1 = w5.heap.size := (by omega); have nb8 : ¬ w5.heap.size = wR.heap.size + 1 := (by omega); have hbxO := (hbl5.block (wR.heap.size) (by simp <;> omega)).trans (((((Below.refl _ _).alloc (Nat.le_refl _) (.cells #[.int .i64 0, .int .i64 0, .slice none 0 0] 26)) : Below (wR.alloc (.cells #[.bool false, .slice none 0 0] 38)).heap.size (wR.alloc (.cells #[.bool false, .slice none 0 0] 38)) ((wR.alloc (.cells #[.bool false, .slice none 0 0] 38)).alloc (.cells #[.int .i64 0, .int .i64 0, .slice none 0 0] 26))).block wR.heap.size (by simp)).trans (heap_alloc_new wR (.cells #[.bool false, .slice none 0 0] 38))); obtain ⟨y0, y1, yf⟩ := cells2O hbxO; obtain ⟨y0', y1', yf'⟩ := cells2O' hbxO; have HBxO := Lib.hid hbxO; clear hbxO; have hbxR := (hbl5.block (wR.heap.size + 1) (by simp <;> omega)).trans (new2 wR (.cells #[.bool false, .slice none 0 0] 38) (.cells #[.int .i64 0, .int .i64 0, .slice none 0 0] 26)); obtain ⟨z0, z1, z2, zf⟩ := cells3R hbxR; obtain ⟨z0', z1', z2', zf'⟩ := cells3R' hbxR; have HBxR := Lib.hid hbxR; clear hbxR; have H5 := Lib.hid (And.intro hd5 (And.intro hb5 (And.intro hbl5 hk5))); clear hd5 hb5 hbl5 hk5))
                  all_goals
                    go_wp2_with fail
                    go_meet
                    have hal5 := fun o => (Below.refl w5.heap.size w5).alloc (Nat.le_refl _) o
                    have hsz5 : wR.heap.size ≤ w5.heap.size := H5.out.2.2.2.size
                    first
                      | (with_reducible refine ⟨w5.heap.size, w5.heap.size + 1, .slice A5 DD.data.length c5, .slice A6 DD.b.length c6, rfl, rfl, ?_⟩; exact Lib.hid (fin_new1 H5.out.1 H5.out.2.1 H5.out.2.2.2))
                      | (with_reducible refine ⟨w5.heap.size + 1, w5.heap.size, .slice A5 DD.data.length c5, .slice A6 DD.b.length c6, rfl, rfl, ?_⟩; exact Lib.hid (fin_new2 H5.out.1 H5.out.2.1 H5.out.2.2.2))
                      | (with_reducible refine ⟨wR.heap.size, w5.heap.size, .slice A5 DD.data.length c5, .slice A6 DD.b.length c6, rfl, rfl, ?_⟩; exact Lib.hid (fin_sets (up_alloc _ HBxR.out) (heap_alloc_new w5 _) (Nat.le_refl _) hsz5 (H5.out.1.below (hal5 _)) (H5.out.2.1.below (hal5 _)) (H5.out.2.2.2.trans ((hal5 _).mono hsz5))))
                      | (with_reducible refine ⟨wR.heap.size, wR.heap.size + 1, .slice A5 DD.data.length c5, .slice A6 DD.b.length c6, rfl, rfl, ?_⟩; exact Lib.hid (fin_sets HBxR.out HBxO.out (Nat.le_refl _) (Nat.le_succ _) H5.out.1 H5.out.2.1 H5.out.2.2.2))
                      | (with_reducible refine ⟨w5.heap.size, wR.heap.size, .slice A5 DD.data.length c5, .slice A6 DD.b.length c6, rfl, rfl, ?_⟩; exact Lib.hid (fin_o (heap_alloc_new w5 _) (up_alloc _ HBxO.out) hsz5 (Nat.le_refl _) (H5.out.1.below (hal5 _)) (H5.out.2.1.below (hal5 _)) (H5.out.2.2.2.trans ((hal5 _).mono hsz5))))
                      | (with_reducible refine ⟨wR.heap.size + 1, wR.heap.size, .slice A5 DD.data.length c5, .slice A6 DD.b.length c6, rfl, rfl, ?_⟩; exact Lib.hid (fin_sets HBxR.out HBxO.out (Nat.le_succ _) (Nat.le_refl _) H5.out.1 H5.out.2.1 H5.out.2.2.2))
                case rest =>
                  obtain ⟨gp, gq, dv', bv', rfl, rfl, HX⟩ := hcut
                  obtain ⟨A7, c7, rfl⟩ := HX.out.2.2.2.2.1.slice
                  obtain ⟨A8, c8, rfl⟩ := HX.out.2.2.2.2.2.1.slice
                  have HW := Lib.hid (HR.out.1.trans (HX.out.2.2.2.2.2.2.mono HR.out.1.size))
                  have HSe : Hid (∀ W, Below wc.heap.size wc W → W.cell? ⟨bb, off + Q * 12, none⟩ = some (.int .i64 (l[k]'hk).kc) ∧ W.cell? ⟨bb, off + Q * 12 + 1, none⟩ = some (.int .i64 (l[k]'hk).ks) ∧ W.cell? ⟨db, Q, none⟩ = some (.bool false) ∧ W.frozen? ⟨db, Q, none⟩ = false) := fun W hW => by
                    have hb9 := HX.out.2.2.2.2.2.2.trans (hW.mono HX.out.2.2.2.2.2.2.size)
                    have t : ∀ bk o u, wR.cell? ⟨bk, o, none⟩ = some u → W.cell? ⟨bk, o, none⟩ = some u := fun bk o u hu => (hb9.cell (World.block_lt_of_cell? wR _ hu)).trans hu
                    refine ⟨t _ _ _ e0, t _ _ _ e1, t _ _ _ hdq, ?_⟩
                    have hbW := HR.out.1.trans (hb9.mono HR.out.1.size)
                    exact frozen_of_block ((hbW.block db (Array.getElem?_eq_some_iff.1 HD.out).1).trans HD.out) _
                  have hqe : endI (l[k]'hk).kc (l[k]'hk).ks (evsOf l) = ((Q + 1 : Nat) : Int) := by
                    have h1 : 2 * k + 1 < (evsOf l).length := by rw [evsOf_len]; omega
                    have h2 := find_end HL.out.1.apart hk
                    unfold endI
                    rw [h2, if_pos h1, HQe.out]
                  have HC : Hid (∀ W, Below w.heap.size w W → Calls Try.prog 37 #[.slice (some ⟨bb, off, none⟩) j cv, .agg #[.int .i64 (l[k]'hk).kc, .int .i64 (l[k]'hk).ks]] W fun e w' => e = .returned (.int .i64 ((Q + 1 : Nat) : Int)) ∧ Below W.heap.size W w') := fun W hb => by
                    have := HEnd.out (l[k]'hk).kc (l[k]'hk).ks W hb
                    rw [hqe] at this
                    exact this
                  obtain ⟨q0, q1, _, _⟩ := HSe.out _ (Below.refl _ _)
                  obtain ⟨P, hP⟩ : ∃ P : Nat, P = Q + 1 := ⟨_, rfl⟩
                  rw [← hP] at HC
                  have HP := Lib.hid hP
                  clear e0 e1 e2 e3 e4 e5 e6 e7 e8 e9 e10 e11 b0 b1 hbx hlt1 hlt2 hqe hdq hP
                  go_upto_region 20 with (go_at_call 37; (with_reducible refine (HC.out _ HW.out).mono ?_); rintro e w6 ⟨rfl, hb6⟩; have HB6 := Lib.hid hb6; clear hb6)
                  have HK0 : Hid (NextK l s m k) := by have := HL.out.2.1; rw [hKe] at this; exact this
                  have hP6 : P < (evsOf l).length := by have := HP.out; have := HQe.out; rw [evsOf_len]; omega
                  have HW6 := Lib.hid (HW.out.trans (HB6.out.mono HW.out.size))
                  obtain ⟨b2, o2, c2, hv2, hat2⟩ := (HV.out.below HW6.out).at_ hP6
                  obtain ⟨rfl, rfl⟩ : bb = b2 ∧ off = o2 := by
                    rw [Value.slice.injEq, Option.some.injEq, Addr.mk.injEq] at hv2
                    exact ⟨hv2.1.1, hv2.1.2.1⟩
                  have hy := evsOf_en l k hk
                  rw [HQe.out, ← HP.out, List.getElem?_eq_getElem hP6, Option.some.injEq] at hy
                  rw [hy] at hat2
                  obtain ⟨_, _, rA9, rc9, ⟨_, _, _, g3, _, _, _, _, _, g9, g10, g11⟩, _, hrr⟩ := hat2.cells
                  simp only [enE] at g3 g9 g10 g11 hrr
                  have hR6 := (HB6.out.block gp (Array.getElem?_eq_some_iff.1 HX.out.1).1).trans HX.out.1
                  obtain ⟨z0, z1, z2, _⟩ := cells3R hR6
                  have HSame : Hid (∀ W, Below w6.heap.size w6 W → Calls Try.prog 18 #[.agg #[.int .i64 DD.code, .int .i64 DD.size, .slice A7 DD.data.length c7], .agg #[.int .i64 (l[k]'hk).r.code, .int .i64 (l[k]'hk).r.size, .slice rA9 (l[k]'hk).r.d.length rc9]] W fun e w' => e = .returned (.bool sm) ∧ Below W.heap.size W w') := fun W hW => by
                    have := rsame_any (repOf DD) (l[k]'hk).r (.slice A7 DD.data.length c7) (.slice rA9 (l[k]'hk).r.d.length rc9) W ((HX.out.2.2.2.2.1.below HB6.out).below hW) (hrr.below hW)
                    unfold repV at this
                    rw [HSm.out] at this
                    exact this
                  have HSc : Hid (∀ W, Below w6.heap.size w6 W → W.cell? ⟨bb, off + P * 12 + 3, none⟩ = some (.bool false) ∧ W.cell? ⟨bb, off + P * 12 + 9, none⟩ = some (.int .i64 (l[k]'hk).r.code) ∧ W.cell? ⟨bb, off + P * 12 + 10, none⟩ = some (.int .i64 (l[k]'hk).r.size) ∧ W.cell? ⟨bb, off + P * 12 + 11, none⟩ = some (.slice rA9 (l[k]'hk).r.d.length rc9) ∧ W.cell? ⟨gp, 0, none⟩ = some (.int .i64 DD.code) ∧ W.cell? ⟨gp, 1, none⟩ = some (.int .i64 DD.size) ∧ W.cell? ⟨gp, 2, none⟩ = some (.slice A7 DD.data.length c7)) := fun W hW => by
                    have t : ∀ bk o u, w6.cell? ⟨bk, o, none⟩ = some u → W.cell? ⟨bk, o, none⟩ = some u := fun bk o u hu => (hW.cell (World.block_lt_of_cell? w6 _ hu)).trans hu
                    exact ⟨t _ _ _ g3, t _ _ _ g9, t _ _ _ g10, t _ _ _ g11, t _ _ _ z0, t _ _ _ z1, t _ _ _ z2⟩
                  have HD6 : Hid (Below w6.heap.size w6 w6.drew) := (Below.refl _ _).drew
                  have kp0 : (0 : Int) ≤ (P : Int) := by omega
                  have kpj : (P : Int) < (j : Int) := by have := HL.out.2.2.1; omega
                  clear hv2 hat2 hy hrr hR6 hP6
                  go_region_held3 (fun W => W.cell? ⟨bb, off + P * 12 + 3, none⟩ = some (.bool false) ∧ W.cell? ⟨bb, off + P * 12 + 9, none⟩ = some (.int .i64 (l[k]'hk).r.code) ∧ W.cell? ⟨bb, off + P * 12 + 10, none⟩ = some (.int .i64 (l[k]'hk).r.size) ∧ W.cell? ⟨bb, off + P * 12 + 11, none⟩ = some (.slice rA9 (l[k]'hk).r.d.length rc9) ∧ W.cell? ⟨gp, 0, none⟩ = some (.int .i64 DD.code) ∧ W.cell? ⟨gp, 1, none⟩ = some (.int .i64 DD.size) ∧ W.cell? ⟨gp, 2, none⟩ = some (.slice A7 DD.data.length c7)) (go_keep)
                    ((go_at_call 18; (with_reducible refine (HSame.out _ HD6.out).mono ?_); rintro e w7 ⟨rfl, hb7⟩; have hbx7 := HD6.out.trans (hb7.mono HD6.out.size); obtain ⟨g3, g9, g10, g11, z0, z1, z2⟩ := HSc.out _ hbx7; have HB7 := Lib.hid (HB6.out.trans (hbx7.mono HB6.out.size)); clear hb7 hbx7))
                  have hbW7 := HW.out.trans (HB7.out.mono HW.out.size)
                  have HW7 := Lib.hid hbW7
                  obtain ⟨_, _, d0, df⟩ := HSe.out _ HB7.out
                  cases sm with
                  | false =>
                    have HHQ : Hid ((false && r1) = false) := rfl
                    clear g3 g9 g10 g11 z0 z1 z2 d0 df hbW7 q0 q1
                    go_wp2_with fail
                    go_roundw
                    case rel => exact ⟨Q + 1, by go_num, Nat.le_refl _, .inr ⟨rfl, HHQ.out, HW7.out⟩⟩
                    case measure => simp [intOf]
                  | true =>
                    have hst := HB7.out
                    have hd8 := dn_set8 HK0.out HD.out hbW7
                    have hd7 := (hbW7.block db (Array.getElem?_eq_some_iff.1 HD.out).1).trans HD.out
                    have hev8 := dn_evs (hd7) ((HV.out).below hbW7) (2 * k) (.bool true)
                    have hb8 := dn_reads hd7 ((HX.out.2.2.2.2.2.1).below HB7.out) (2 * k) (.bool true)
                    have hdb : db < w.heap.size := (Array.getElem?_eq_some_iff.1 HD.out).1
                    have hgq : gq ≠ db := by
                      have h1 := HX.out.2.2.2.1
                      have h2 := HR.out.1.size
                      omega
                    have ho8 := (Below.heap_setCell w7 ⟨db, 2 * k, none⟩ (.bool true) gq hgq).trans ((HB7.out.block gq (Array.getElem?_eq_some_iff.1 HX.out.2.1).1).trans HX.out.2.1)
                    have HBk : Hid (∀ W9, Below (w7.setCell ⟨db, 2 * k, none⟩ (.bool true)).heap.size (w7.setCell ⟨db, 2 * k, none⟩ (.bool true)) W9 → Below w.heap.size w (W9.setCell ⟨db, 2 * k, none⟩ (.bool false)) ∧ W9.cell? ⟨db, 2 * k, none⟩ = some (.bool true) ∧ W9.frozen? ⟨db, 2 * k, none⟩ = false) := fun W9 h9 => by
                      have e9 := (h9.block db (Array.getElem?_eq_some_iff.1 hd8).1).trans hd8
                      refine ⟨dn_back_below HK0.out HD.out hbW7 h9, ?_, frozen_of_block e9 _⟩
                      rw [cell_of_row _ _ (2 * k) _ _ _ e9, dnA_at (by omega)]
                      have : dneB l s (k + 1) (2 * k) = true := by
                        unfold dneB
                        rw [show 2 * k / 2 = k by omega, List.getElem?_eq_getElem hk]
                        simp only [decide_eq_true_eq]
                        exact ⟨by omega, by omega, HNm.out⟩
                      rw [this]
                    rw [HQe.out] at hd8 hev8 hb8 ho8 HBk
                    have hN9 : j = (evsOf l).length := HL.out.2.2.1
                    rw [← hN9] at hev8
                    have HGo := Lib.hid (HI.out rfl _ _ hev8 hd8 hb8)
                    obtain ⟨y0, y1, _⟩ := cells2O ho8
                    clear hst hd8 hev8 hb8 hd7 hgq ho8 hdb hbW7 hN9 g3 g9 g10 g11 z0 z1 z2 q0 q1
                    go_upto_region 22 with (fail)
                    obtain ⟨w8, hw8⟩ : ∃ w8, w8 = w7.setCell ⟨db, Q, none⟩ (.bool true) := ⟨_, rfl⟩
                    rw [← hw8] at HGo HBk y0 y1 ⊢
                    clear hw8 d0 df
                    go_upto_region 24 with (go_at_call 28; (with_reducible refine HGo.out.mono ?_); rintro e w9 ⟨rfl, hb9⟩; obtain ⟨hb10, d0, df⟩ := HBk.out _ hb9; have HB10 := Lib.hid hb10; clear hb9 hb10)
                    cases r1 with
                    | false =>
                      go_wp2_with fail
                      go_roundw
                      case rel => exact ⟨Q + 1, by go_num, Nat.le_refl _, .inr ⟨rfl, rfl, HB10.out⟩⟩
                      case measure => simp [intOf]
                    | true =>
                      go_wp2_with fail
                      go_ret
                      exact ⟨rfl, HB10.out⟩
            · have hn1 : ((l[k]'hk).c.s.toList == s.toList) = false := by
                rw [beq_eq_false_iff_ne]
                intro h
                rw [ByteArray.toList_eq, ByteArray.toList_eq] at h
                exact hnm (ByteArray.ext (Array.toList_inj.1 h)).symm
              have hk9 : 2 * k + 1 ≤ 2 * k0 := by
                have h9 : NextK l s m k0 := by have := HL.out.2.1; rw [hKe] at this; exact this
                have hkk : k ≠ k0 := by rintro rfl; exact hnm h9.2.2.1
                omega
              clear hx hvv hact hdq hnm
              go_wp2_with fail
              go_roundw
              case rel => exact ⟨2 * k + 1, by go_num, by omega, .inl ⟨hk9, HR.out⟩⟩
              case measure => simp [intOf]; omega
          · obtain ⟨k, rfl⟩ : ∃ k, q = 2 * k + 1 := ⟨q / 2, by omega⟩
            have hk : k < l.length := by have := HL.out.2.2.2; omega
            have hx := evsOf_en l k hk
            rw [List.getElem?_eq_getElem hqx, Option.some.injEq] at hx
            rw [hx] at e0 e1 e2 e3 e4 e5 e6 e7 e8 e9 e10 e11
            simp only [enE] at e0 e1 e2 e3 e4 e5 e6 e7 e8 e9 e10 e11
            clear hx hvv hact hdq
            go_wp2_with fail
            go_roundw
            case rel => exact ⟨2 * k + 1 + 1, by go_num, by omega, .inl ⟨by omega, HR.out⟩⟩
            case measure => simp [intOf]; omega
        · have kq1 : ¬ (q : Int) < ((2 * k0 + 1 : Nat) : Int) := by omega
          have HF : Hid ((sm && r1) = false ∧ Below w.heap.size w wR) := by
            rcases HQ.out with h | h
            · exact absurd h.1 (by omega)
            · exact h.2
          go_wp2_with fail
          go_ret
          exact ⟨by rw [HF.out.1]; rfl, HF.out.2⟩
end Go.Proofs.Ytbbbdhpihcbmmaa
