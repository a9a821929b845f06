/- The walk of the reference's goes: nobody of the name is left. The row of what is done is no other's. The walk of the reference's goes: the first loop. -/
import Derived.Test.YtbbbdhpihcbmmaaGSeq
import Derived.Test.YtbbbdhpihcbmmaaPREnd
import Derived.Test.YtbbbdhpihcbmmaaPSame
import Derived.Test.YtbbbdhpihcbmmaaPRDo4
import Derived.Deep.Cut
import Derived.Test.YtbbbdhpihcbmmaaPBox
namespace Go.Proofs.Ytbbbdhpihcbmmaa
open Go.RowKit Own

/-- where the first loop stands -/
def ffn (K : Option Nat) (N j : Nat) : Nat := match K with | some k => if 2 * k < j then 2 * k + 1 else N | none => N
def lfn (K : Option Nat) (j : Nat) : Bool := match K with | some k => decide (2 * k < j) | none => false
def IsK (l : List OE) (s : ByteArray) (m : Nat) (K : Option Nat) : Prop := match K with | some k => NextK l s m k | none => NoneK l s m
theorem isK_or (l : List OE) (s : ByteArray) (m : Nat) : ∃ K, IsK l s m K := by
  rcases next_or l s _ m rfl with h | ⟨k, h⟩
  · exact ⟨none, h⟩
  · exact ⟨some k, h⟩
/-- an event that is passed over turns nothing -/
theorem ffn_skip {l : List OE} {s : ByteArray} {m N j : Nat} {K : Option Nat} (h : IsK l s m K) (hj : j % 2 = 1 ∨ ∀ hk : j / 2 < l.length, s ≠ (l[j / 2]'hk).c.s ∨ j / 2 < m) : ffn K N (j + 1) = ffn K N j ∧ lfn K (j + 1) = lfn K j := by
  cases K with
  | none => exact ⟨rfl, rfl⟩
  | some k =>
    obtain ⟨hm, hk, hs, _⟩ := h
    have hne : 2 * k ≠ j := by
      rintro rfl
      rcases hj with h1 | h1
      · omega
      · have h2 := h1 (by omega)
        have e : 2 * k / 2 = k := by omega
        simp only [e] at h2
        rcases h2 with h3 | h3
        · exact h3 hs
        · omega
    show (if 2 * k < j + 1 then 2 * k + 1 else N) = (if 2 * k < j then 2 * k + 1 else N) ∧ decide (2 * k < j + 1) = decide (2 * k < j)
    constructor
    · by_cases h1 : 2 * k < j
      · rw [if_pos h1, if_pos (by omega)]
      · rw [if_neg h1, if_neg (by omega)]
    · by_cases h1 : 2 * k < j
      · rw [decide_eq_true h1, decide_eq_true (by omega)]
      · rw [decide_eq_false h1, decide_eq_false (by omega)]
theorem ffn_hit {l : List OE} {s : ByteArray} {m N k : Nat} {K : Option Nat} (h : IsK l s m K) (hk : k < l.length) (hN : N = 2 * l.length) (hs : s = (l[k]'hk).c.s) (hm : m ≤ k) : lfn K (2 * k + 1) = true ∧ ((2 * k + 1 < ffn K N (2 * k) ∧ ffn K N (2 * k + 1) = 2 * k + 1) ∨ (¬ 2 * k + 1 < ffn K N (2 * k) ∧ ffn K N (2 * k + 1) = ffn K N (2 * k))) := by
  cases K with
  | none => exact absurd hs (h k hk hm)
  | some q =>
    obtain ⟨hmq, hq, hsq, hno⟩ := h
    have hle : q ≤ k := by
      rcases Nat.lt_or_ge k q with h1 | h1
      · exact absurd hs (hno k hk hm h1)
      · exact h1
    unfold ffn lfn
    refine ⟨decide_eq_true (by omega), ?_⟩
    by_cases h1 : q = k
    · subst h1
      left
      simp only []
      rw [if_neg (by omega), if_pos (by omega)]
      exact ⟨by omega, rfl⟩
    · right
      simp only []
      rw [if_pos (by omega), if_pos (by omega)]
      exact ⟨by omega, rfl⟩
end Go.Proofs.Ytbbbdhpihcbmmaa
namespace Go.Proofs.Ytbbbdhpihcbmmaa
open Go.RowKit Own

section
variable {l : List OE} {s : ByteArray} {m db : Nat} {w : World}
theorem dn_far (hd : w.heap[db]? = some (.cells (dnA l s m) 4 (0, 0))) {ad : Addr} {k : IntKind} {y : Int} (h : w.cell? ad = some (.int k y)) : ad.block ≠ db := by
  obtain ⟨b, o, sp⟩ := ad
  have hsp : sp = none := by simpa using World.cell?_spot h
  subst hsp
  intro e
  simp only [] at e
  subst e
  rw [cell_of_row _ _ o _ _ _ hd] at h
  by_cases ho : o < 2 * l.length
  · rw [dnA_at ho] at h; cases h
  · rw [Array.getElem?_eq_none (by simp [dnA]; omega)] at h; cases h
theorem dn_reads (hd : w.heap[db]? = some (.cells (dnA l s m) 4 (0, 0))) {v : Value} {b : List UInt8} (h : ReadsB w v b) (j : Nat) (u : Value) : ReadsB (w.setCell ⟨db, j, none⟩ u) v b := by
  rcases h with h | ⟨a, c, hv, hc⟩
  · exact .inl h
  · refine .inr ⟨a, c, hv, fun i x hx => ?_⟩
    have h1 := hc i x hx
    have hx2 : ∃ y, x = .int .u8 y := by
      simp only [u8s, List.getElem?_map, Option.map_eq_some_iff] at hx
      obtain ⟨q, _, rfl⟩ := hx
      exact ⟨_, rfl⟩
    obtain ⟨y, rfl⟩ := hx2
    rw [dn_cell (dn_far hd h1)]; exact h1
theorem dn_evs (hd : w.heap[db]? = some (.cells (dnA l s m) 4 (0, 0))) {v : Value} {xs : List EvIn} (h : ReadsEvs w v xs) (j : Nat) (u : Value) : ReadsEvs (w.setCell ⟨db, j, none⟩ u) v xs := by
  rcases h with h | ⟨b, off, c, hv, hc⟩
  · exact .inl h
  · refine .inr ⟨b, off, c, hv, fun i hi => ?_⟩
    obtain ⟨dv, rv, h0, h1, h2⟩ := hc i hi
    have hne : b ≠ db := dn_far hd (h0 0 _ rfl)
    exact ⟨dv, rv, fun q x hx => by rw [dn_cell (ad := ⟨b, off + i * 12 + q, none⟩) hne]; exact h0 q x hx, dn_reads hd h1 j u, dn_reads hd h2 j u⟩
end
end Go.Proofs.Ytbbbdhpihcbmmaa
namespace Go.Proofs.Ytbbbdhpihcbmmaa
open Go.RowKit Own

set_option maxHeartbeats 4000000 in
set_option maxRecDepth 100000 in
theorem rgoes_none (l : List OE) (hl : OkL l) (Av : Option Addr) (cv : Nat) (s : ByteArray) (db m : Nat) (hK : NoneK l s m) (has : Bool) (b : List UInt8) (bv : Value) (w : World)
    (hv : ReadsEvs w (.slice Av (evsOf l).length cv) (evsOf l)) (hd : w.heap[db]? = some (.cells (dnA l s m) 4 (0, 0))) (hb : ReadsB w bv b) :
    Calls Try.prog 28 #[.slice Av (evsOf l).length cv, .string s, .slice (some ⟨db, 0, none⟩) (evsOf l).length (evsOf l).length, .agg #[.bool has, bv]] w fun e w' => e = .returned (.bool true) ∧ Below w.heap.size w w' := by
  obtain ⟨K, hKe, hK⟩ : ∃ K : Option Nat, K = none ∧ IsK l s m K := ⟨none, rfl, hK⟩
  obtain ⟨N, hN⟩ : ∃ N, N = (evsOf l).length := ⟨_, rfl⟩
  obtain ⟨bA, bn, bc, rfl⟩ : ∃ A n c, bv = .slice A n c := by obtain ⟨A, c, h⟩ := hb.slice; exact ⟨A, _, c, h⟩
  have hN2 : N = 2 * l.length := by rw [hN, evsOf_len]
  have hN64 : (N : Int) ≤ 64 := by have := hl.n; omega
  have HV := Lib.hid hv
  have HD := Lib.hid hd
  have HL := Lib.hid (And.intro hl (And.intro hK (And.intro hN hN2)))
  have HEnd : Hid (∀ (kc ks : Int) (W : World), Below w.heap.size w W → Calls Try.prog 37 #[.slice Av N cv, .agg #[.int .i64 kc, .int .i64 ks]] W fun e w' => e = .returned (.int .i64 (endI kc ks (evsOf l))) ∧ Below W.heap.size W w') := fun kc ks W hb => by
    have := rend_any kc ks (.slice Av (evsOf l).length cv) (evsOf l) W (hv.below hb) (by rw [evsOf_len]; have := hl.n; omega)
    rw [← hN] at this
    exact this
  have HS : Hid (Below w.heap.size w (w.alloc (.cells #[.bool has, .slice bA bn bc] 38)) ∧ (w.alloc (.cells #[.bool has, .slice bA bn bc] 38)).heap[w.heap.size]? = some (.cells #[.bool has, .slice bA bn bc] 38 (0, 0))) := ⟨(Below.refl _ _).alloc (Nat.le_refl _) _, heap_alloc_new w _⟩
  rw [← hN]
  clear hv hd hb hK hl hN hN2
  go_enter Try.func28, Try.ntmps28
  go_wp2_with fail
  go_loopw [9, 10, 11] (fun fi le i wr => ∃ j : Nat, i = .int .i64 j ∧ fi = .int .i64 (ffn K N j) ∧ le = .bool (lfn K j) ∧ j ≤ N ∧ Hid (Below w.heap.size w wr ∧ wr.heap[w.heap.size]? = some (.cells #[.bool has, .slice bA bn bc] 38 (0, 0)))) (fun _ _ i _ => N - (intOf i).toNat)
  case atStart => exact ⟨0, rfl, by cases K <;> simp [ffn], by cases K <;> simp [lfn], Nat.zero_le _, HS.out⟩
  case round =>
    obtain ⟨j, rfl, rfl, rfl, hj, HBX⟩ := hrel
    have HB := Lib.hid HBX.out.1
    obtain ⟨wL, rfl⟩ : ∃ wo : World, wo = wr := ⟨_, rfl⟩
    by_cases hlt : j < N
    · have k1 : (j : Int) < (N : Int) := by omega
      have k0 : (0 : Int) ≤ (j : Int) := by omega
      have hjx : j < (evsOf l).length := by have := HL.out.2.2.1; omega
      obtain ⟨bb, off, cc, hvv, hact⟩ := (HV.out.below HB.out).at_ hjx
      obtain ⟨rfl, rfl⟩ : Av = some ⟨bb, off, none⟩ ∧ cv = cc := by
        rw [Value.slice.injEq] at hvv
        exact ⟨hvv.1, hvv.2.2⟩
      have hq : wL.cell? ⟨db, j, none⟩ = some (.bool (dneB l s m j)) := by
        have h1 : w.cell? ⟨db, j, none⟩ = some (.bool (dneB l s m j)) := by
          rw [cell_of_row _ _ j _ _ _ HD.out]; exact dnA_at (by have := HL.out.2.2.2; omega)
        exact (HB.out.cell (p := ⟨db, j, none⟩) (World.block_lt_of_cell? w _ h1)).trans h1
      obtain ⟨dA, dc, rA, rc, ⟨e0, e1, e2, e3, e4, e5, e6, e7, e8, e9, e10, e11⟩, _, _⟩ := hact.cells
      rcases Nat.mod_two_eq_zero_or_one j with hpar | hpar
      · obtain ⟨k, rfl⟩ : ∃ k, j = 2 * k := ⟨j / 2, by omega⟩
        have hk : k < l.length := by have := HL.out.2.2.2; omega
        have hx := evsOf_bg l k hk
        rw [List.getElem?_eq_getElem hjx, Option.some.injEq] at hx
        rw [hx] at e0 e1 e2 e3 e4 e5 e6 e7 e8 e9 e10 e11
        simp only [bgE] at e0 e1 e2 e3 e4 e5 e6 e7 e8 e9 e10 e11
        have h2k : 2 * k / 2 = k := by omega
        by_cases hnm : s = (l[k]'hk).c.s
        · have hdn : dneB l s m (2 * k) = decide (k < m) := by
            unfold dneB
            rw [h2k, List.getElem?_eq_getElem hk]
            simp only [decide_eq_decide]
            exact ⟨fun h => h.2.1, fun h => ⟨by omega, h, hnm⟩⟩
          by_cases hkm : k < m
          · have hsk := ffn_skip (N := N) (j := 2 * k) HL.out.2.1 (.inr fun _ => .inr (by rw [h2k]; exact hkm))
            have HSk := Lib.hid hsk
            rw [hdn, decide_eq_true hkm] at hq
            rw [← hnm] at e5
            clear hsk hx hvv hact hdn hnm
            go_wp2_with fail
            go_roundw
            case rel => exact ⟨2 * k + 1, by go_num, by rw [HSk.out.1], by rw [HSk.out.2], by omega, HBX.out⟩
            case measure => simp [intOf]; omega
          · have hht := ffn_hit HL.out.2.1 hk HL.out.2.2.2 hnm (Nat.le_of_not_lt hkm)
            have hfe := find_end HL.out.1.apart hk
            have hqe : endI (l[k]'hk).kc (l[k]'hk).ks (evsOf l) = ((2 * k + 1 : Nat) : Int) := by
              have h1 : 2 * k + 1 < (evsOf l).length := by rw [evsOf_len]; omega
              unfold endI
              rw [hfe, if_pos h1]
            have HC : Hid (∀ W, Below w.heap.size w W → Calls Try.prog 37 #[.slice (some ⟨bb, off, none⟩) N cv, .agg #[.int .i64 (l[k]'hk).kc, .int .i64 (l[k]'hk).ks]] W fun e w' => e = .returned (.int .i64 ((2 * k + 1 : Nat) : Int)) ∧ Below W.heap.size W w') := fun W hb => by
              have := HEnd.out (l[k]'hk).kc (l[k]'hk).ks W hb
              rw [hqe] at this
              exact this
            have hxe : ∃ u, ∀ W, Below w.heap.size w W → W.cell? ⟨bb, off + (2 * k + 1) * 12 + 3, none⟩ = some (.bool false) ∧ u = () := by
              have hjy : 2 * k + 1 < (evsOf l).length := by rw [evsOf_len]; omega
              refine ⟨(), fun W hb => ?_⟩
              obtain ⟨b2, o2, c2, hv2, hat2⟩ := (HV.out.below hb).at_ hjy
              have hy := evsOf_en l k hk
              rw [List.getElem?_eq_getElem hjy, Option.some.injEq] at hy
              obtain ⟨_, _, _, _, ⟨_, _, _, g3, _⟩, _, _⟩ := hat2.cells
              rw [Value.slice.injEq, Option.some.injEq, Addr.mk.injEq] at hv2
              obtain ⟨⟨rfl, rfl, _⟩, _, _⟩ := hv2
              rw [hy] at g3
              exact ⟨g3, rfl⟩
            obtain ⟨_, hxe⟩ := hxe
            have HXe := Lib.hid hxe
            rw [hdn, decide_eq_false hkm] at hq
            rw [← hnm] at e5
            have kN1 : ((2 * k + 1 : Nat) : Int) < (N : Int) := by have := HL.out.2.2.2; omega
            have kN0 : (0 : Int) ≤ ((2 * k + 1 : Nat) : Int) := by omega
            generalize hFF : ffn K N (2 * k) = F0 at *
            generalize hLL : lfn K (2 * k) = L0 at *
            obtain ⟨Q, hQ⟩ : ∃ Q : Nat, Q = 2 * k + 1 := ⟨_, rfl⟩
            rw [← hQ] at kN1 kN0 HC HXe hht
            have HQ := Lib.hid hQ
            have HHt := Lib.hid hht.1
            rcases hht.2 with ⟨hlt9, hFn⟩ | ⟨hlt9, hFn⟩
            · have k9 : (Q : Int) < (F0 : Int) := by omega
              have HFn := Lib.hid hFn
              clear hht hx hvv hact hdn hnm hfe hqe hxe hFn hlt9 hQ
              go_wp2_with (go_at_call 37; (with_reducible refine (HC.out _ HB.out).mono ?_); rintro e w3 ⟨rfl, hb3⟩; have HB3 := Lib.hid (And.intro (HB.out.trans (hb3.mono HB.out.size)) ((hb3.block _ (Array.getElem?_eq_some_iff.1 HBX.out.2).1).trans HBX.out.2)); have g3 := (HXe.out _ HB3.out.1).1; clear hb3)
              go_roundw
              case rel => exact ⟨Q, by rw [HQ.out]; go_num, by rw [HFn.out], by rw [HHt.out], by have := HL.out.2.2.2; have := HQ.out; omega, HB3.out⟩
              case measure => simp [intOf]; omega
            · have k9 : ¬ (Q : Int) < (F0 : Int) := by omega
              have HFn := Lib.hid hFn
              clear hht hx hvv hact hdn hnm hfe hqe hxe hFn hlt9 hQ
              go_wp2_with (go_at_call 37; (with_reducible refine (HC.out _ HB.out).mono ?_); rintro e w3 ⟨rfl, hb3⟩; have HB3 := Lib.hid (And.intro (HB.out.trans (hb3.mono HB.out.size)) ((hb3.block _ (Array.getElem?_eq_some_iff.1 HBX.out.2).1).trans HBX.out.2)); have g3 := (HXe.out _ HB3.out.1).1; clear hb3)
              go_roundw
              case rel => exact ⟨Q, by rw [HQ.out]; go_num, by rw [HFn.out], by rw [HHt.out], by have := HL.out.2.2.2; have := HQ.out; omega, HB3.out⟩
              case measure => simp [intOf]; omega
        · have hsk := ffn_skip (N := N) (j := 2 * k) HL.out.2.1 (.inr fun _ => .inl (by simp only [h2k]; exact hnm))
          have HSk := Lib.hid hsk
          have hn1 : ((l[k]'hk).c.s.toList == s.toList) = false := by
            rw [beq_eq_false_iff_ne]
            intro h
            rw [ByteArray.toList_eq, ByteArray.toList_eq] at h
            exact hnm (ByteArray.ext (Array.toList_inj.1 h)).symm
          clear hsk hx hvv hact hq hnm
          go_wp2_with fail
          go_roundw
          case rel => exact ⟨2 * k + 1, by go_num, by rw [HSk.out.1], by rw [HSk.out.2], by omega, HBX.out⟩
          case measure => simp [intOf]; omega
      · obtain ⟨k, rfl⟩ : ∃ k, j = 2 * k + 1 := ⟨j / 2, by omega⟩
        have hk : k < l.length := by have := HL.out.2.2.2; omega
        have hx := evsOf_en l k hk
        rw [List.getElem?_eq_getElem hjx, Option.some.injEq] at hx
        have hsk := ffn_skip (N := N) (j := 2 * k + 1) HL.out.2.1 (.inl hpar)
        rw [hx] at e0 e1 e2 e3 e4 e5 e6 e7 e8 e9 e10 e11
        simp only [enE] at e0 e1 e2 e3 e4 e5 e6 e7 e8 e9 e10 e11
        have HSk := Lib.hid hsk
        clear hsk hx hvv hact hq
        go_wp2_with fail
        go_roundw
        case rel => exact ⟨2 * k + 1 + 1, by go_num, by rw [HSk.out.1], by rw [HSk.out.2], by omega, HBX.out⟩
        case measure => simp [intOf]; omega
    · have k1 : ¬ (j : Int) < (N : Int) := by omega
      subst hKe
      simp only [lfn, ffn]
      go_wp2_with fail
      go_ret
      exact ⟨rfl, HBX.out.1⟩
end Go.Proofs.Ytbbbdhpihcbmmaa
