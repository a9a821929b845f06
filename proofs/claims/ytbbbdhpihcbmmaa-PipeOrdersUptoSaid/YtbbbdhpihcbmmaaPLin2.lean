/- Orders' goes: the walk. -/
import Derived.Test.YtbbbdhpihcbmmaaGLin
import Derived.Deep.RegionHeld3
import Derived.Deep.Cut
import Derived.Deep.CutRange
import Derived.Deep.CutBlock
namespace Go.Proofs.Ytbbbdhpihcbmmaa
open Go.RowKit Own
open Go.Maps (Keyed)

/-- the loop for the end: what is known of the first q -/
def EndSt (L : List SpIn) (D q : Nat) (E : Int) (l : Bool) : Prop :=
  (l = false ∧ E = 4611686018427387904 ∧ ∀ (j : Nat) (hj : j < L.length), j < q → undone D j → (L[j]'hj).known = false) ∨
  (l = true ∧ E ≤ 100 ∧ (∀ (j : Nat) (hj : j < L.length), j < q → undone D j → (L[j]'hj).known = true → E ≤ (L[j]'hj).to) ∧ ∃ (j : Nat) (hj : j < L.length), j < q ∧ undone D j ∧ (L[j]'hj).known = true ∧ E = (L[j]'hj).to)

theorem doR_dl (c : CallIn) (has : Bool) (b : List UInt8) (hb : b.length ≤ 4096) : (doR c has b).data.length ≤ 140737488351232 := by
  have hB : (if has = true then b else []).length ≤ 4096 := by
    split
    · exact hb
    · simp
  unfold doR
  simp only []
  generalize (if has = true then b else []) = l at *
  repeat' split
  all_goals first
    | exact Nat.zero_le _
    | (simp only [List.length_take, List.length_drop]; omega)
/-- the loop of tries -/
def LS (mc lc gc mm g cap : Nat) (LV : List SpV) (M : List St) (D : Nat) (has : Bool) (b : List UInt8) (w : World) (q : Nat) (wr : World) : Prop :=
  ∃ n f M', GG mc lc gc mm n f g cap LV wr ∧ SK f M' ∧ Chg [mm] w wr ∧ wr.heap[w.heap.size]? = some (.cells #[.int .u64 D, .bool has, .string ⟨b.toArray⟩] 80 (0, 0)) ∧ (∀ t ∈ M', t ∈ M ∨ t = (D, has, b) ∨ ¬ Goes (LV.map Prod.fst) t.1 t.2.1 t.2.2) ∧
    ∀ (j : Nat) (hj : j < (LV.map Prod.fst).length), j < q → May1 (LV.map Prod.fst) D j → FitR ((LV.map Prod.fst)[j]'hj) has b → ¬ Goes (LV.map Prod.fst) (D ||| 1 <<< j) (doR ((LV.map Prod.fst)[j]'hj).call has b).has (doR ((LV.map Prod.fst)[j]'hj).call has b).b
theorem EndSt.skip {L : List SpIn} {D q : Nat} {E : Int} {l : Bool} (h : EndSt L D q E l) (hq : undone D q → ∀ hj : q < L.length, (L[q]'hj).known = false) : EndSt L D (q + 1) E l := by
  have case_ : ∀ (j : Nat), j < q + 1 → j < q ∨ j = q := fun j hj => by omega
  rcases h with ⟨h1, h2, h3⟩ | ⟨h1, h2, h3, j, hj, h4⟩
  · refine .inl ⟨h1, h2, fun j hj hlt hu => ?_⟩
    rcases case_ j hlt with h | rfl
    · exact h3 j hj h hu
    · exact hq hu hj
  · refine .inr ⟨h1, h2, fun i hi hlt hu hk => ?_, j, hj, by omega, h4.2⟩
    rcases case_ i hlt with h | rfl
    · exact h3 i hi h hu hk
    · rw [hq hu hi] at hk; cases hk
theorem EndSt.take {L : List SpIn} {D q : Nat} {E : Int} {l : Bool} (h : EndSt L D q E l) (hq : q < L.length) (hu : undone D q) (hk : (L[q]'hq).known = true) (ht : (L[q]'hq).to ≤ 100) : EndSt L D (q + 1) (if ((L[q]'hq).to : Int) < E then ((L[q]'hq).to : Int) else E) true := by
  have case_ : ∀ (j : Nat), j < q + 1 → j < q ∨ j = q := fun j hj => by omega
  generalize hz : (if ((L[q]'hq).to : Int) < E then ((L[q]'hq).to : Int) else E) = z
  have hm : (z = E ∧ E ≤ ((L[q]'hq).to : Int)) ∨ (z = ((L[q]'hq).to : Int) ∧ ((L[q]'hq).to : Int) ≤ E) := by
    by_cases h : ((L[q]'hq).to : Int) < E
    · rw [if_pos h] at hz; omega
    · rw [if_neg h] at hz; omega
  clear hz
  rcases h with ⟨h1, h2, h3⟩ | ⟨h1, h2, h3, j, hj, h4⟩
  · refine .inr ⟨rfl, by omega, fun i hi hlt hui hki => ?_, q, hq, by omega, hu, hk, by omega⟩
    rcases case_ i hlt with h | rfl
    · rw [h3 i hi h hui] at hki; cases hki
    · omega
  · rcases hm with ⟨e, hle⟩ | ⟨e, hle⟩
    · rw [e]
      refine .inr ⟨rfl, h2, fun i hi hlt hui hki => ?_, j, hj, by omega, h4.2⟩
      rcases case_ i hlt with h | rfl
      · exact h3 i hi h hui hki
      · exact hle
    · rw [e]
      refine .inr ⟨rfl, by omega, fun i hi hlt hui hki => ?_, q, hq, by omega, hu, hk, rfl⟩
      rcases case_ i hlt with h | rfl
      · have := h3 i hi h hui hki; omega
      · exact Int.le_refl _

set_option maxHeartbeats 8000000 in
set_option maxRecDepth 100000 in
theorem goes_any (mc lc gc mm g cap : Nat) (LV : List SpV) (hN : LV.length ≤ 8) (hok : ∀ p ∈ LV, SpOk p.1) : ∀ (fuel D : Nat) (_ : D < 256) (_ : LV.length - rankD D LV.length < fuel) (has : Bool) (b : List UInt8) (_ : b.length ≤ 4096) (n : Nat) (f : Value → Option Value) (M : List St) (w : World),
    GG mc lc gc mm n f g cap LV w → SK f M → (∀ t ∈ M, ¬ Goes (LV.map Prod.fst) t.1 t.2.1 t.2.2 ∨ rankD t.1 LV.length < rankD D LV.length) →
    Calls Try.prog 35 #[.agg #[.int .u64 D, .bool has, .string ⟨b.toArray⟩], .pointer (some ⟨mc, 0, none⟩), .pointer (some ⟨lc, 0, none⟩), .pointer (some ⟨gc, 0, none⟩)] w (GPost mc lc gc mm g cap LV M D has b w) := by
  intro fuel
  induction fuel with
  | zero => intro D _ hf; omega
  | succ fuel IH =>
    intro D hD hf has b hb n f M w h hs hM
    have hal : ∀ (W : World) o, Below W.heap.size W (W.alloc o) := fun W o => (Below.refl _ _).alloc (Nat.le_refl _) o
    have HAl := Lib.hid hal
    have h1 := h.go (hal w (.cells #[.int .u64 D, .bool has, .string ⟨b.toArray⟩] 80))
    obtain ⟨m0, m1, m2⟩ := h1.env
    have hlk := h1.look hs hD has hb
    by_cases hmem : (D, has, b) ∈ M
    · have HNo : Hid (¬ Goes (LV.map Prod.fst) D has b) := by
        rcases hM _ hmem with q | q
        · exact q
        · exact absurd q (Nat.lt_irrefl _)
      have HS := Lib.hid (And.intro h1 hs)
      have hdec : decide ((D, has, b) ∈ M) = true := decide_eq_true hmem
      rw [hdec] at hlk
      clear h h1 hs hM hmem hdec hal hf hb IH hN hok
      go_enter Try.func35, Try.ntmps35
      go_wp2_with fail
      go_ret
      exact ⟨false, rfl, by simp [HNo.out], Chg.of_below (HAl.out w _), _, _, M, HS.out.1, HS.out.2, fun _ t ht => .inl ht⟩
    · have hdec : decide ((D, has, b) ∈ M) = false := decide_eq_false hmem
      rw [hdec] at hlk
      obtain ⟨W2, hput, hch, f2, h2, hs2⟩ := h1.put hs hD has hb
      have hbx := chg_row hch h1.isMap (heap_alloc_new w (.cells #[.int .u64 D, .bool has, .string ⟨b.toArray⟩] 80))
      have HG := Lib.hid (And.intro h2 hs2)
      have HC : Hid (Chg [mm] w W2) := (Chg.of_below (hal w _)).trans hch (fun _ h _ => h)
      have HBx := Lib.hid hbx
      have HM := Lib.hid (And.intro hM (And.intro hmem (And.intro hf (And.intro hb (And.intro hD (And.intro hN hok))))))
      have HIH := Lib.hid IH
      obtain ⟨p0, p1, p2⟩ := h2.env
      clear h h1 hs hM hmem hdec hal hf hb hch h2 hs2 hbx IH hok
      have hD2 : (D : Int) < 256 := by omega
      have hN8 : (LV.length : Int) ≤ 8 := by omega
      clear hD hN
      go_enter Try.func35, Try.ntmps35
      go_wp2_with fail
      go_loopw [6, 7, 22] (fun en le i wr => ∃ (q : Nat) (E : Int) (l : Bool), i = .int .i64 q ∧ en = .int .i64 E ∧ le = .bool l ∧ q ≤ LV.length ∧ Hid (Below W2.heap.size W2 wr ∧ EndSt (LV.map Prod.fst) D q E l)) (fun _ _ i _ => LV.length - (intOf i).toNat)
      case atStart => exact ⟨0, _, false, rfl, rfl, rfl, Nat.zero_le _, Below.refl _ _, .inl ⟨rfl, rfl, fun _ _ h => absurd h (Nat.not_lt_zero _)⟩⟩
      case round =>
        obtain ⟨q, E, l, rfl, rfl, rfl, hq, HE⟩ := hrel
        obtain ⟨wL, rfl⟩ : ∃ wo : World, wo = wr := ⟨_, rfl⟩
        have hg := HG.out.1.go HE.out.1
        obtain ⟨pp0, pp1, pp2⟩ := hg.env
        have hbL := (HE.out.1.block _ (Array.getElem?_eq_some_iff.1 HBx.out).1).trans HBx.out
        have b0 := fun o => cell_of_row (wL.alloc o) w.heap.size 0 _ _ _ (((HAl.out wL o).block _ (Array.getElem?_eq_some_iff.1 hbL).1).trans hbL)
        simp only [List.getElem?_toArray, List.getElem?_cons_zero] at b0
        have HGL := Lib.hid (And.intro hg hbL)
        by_cases hlt : q < LV.length
        · obtain ⟨dA, dc, rA, rc, ⟨c0, c1, c2, c3, c4, c5, c6, c7, c8, c9, c10⟩, _, _⟩ := hg.row hlt
          have HOk := Lib.hid (And.intro (HM.out.2.2.2.2.2.2 _ (List.getElem_mem hlt)) (show (LV.map Prod.fst)[q]'(by simpa using hlt) = (LV[q]'hlt).1 by simp))
          generalize (LV[q]'hlt).1 = s at *
          have k1 : (q : Int) < (LV.length : Int) := by omega
          have k0 : (0 : Int) ≤ (q : Int) := by omega
          clear hg hbL p0 p1 p2
          have hlq : q < (LV.map Prod.fst).length := by simpa using hlt
          have hba := bit_and D q HM.out.2.2.2.2.1
          cases hbit : D.testBit q with
          | true =>
            rw [hbit, if_pos rfl] at hba
            have HSt : Hid (EndSt (LV.map Prod.fst) D (q + 1) E l) := EndSt.skip HE.out.2 (fun h => by rw [undone, hbit] at h; cases h)
            clear hbit
            go_wp2_with fail
            go_roundw
            case rel => exact ⟨q + 1, E, l, by go_num, rfl, rfl, by omega, HE.out.1.trans ((HAl.out wL _).mono HE.out.1.size), HSt.out⟩
            case measure => simp [intOf]; omega
          | false =>
            rw [hbit, if_neg (by simp)] at hba
            cases hkn : s.known with
            | false =>
              have HSt : Hid (EndSt (LV.map Prod.fst) D (q + 1) E l) := EndSt.skip HE.out.2 (fun _ _ => by rw [HOk.out.2]; exact hkn)
              rw [hkn] at c7
              clear hbit
              go_wp2_with fail
              go_roundw
              case rel => exact ⟨q + 1, E, l, by go_num, rfl, rfl, by omega, HE.out.1.trans ((HAl.out wL _).mono HE.out.1.size), HSt.out⟩
              case measure => simp [intOf]; omega
            | true =>
              have HSt : Hid (EndSt (LV.map Prod.fst) D (q + 1) (if (s.to : Int) < E then (s.to : Int) else E) true) := by
                have := EndSt.take HE.out.2 hlq (show undone D q from hbit) (by rw [HOk.out.2]; exact hkn) (by rw [HOk.out.2]; exact HOk.out.1.to)
                rwa [HOk.out.2] at this
              rw [hkn] at c7
              clear hbit
              go_wp2_with fail
              go_roundw
              case rel => exact ⟨q + 1, _, true, by go_num, rfl, rfl, by omega, HE.out.1.trans ((HAl.out wL _).mono HE.out.1.size), HSt.out⟩
              case measure => simp [intOf]; omega
        · have k1 : ¬ (q : Int) < (LV.length : Int) := by omega
          have hqe : q = LV.length := by omega
          have hES := HE.out.2
          rw [hqe] at hES
          have HES := Lib.hid hES
          have HB := Lib.hid HE.out.1
          clear hg hbL p0 p1 p2 hqe hES
          cases l with
          | false =>
            have HFin : Hid (Goes (LV.map Prod.fst) D has b) := by
              rcases HES.out with ⟨_, _, h3⟩ | ⟨h, _⟩
              · exact .fin _ _ _ (fun j hj hu => h3 j hj (by simpa using hj) hu)
              · cases h
            go_wp2_with fail
            go_ret
            exact ⟨true, rfl, by simp [HFin.out], HC.out.trans (Chg.of_below HB.out) (fun _ h _ => h), _, _, _, HGL.out.1, HG.out.2, fun h => by cases h⟩
          | true =>
            go_wp2_with fail
            go_loopw [46] (fun i wr => ∃ q : Nat, i = .int .i64 q ∧ q ≤ LV.length ∧ Hid (LS mc lc gc mm g cap LV M D has b w q wr)) (fun i _ => LV.length - (intOf i).toNat)
            case atStart => exact ⟨0, rfl, Nat.zero_le _, _, _, _, HGL.out.1, HG.out.2, HC.out.trans (Chg.of_below HB.out) (fun _ h _ => h), HGL.out.2, (fun t ht => by rcases List.mem_cons.1 ht with h | h; exact .inr (.inl h); exact .inl h), fun _ _ h => absurd h (Nat.not_lt_zero _)⟩
            case round =>
              clear hlt k1 hq
              obtain ⟨q, rfl, hq, HL⟩ := hrel
              obtain ⟨wL, rfl⟩ : ∃ wo : World, wo = wr := ⟨_, rfl⟩
              obtain ⟨n3, f3, M3, hG3, hS3, hC3, hB3, hM3, hT3⟩ := HL.out
              clear pp0 pp1 pp2 b0
              obtain ⟨pp0, pp1, pp2⟩ := hG3.env
              have HGr := Lib.hid (And.intro hG3 (And.intro hS3 (And.intro hC3 (And.intro hB3 (And.intro hM3 hT3)))))
              by_cases hlt : q < LV.length
              · obtain ⟨dA, dc, rA, rc, ⟨c0, c1, c2, c3, c4, c5, c6, c7, c8, c9, c10⟩, hrdd, hrdr⟩ := hG3.row hlt
                have hlq : q < (LV.map Prod.fst).length := by simpa using hlt
                have HOk := Lib.hid (And.intro (HM.out.2.2.2.2.2.2 _ (List.getElem_mem hlt)) (show (LV.map Prod.fst)[q]'hlq = (LV[q]'hlt).1 by simp))
                generalize (LV[q]'hlt).1 = s at *
                have k1 : (q : Int) < (LV.length : Int) := by omega
                have k0 : (0 : Int) ≤ (q : Int) := by omega
                have b0 := fun o => cell_of_row (wL.alloc o) w.heap.size 0 _ _ _ (((HAl.out wL o).block _ (Array.getElem?_eq_some_iff.1 hB3).1).trans hB3)
                have b1 := fun o => cell_of_row (wL.alloc o) w.heap.size 1 _ _ _ (((HAl.out wL o).block _ (Array.getElem?_eq_some_iff.1 hB3).1).trans hB3)
                have b2 := fun o => cell_of_row (wL.alloc o) w.heap.size 2 _ _ _ (((HAl.out wL o).block _ (Array.getElem?_eq_some_iff.1 hB3).1).trans hB3)
                simp only [List.getElem?_toArray, List.getElem?_cons_zero, List.getElem?_cons_succ] at b0 b1 b2
                have hba := bit_and D q HM.out.2.2.2.2.1
                have HStay : Hid ((May1 (LV.map Prod.fst) D q → FitR ((LV.map Prod.fst)[q]'hlq) has b → ¬ Goes (LV.map Prod.fst) (D ||| 1 <<< q) (doR ((LV.map Prod.fst)[q]'hlq).call has b).has (doR ((LV.map Prod.fst)[q]'hlq).call has b).b) → ∀ (n' : Nat) (f' : Value → Option Value) (M' : List St) (wr : World), GG mc lc gc mm n' f' g cap LV wr → SK f' M' → Chg [mm] wL wr → (∀ t ∈ M', t ∈ M3 ∨ ¬ Goes (LV.map Prod.fst) t.1 t.2.1 t.2.2) → LS mc lc gc mm g cap LV M D has b w (q + 1) wr) := fun hno n' f' M' wr h1 h2 h3 h4 => by
                  refine ⟨n', f', M', h1, h2, HGr.out.2.2.1.trans h3 (fun _ h _ => h), chg_row h3 HGr.out.1.isMap HGr.out.2.2.2.1, fun t ht => ?_, fun j hj hlt' => ?_⟩
                  · rcases h4 t ht with h | h
                    · exact HGr.out.2.2.2.2.1 t h
                    · exact .inr (.inr h)
                  · by_cases e : j = q
                    · subst e; exact hno
                    · exact HGr.out.2.2.2.2.2 j hj (by omega)
                have HBelS : Hid (∀ wr, Below wL.heap.size wL wr → (May1 (LV.map Prod.fst) D q → False) → LS mc lc gc mm g cap LV M D has b w (q + 1) wr) := fun wr hb hno => HStay.out (fun h _ => (hno h).elim) n3 f3 M3 wr (HGr.out.1.go hb) HGr.out.2.1 (Chg.of_below hb) (fun t ht => .inl ht)
                cases hbit : D.testBit q with
                | true =>
                  rw [hbit, if_pos rfl] at hba
                  have HNo : Hid (May1 (LV.map Prod.fst) D q → False) := fun h => by have := h.1; rw [undone, hbit] at this; cases this
                  clear hbit hG3 hS3 hC3 hB3 hM3 hT3 hrdd hrdr
                  go_wp2_with fail
                  go_roundw
                  case rel => exact ⟨q + 1, by go_num, by omega, HBelS.out _ (HAl.out wL _) HNo.out⟩
                  case measure => simp [intOf]; omega
                | false =>
                  rw [hbit, if_neg (by simp)] at hba
                  by_cases hfr : E < (s.fr : Int)
                  · have HNo : Hid (May1 (LV.map Prod.fst) D q → False) := fun h => by
                      rcases HES.out with ⟨h1, _⟩ | ⟨_, _, _, j, hj, _, hu, hk, he⟩
                      · cases h1
                      · have := h.2 j hj hu hk hlq
                        rw [HOk.out.2] at this
                        omega
                    clear hbit hG3 hS3 hC3 hB3 hM3 hT3 hrdd hrdr
                    go_wp2_with fail
                    go_roundw
                    case rel => exact ⟨q + 1, by go_num, by omega, HBelS.out _ (HAl.out wL _) HNo.out⟩
                    case measure => simp [intOf]; omega
                  · have HMay : Hid (May1 (LV.map Prod.fst) D q) := by
                      refine ⟨hbit, fun j hj hu hk hi => ?_⟩
                      rcases HES.out with ⟨h1, _⟩ | ⟨_, _, h3, _⟩
                      · cases h1
                      · have := h3 j hj (by simpa using hj) hu hk
                        rw [HOk.out.2]
                        omega
                    have HRd := Lib.hid (And.intro hrdd hrdr)
                    have HUd : Hid (undone D q) := hbit
                    have hfr2 : (s.fr : Int) ≤ E := by omega
                    clear hbit hfr HBelS
                    obtain ⟨wX, hwX⟩ : ∃ wX, wX = wL.alloc (.cells #[.int .i64 s.call.k, .string s.call.s, .int .i64 s.call.a, .slice dA s.call.d.length dc, .int .i64 s.call.n, .int .i64 s.fr, .int .i64 s.to, .bool s.known, .int .i64 s.rep.code, .int .i64 s.rep.size, .slice rA s.rep.d.length rc] 73) := ⟨_, rfl⟩
                    have hbX : Below wL.heap.size wL wX := by rw [hwX]; exact HAl.out wL _
                    have hxb : wX.heap[wL.heap.size]? = some (.cells #[.int .i64 s.call.k, .string s.call.s, .int .i64 s.call.a, .slice dA s.call.d.length dc, .int .i64 s.call.n, .int .i64 s.fr, .int .i64 s.to, .bool s.known, .int .i64 s.rep.code, .int .i64 s.rep.size, .slice rA s.rep.d.length rc] 73 (0, 0)) := by rw [hwX]; exact heap_alloc_new wL _
                    have hsX : wX.heap.size = wL.heap.size + 1 := by rw [hwX]; exact Array.size_push _
                    obtain ⟨cc2, wC, hcv, hccap, hcr, hbC, _⟩ := conv_str b wX
                    rw [hsX] at hcv hcr
                    have hbLC := hbX.trans (hbC.mono hbX.size)
                    have hD := do_any s.call (.slice dA s.call.d.length dc) (.slice (some ⟨wL.heap.size + 1, 0, none⟩) b.length cc2) has b wC (hrdd.below hbLC) hcr (fun A n cc e => by cases e; exact hccap) HM.out.2.2.2.1 HOk.out.1.call.s (Law.wf_i64 HOk.out.1.call.a).2
                    have hlen := doR_len s.call has b HM.out.2.2.2.1 (fun m => ⟨m.2.2.2.1, m.2.2.2.2.1, m.2.2.2.2.2.1⟩)
                    have HFit : Hid (FitR ((LV.map Prod.fst)[q]'hlq) has b ↔ (s.known = false ∨ sameB (repOf (doR s.call has b)) s.rep = true)) := by rw [HOk.out.2]; exact Iff.rfl
                    have HGoal : Hid (Goes (LV.map Prod.fst) (D ||| 1 <<< q) (doR ((LV.map Prod.fst)[q]'hlq).call has b).has (doR ((LV.map Prod.fst)[q]'hlq).call has b).b ↔ Goes (LV.map Prod.fst) (D ||| 1 <<< q) (doR s.call has b).has (doR s.call has b).b) := by rw [HOk.out.2]; exact Iff.rfl
                    generalize hx : doR s.call has b = x at hD hlen HFit HGoal
                    obtain ⟨rc', rs', rd', rh', rb'⟩ := x
                    dsimp only [repOf] at hlen HFit HGoal
                    have HDo : Hid (Calls Try.prog 7 #[.agg #[.int .i64 s.call.k, .string s.call.s, .int .i64 s.call.a, .slice dA s.call.d.length dc, .int .i64 s.call.n], .bool has, .slice (some ⟨wL.heap.size + 1, 0, none⟩) b.length cc2] wC fun e w' => ∃ A1 c1 A2 c3, e = .returned (.tuple #[.agg #[.int .i64 rc', .int .i64 rs', .slice A1 rd'.length c1], .bool rh', .slice A2 rb'.length c3]) ∧ ReadsB w' (.slice A1 rd'.length c1) rd' ∧ ReadsB w' (.slice A2 rb'.length c3) rb' ∧ Below wC.heap.size wC w') := by
                      refine hD.mono ?_
                      rintro e w' ⟨d1, d2, rfl, o1, o2, hb⟩
                      obtain ⟨A1, c1, rfl, _⟩ := o1.form
                      obtain ⟨A2, c3, rfl, _⟩ := o2.form
                      exact ⟨A1, c1, A2, c3, rfl, o1.reads, o2.reads, hb⟩
                    have HXb : Hid (∀ W, Below wX.heap.size wX W → W.heap[wL.heap.size]? = some (.cells #[.int .i64 s.call.k, .string s.call.s, .int .i64 s.call.a, .slice dA s.call.d.length dc, .int .i64 s.call.n, .int .i64 s.fr, .int .i64 s.to, .bool s.known, .int .i64 s.rep.code, .int .i64 s.rep.size, .slice rA s.rep.d.length rc] 73 (0, 0))) := fun W hW => (hW.block _ (Array.getElem?_eq_some_iff.1 hxb).1).trans hxb
                    have HBC := Lib.hid (And.intro hbX (And.intro hbC hbLC))
                    have HLen := Lib.hid hlen
                    have HDl : Hid (rd'.length ≤ 140737488351232) := by have := doR_dl s.call has b HM.out.2.2.2.1; rw [hx] at this; exact this
                    subst hwX
                    have HIH2 : Hid (∀ w', Below wL.heap.size wL w' → Calls Try.prog 35 #[.agg #[.int .u64 (D ||| 1 <<< q : Nat), .bool rh', .string ⟨rb'.toArray⟩], .pointer (some ⟨mc, 0, none⟩), .pointer (some ⟨lc, 0, none⟩), .pointer (some ⟨gc, 0, none⟩)] w' (GPost mc lc gc mm g cap LV M3 (D ||| 1 <<< q) rh' rb' w')) := fun w' hb => by
                      have hq8 : q < 8 := by have := HM.out.2.2.2.2.2.1; omega
                      have hrk := rankD_or D q HUd.out LV.length
                      rw [if_pos hlt] at hrk
                      have hrl := rankD_le (D ||| 1 <<< q) LV.length
                      refine HIH.out (D ||| 1 <<< q) (bit_facts D q HM.out.2.2.2.2.1 hq8).2 (by have := HM.out.2.2.1; omega) rh' rb' HLen.out n3 f3 M3 w' (HGr.out.1.go hb) HGr.out.2.1 (fun t ht => ?_)
                      rcases HGr.out.2.2.2.2.1 t ht with h | h | h
                      · rcases HM.out.1 t h with h | h
                        · exact .inl h
                        · right; omega
                      · right; rw [h]; show rankD D _ < _; omega
                      · exact .inl h
                    have hbits := bit_or D q HM.out.2.2.2.2.1 (by have := HM.out.2.2.2.2.2.1; omega)
                    clear hG3 hS3 hC3 hB3 hM3 hT3 hrdd hrdr hbX hxb hbC hbLC hD hlen hsX hcr hccap hx
                    go_upto_region 18 with (go_at_call 7; (with_reducible refine HDo.out.mono ?_); rintro e w4 ⟨A1, c1, A2, c3, rfl, hr1, ho, hb4⟩; have HB4 := Lib.hid (And.intro hb4 (And.intro hr1 ho)); clear hr1 ho hb4)
                    obtain ⟨wA, hwA⟩ : ∃ wA, wA = w4.alloc (.cells #[.int .i64 rc', .int .i64 rs', .slice A1 rd'.length c1] 26) := ⟨_, rfl⟩
                    have hbA : Below w4.heap.size w4 wA := by rw [hwA]; exact HAl.out w4 _
                    have hA : wA.heap[w4.heap.size]? = some (.cells #[.int .i64 rc', .int .i64 rs', .slice A1 rd'.length c1] 26 (0, 0)) := by rw [hwA]; exact heap_alloc_new w4 _
                    rw [← hwA]
                    have hCA : Below wC.heap.size wC wA := HB4.out.1.trans (hbA.mono HB4.out.1.size)
                    have hLA : Below wL.heap.size wL wA := HBC.out.2.2.trans (hCA.mono HBC.out.2.2.size)
                    have hxA := HXb.out wA (HBC.out.2.1.trans (hCA.mono HBC.out.2.1.size))
                    have hstA := (hLA.block _ (Array.getElem?_eq_some_iff.1 HGr.out.2.2.2.1).1).trans HGr.out.2.2.2.1
                    have HWA := Lib.hid (And.intro hLA (And.intro hA (And.intro hxA (And.intro hstA (And.intro (HB4.out.2.1.below hbA) (HB4.out.2.2.below hbA))))))
                    have HbA := Lib.hid (Below.refl wA.heap.size wA)
                    have HEnd : Hid (∀ w', Below wA.heap.size wA w' → Calls Try.prog 35 #[.agg #[.int .u64 (D ||| 1 <<< q : Nat), .bool rh', .string ⟨rb'.toArray⟩], .pointer (some ⟨mc, 0, none⟩), .pointer (some ⟨lc, 0, none⟩), .pointer (some ⟨gc, 0, none⟩)] w' fun e w'' => ∃ r : Bool, e = .returned (.bool r) ∧ (r = true ↔ Goes (LV.map Prod.fst) (D ||| 1 <<< q) rh' rb') ∧ Kept w' w'' ∧ (Chg [mm] wL w'' ∧ ∃ n f M', GG mc lc gc mm n f g cap LV w'' ∧ SK f M' ∧ (r = false → ∀ t ∈ M', t ∈ M3 ∨ ¬ Goes (LV.map Prod.fst) t.1 t.2.1 t.2.2))) := fun w' hb => by
                      have hLw := HWA.out.1.trans (hb.mono HWA.out.1.size)
                      refine (HIH2.out w' hLw).mono ?_
                      rintro e w'' ⟨r, rfl, h1, h2, h3⟩
                      exact ⟨r, rfl, h1, Kept.of_chg h2 (HGr.out.1.go hLw).isMap, (Chg.of_below hLw).trans h2 (fun _ h _ => h), h3⟩
                    have HSm : Hid (∀ w', Below wA.heap.size wA w' → Calls Try.prog 36 #[.agg #[.int .i64 rc', .int .i64 rs', .slice A1 rd'.length c1], .agg #[.int .i64 s.rep.code, .int .i64 s.rep.size, .slice rA s.rep.d.length rc]] w' fun e w'' => e = .returned (.bool (sameB ⟨rc', rs', rd'⟩ s.rep)) ∧ Below wA.heap.size wA w'') := fun w' hb => by
                      have hrl : rd'.length ≤ 140737488351232 := HDl.out
                      exact (same_any ⟨rc', rs', rd'⟩ s.rep (.slice A1 rd'.length c1) (.slice rA s.rep.d.length rc) w' (HWA.out.2.2.2.2.1.below hb) (HRd.out.2.below (HWA.out.1.trans (hb.mono HWA.out.1.size))) hrl).mono fun _ _ ⟨he, hb2⟩ => ⟨he, hb.trans (hb2.mono hb.size)⟩
                    have HCel : Hid (∀ w', Kept wA w' → ∀ kn, s.known = kn → (fun w' : World => w'.cell? ⟨wL.heap.size, 7, none⟩ = some (.bool kn) ∧ w'.cell? ⟨wL.heap.size, 8, none⟩ = some (.int .i64 s.rep.code) ∧ w'.cell? ⟨wL.heap.size, 9, none⟩ = some (.int .i64 s.rep.size) ∧ w'.cell? ⟨wL.heap.size, 10, none⟩ = some (.slice rA s.rep.d.length rc) ∧ w'.cell? ⟨w4.heap.size, 0, none⟩ = some (.int .i64 rc') ∧ w'.cell? ⟨w4.heap.size, 1, none⟩ = some (.int .i64 rs') ∧ w'.cell? ⟨w4.heap.size, 2, none⟩ = some (.slice A1 rd'.length c1) ∧ w'.cell? ⟨w.heap.size, 0, none⟩ = some (.int .u64 D) ∧ w'.cell? ⟨gc, 0, none⟩ = some (.func (.func 35) #[] #[.pointer (some ⟨mc, 0, none⟩), .pointer (some ⟨lc, 0, none⟩), .pointer (some ⟨gc, 0, none⟩)]) ∧ (convert 23 9 (.slice A2 rb'.length c3)).run Try.prog w' = .ok (.string ⟨rb'.toArray⟩) w') w') := fun w' hb kn hkn => by
                      obtain ⟨_, hA, hxA, hstA, hr1, hr2⟩ := HWA.out
                      rw [hkn] at hxA
                      have t : ∀ bk o u, wA.cell? ⟨bk, o, none⟩ = some u → w'.cell? ⟨bk, o, none⟩ = some u := fun bk o u hu => hb _ _ hu
                      refine ⟨t _ _ _ (by rw [cell_of_row _ _ 7 _ _ _ hxA]; rfl), t _ _ _ (by rw [cell_of_row _ _ 8 _ _ _ hxA]; rfl), t _ _ _ (by rw [cell_of_row _ _ 9 _ _ _ hxA]; rfl), t _ _ _ (by rw [cell_of_row _ _ 10 _ _ _ hxA]; rfl), t _ _ _ (by rw [cell_of_row _ _ 0 _ _ _ hA]; rfl), t _ _ _ (by rw [cell_of_row _ _ 1 _ _ _ hA]; rfl), t _ _ _ (by rw [cell_of_row _ _ 2 _ _ _ hA]; rfl), t _ _ _ (by rw [cell_of_row _ _ 0 _ _ _ hstA]; rfl), t _ _ _ ((HGr.out.1.go HWA.out.1).env.2.2), conv_reads (hr2.kept hb)⟩
                    clear hbA hA hCA hLA hxA hstA hwA
                    cases hkn : s.known with
                    | false =>
                      have HKn := Lib.hid hkn
                      have HF : Hid (∀ w', Kept wA w' → (fun w' : World => w'.cell? ⟨wL.heap.size, 7, none⟩ = some (.bool false) ∧ w'.cell? ⟨wL.heap.size, 8, none⟩ = some (.int .i64 s.rep.code) ∧ w'.cell? ⟨wL.heap.size, 9, none⟩ = some (.int .i64 s.rep.size) ∧ w'.cell? ⟨wL.heap.size, 10, none⟩ = some (.slice rA s.rep.d.length rc) ∧ w'.cell? ⟨w4.heap.size, 0, none⟩ = some (.int .i64 rc') ∧ w'.cell? ⟨w4.heap.size, 1, none⟩ = some (.int .i64 rs') ∧ w'.cell? ⟨w4.heap.size, 2, none⟩ = some (.slice A1 rd'.length c1) ∧ w'.cell? ⟨w.heap.size, 0, none⟩ = some (.int .u64 D) ∧ w'.cell? ⟨gc, 0, none⟩ = some (.func (.func 35) #[] #[.pointer (some ⟨mc, 0, none⟩), .pointer (some ⟨lc, 0, none⟩), .pointer (some ⟨gc, 0, none⟩)]) ∧ (convert 23 9 (.slice A2 rb'.length c3)).run Try.prog w' = .ok (.string ⟨rb'.toArray⟩) w') w') := fun w' hb => HCel.out w' hb false HKn.out
                      clear hkn
                      refine wp_region_held_drew (S := (fun w' : World => w'.cell? ⟨wL.heap.size, 7, none⟩ = some (.bool false) ∧ w'.cell? ⟨wL.heap.size, 8, none⟩ = some (.int .i64 s.rep.code) ∧ w'.cell? ⟨wL.heap.size, 9, none⟩ = some (.int .i64 s.rep.size) ∧ w'.cell? ⟨wL.heap.size, 10, none⟩ = some (.slice rA s.rep.d.length rc) ∧ w'.cell? ⟨w4.heap.size, 0, none⟩ = some (.int .i64 rc') ∧ w'.cell? ⟨w4.heap.size, 1, none⟩ = some (.int .i64 rs') ∧ w'.cell? ⟨w4.heap.size, 2, none⟩ = some (.slice A1 rd'.length c1) ∧ w'.cell? ⟨w.heap.size, 0, none⟩ = some (.int .u64 D) ∧ w'.cell? ⟨gc, 0, none⟩ = some (.func (.func 35) #[] #[.pointer (some ⟨mc, 0, none⟩), .pointer (some ⟨lc, 0, none⟩), .pointer (some ⟨gc, 0, none⟩)]) ∧ (convert 23 9 (.slice A2 rb'.length c3)).run Try.prog w' = .ok (.string ⟨rb'.toArray⟩) w')) (by kernel_rfl) (HF.out _ (Kept.refl _)) (fun hHeld => ?_)
                      refine wpAnyH_take (i := 0) (oi := ?_) (v := ?_) ?_ (by kernel_rfl) (by kernel_rfl) (by kernel_rfl) ?_ (Or.inl ⟨?_, ?_⟩) hHeld ?_
                      rotate_left 2
                      · (simp only [List.getElem?_toArray, List.getElem?_cons_zero]; rfl)
                      · exact fun _ _ _ h => h
                      · rfl
                      · (intro w' hSw; (try dsimp only at hSw); go_simp; first | done | with_reducible rfl)
                      try simp only [Act.put, List.setIfInBounds_toArray, List.set_cons_zero, List.set_cons_succ]
                      refine wpAnyH_take (i := 1) (oi := ?_) (v := ?_) ?_ (by kernel_rfl) (by kernel_rfl) (by kernel_rfl) ?_ (Or.inl ⟨?_, ?_⟩) hHeld ?_
                      rotate_left 2
                      · (simp only [List.getElem?_toArray, List.getElem?_cons_succ, List.getElem?_cons_zero]; rfl)
                      · exact fun _ _ _ h => h
                      · rfl
                      · (intro w' hSw; (try dsimp only at hSw); go_simp; first | done | with_reducible rfl)
                      try simp only [Act.put, List.setIfInBounds_toArray, List.set_cons_zero, List.set_cons_succ]
                      refine wpAnyH_take (i := 2) (oi := ?_) (v := ?_) ?_ (by kernel_rfl) (by kernel_rfl) (by kernel_rfl) ?_ (Or.inl ⟨?_, ?_⟩) hHeld ?_
                      rotate_left 2
                      · (simp only [List.getElem?_toArray, List.getElem?_cons_succ, List.getElem?_cons_zero]; rfl)
                      · exact fun _ _ _ h => h
                      · rfl
                      · (intro w' hSw; (try dsimp only at hSw); go_simp; first | done | with_reducible rfl)
                      try simp only [Act.put, List.setIfInBounds_toArray, List.set_cons_zero, List.set_cons_succ]
                      refine wpAnyH_take (i := 3) (oi := ?_) (v := ?_) ?_ (by kernel_rfl) (by kernel_rfl) (by kernel_rfl) ?_ (Or.inl ⟨?_, ?_⟩) hHeld ?_
                      rotate_left 2
                      · (simp only [List.getElem?_toArray, List.getElem?_cons_succ, List.getElem?_cons_zero]; rfl)
                      · exact fun _ _ _ h => h
                      · rfl
                      · (intro w' hSw; (try dsimp only at hSw); go_simp; first | done | with_reducible rfl)
                      try simp only [Act.put, List.setIfInBounds_toArray, List.set_cons_zero, List.set_cons_succ]
                      refine wpAnyH_take (i := 4) (oi := ?_) (v := undef) ?_ (by kernel_rfl) (by kernel_rfl) (by kernel_rfl) ?_ (Or.inr ⟨?_, rfl⟩) hHeld ?_
                      rotate_left 1
                      · (simp only [List.getElem?_toArray, List.getElem?_cons_succ, List.getElem?_cons_zero]; rfl)
                      · exact fun _ _ _ h => h
                      · rfl
                      try simp only [Act.put, List.setIfInBounds_toArray, List.set_cons_zero, List.set_cons_succ]
                      refine wpAnyH_take (i := 5) (oi := ?_) (v := undef) ?_ (by kernel_rfl) (by kernel_rfl) (by kernel_rfl) ?_ (Or.inr ⟨?_, rfl⟩) hHeld ?_
                      rotate_left 1
                      · (simp only [List.getElem?_toArray, List.getElem?_cons_succ, List.getElem?_cons_zero]; rfl)
                      · exact fun _ _ _ h => h
                      · rfl
                      try simp only [Act.put, List.setIfInBounds_toArray, List.set_cons_zero, List.set_cons_succ]
                      refine wpAnyH_take (i := 6) (oi := ?_) (v := undef) ?_ (by kernel_rfl) (by kernel_rfl) (by kernel_rfl) ?_ (Or.inr ⟨?_, rfl⟩) hHeld ?_
                      rotate_left 1
                      · (simp only [List.getElem?_toArray, List.getElem?_cons_succ, List.getElem?_cons_zero]; rfl)
                      · exact fun _ _ _ h => h
                      · rfl
                      try simp only [Act.put, List.setIfInBounds_toArray, List.set_cons_zero, List.set_cons_succ]
                      refine wpAnyH_take (i := 7) (oi := ?_) (v := undef) ?_ (by kernel_rfl) (by kernel_rfl) (by kernel_rfl) ?_ (Or.inr ⟨?_, rfl⟩) hHeld ?_
                      rotate_left 1
                      · (simp only [List.getElem?_toArray, List.getElem?_cons_succ, List.getElem?_cons_zero]; rfl)
                      · exact fun _ _ _ h => h
                      · rfl
                      try simp only [Act.put, List.setIfInBounds_toArray, List.set_cons_zero, List.set_cons_succ]
                      refine wpAnyH_take (i := 8) (oi := ?_) (v := ?_) ?_ (by kernel_rfl) (by kernel_rfl) (by kernel_rfl) ?_ (Or.inl ⟨?_, ?_⟩) hHeld ?_
                      rotate_left 2
                      · (simp only [List.getElem?_toArray, List.getElem?_cons_succ, List.getElem?_cons_zero]; rfl)
                      · exact fun _ _ _ h => h
                      · rfl
                      · (intro w' hSw; (try dsimp only at hSw); go_simp; first | done | with_reducible rfl)
                      try simp only [Act.put, List.setIfInBounds_toArray, List.set_cons_zero, List.set_cons_succ]
                      refine wpAnyH_take (i := 9) (oi := ?_) (v := ?_) ?_ (by kernel_rfl) (by kernel_rfl) (by kernel_rfl) ?_ (Or.inl ⟨?_, ?_⟩) hHeld ?_
                      rotate_left 2
                      · (simp only [List.getElem?_toArray, List.getElem?_cons_succ, List.getElem?_cons_zero]; rfl)
                      · exact fun _ _ _ h => h
                      · rfl
                      · (intro w' hSw; (try dsimp only at hSw); go_simp; first | done | with_reducible rfl)
                      try simp only [Act.put, List.setIfInBounds_toArray, List.set_cons_zero, List.set_cons_succ]
                      refine wpAnyH_take (i := 10) (oi := ?_) (v := ?_) ?_ (by kernel_rfl) (by kernel_rfl) (by kernel_rfl) ?_ (Or.inl ⟨?_, ?_⟩) hHeld ?_
                      rotate_left 2
                      · (simp only [List.getElem?_toArray, List.getElem?_cons_succ, List.getElem?_cons_zero]; rfl)
                      · exact fun _ _ _ h => h
                      · rfl
                      · (intro w' hSw; (try dsimp only at hSw); go_simp; first | done | with_reducible rfl)
                      try simp only [Act.put, List.setIfInBounds_toArray, List.set_cons_zero, List.set_cons_succ]
                      refine wpAnyH_take (i := 11) (oi := ?_) (v := ?_) ?_ (by kernel_rfl) (by kernel_rfl) (by kernel_rfl) ?_ (Or.inl ⟨?_, ?_⟩) hHeld ?_
                      rotate_left 2
                      · (simp only [List.getElem?_toArray, List.getElem?_cons_succ, List.getElem?_cons_zero]; rfl)
                      · exact fun _ _ _ h => h
                      · rfl
                      · (intro w' hSw; (try dsimp only at hSw); go_simp; first | done | with_reducible rfl)
                      try simp only [Act.put, List.setIfInBounds_toArray, List.set_cons_zero, List.set_cons_succ]
                      refine wpAnyH_take (i := 12) (oi := ?_) (v := ?_) ?_ (by kernel_rfl) (by kernel_rfl) (by kernel_rfl) ?_ (Or.inl ⟨?_, ?_⟩) hHeld ?_
                      rotate_left 2
                      · (simp only [List.getElem?_toArray, List.getElem?_cons_succ, List.getElem?_cons_zero]; rfl)
                      · exact fun _ _ _ h => h
                      · rfl
                      · (intro w' hSw; (try dsimp only at hSw); go_simp; first | done | with_reducible rfl)
                      try simp only [Act.put, List.setIfInBounds_toArray, List.set_cons_zero, List.set_cons_succ]
                      refine wpAnyH_take (i := 13) (oi := ?_) (v := ?_) ?_ (by kernel_rfl) (by kernel_rfl) (by kernel_rfl) ?_ (Or.inl ⟨?_, ?_⟩) hHeld ?_
                      rotate_left 2
                      · (simp only [List.getElem?_toArray, List.getElem?_cons_succ, List.getElem?_cons_zero]; rfl)
                      · exact fun _ _ _ h => h
                      · rfl
                      · (intro w' hSw; (try dsimp only at hSw); go_simp; first | done | with_reducible rfl)
                      try simp only [Act.put, List.setIfInBounds_toArray, List.set_cons_zero, List.set_cons_succ]
                      refine wpAnyH_take (i := 14) (oi := ?_) (v := ?_) ?_ (by kernel_rfl) (by kernel_rfl) (by kernel_rfl) ?_ (Or.inl ⟨?_, ?_⟩) hHeld ?_
                      rotate_left 2
                      · (simp only [List.getElem?_toArray, List.getElem?_cons_succ, List.getElem?_cons_zero]; rfl)
                      · exact fun _ _ _ h => h
                      · rfl
                      · (intro w' hSw; (try dsimp only at hSw); go_simp; first | done | with_reducible rfl)
                      try simp only [Act.put, List.setIfInBounds_toArray, List.set_cons_zero, List.set_cons_succ]
                      refine wpAnyH_take (i := 15) (oi := ?_) (v := ?_) ?_ (by kernel_rfl) (by kernel_rfl) (by kernel_rfl) ?_ (Or.inl ⟨?_, ?_⟩) hHeld ?_
                      rotate_left 2
                      · (simp only [List.getElem?_toArray, List.getElem?_cons_succ, List.getElem?_cons_zero]; rfl)
                      · exact fun _ _ _ h => h
                      · rfl
                      · (intro w' hSw; (try dsimp only at hSw); go_simp; first | done | with_reducible rfl)
                      try simp only [Act.put, List.setIfInBounds_toArray, List.set_cons_zero, List.set_cons_succ]
                      refine wpAnyH_take (i := 16) (oi := ?_) (v := ?_) ?_ (by kernel_rfl) (by kernel_rfl) (by kernel_rfl) ?_ (Or.inl ⟨?_, ?_⟩) hHeld ?_
                      rotate_left 2
                      · (simp only [List.getElem?_toArray, List.getElem?_cons_succ, List.getElem?_cons_zero]; rfl)
                      · exact fun _ _ _ h => h
                      · rfl
                      · (intro w' hSw; (try dsimp only at hSw); go_simp; first | done | with_reducible rfl)
                      try simp only [Act.put, List.setIfInBounds_toArray, List.set_cons_zero, List.set_cons_succ]
                      refine wpAnyH_take (i := 17) (oi := ?_) (v := ?_) ?_ (by kernel_rfl) (by kernel_rfl) (by kernel_rfl) ?_ (Or.inl ⟨?_, ?_⟩) hHeld ?_
                      rotate_left 2
                      · (simp only [List.getElem?_toArray, List.getElem?_cons_succ, List.getElem?_cons_zero]; rfl)
                      · exact fun _ _ _ h => h
                      · rfl
                      · (intro w' hSw; (try dsimp only at hSw); go_simp; first | done | with_reducible rfl)
                      try simp only [Act.put, List.setIfInBounds_toArray, List.set_cons_zero, List.set_cons_succ]
                      refine wpAnyH_take (i := 18) (oi := ?_) (v := ?_) ?_ (by kernel_rfl) (by kernel_rfl) (by kernel_rfl) ?_ (Or.inl ⟨?_, ?_⟩) hHeld ?_
                      rotate_left 2
                      · (simp only [List.getElem?_toArray, List.getElem?_cons_succ, List.getElem?_cons_zero]; rfl)
                      · exact fun _ _ _ h => h
                      · rfl
                      · (intro w' hSw; (try dsimp only at hSw); go_simp; first | done | with_reducible rfl)
                      try simp only [Act.put, List.setIfInBounds_toArray, List.set_cons_zero, List.set_cons_succ]
                      refine wpAnyH_take (i := 19) (oi := ?_) (v := ?_) ?_ (by kernel_rfl) (by kernel_rfl) (by kernel_rfl) ?_ (Or.inl ⟨?_, ?_⟩) hHeld ?_
                      rotate_left 2
                      · (simp only [List.getElem?_toArray, List.getElem?_cons_succ, List.getElem?_cons_zero]; rfl)
                      · exact fun _ _ _ h => h
                      · rfl
                      · (intro w' hSw; (try dsimp only at hSw); go_simp; first | done | with_reducible rfl)
                      try simp only [Act.put, List.setIfInBounds_toArray, List.set_cons_zero, List.set_cons_succ]
                      refine wpAnyH_ready (rs := [20]) (by kernel_rfl) (by simp) ?_
                      refine AllReadyH.cons rfl (fun K hK => ?_) AllReadyH.nil
                      go_simp
                      (try rw [hbits])
                      go_at_call 35
                      refine (HEnd.out _ HbA.out.drew).mono ?_
                      rintro e w6 ⟨r, rfl, hr, hk6, hfin⟩
                      have HF6 := Lib.hid (HF.out w6 ((Kept.of_below HbA.out.drew).trans hk6))
                      have H6 := Lib.hid (And.intro hr hfin)
                      clear hk6 hr hfin hHeld
                      refine hK.out _ _ (HF6.out) (fun hHeld => ?_)
                      clear hK K
                      try simp only [Act.put, List.setIfInBounds_toArray, List.set_cons_zero, List.set_cons_succ]
                      refine wpAnyH_take (i := 21) (oi := ?_) (v := ?_) ?_ (by kernel_rfl) (by kernel_rfl) (by kernel_rfl) ?_ (Or.inl ⟨?_, ?_⟩) hHeld ?_
                      rotate_left 2
                      · (simp only [List.getElem?_toArray, List.getElem?_cons_succ, List.getElem?_cons_zero]; rfl)
                      · exact fun _ _ _ h => h
                      · rfl
                      · (intro w' hSw; (try dsimp only at hSw); go_simp; first | done | with_reducible rfl)
                      try simp only [Act.put, List.setIfInBounds_toArray, List.set_cons_zero, List.set_cons_succ]
                      refine wpAnyH_done (by kernel_rfl) ?_ _
                      cases r with
                      | true =>
                        go_wp2_with fail
                        go_ret
                        exact ⟨true, rfl, by simp only [true_iff]; exact Goes.step D has b q hlq HMay.out (HFit.out.2 (.inl HKn.out)) (HGoal.out.2 (H6.out.1.1 (by first | rfl | trivial))), HGr.out.2.2.1.trans H6.out.2.1 (fun _ h _ => h), H6.out.2.2.choose, H6.out.2.2.choose_spec.choose, H6.out.2.2.choose_spec.choose_spec.choose, H6.out.2.2.choose_spec.choose_spec.choose_spec.1, H6.out.2.2.choose_spec.choose_spec.choose_spec.2.1, fun h => by cases h⟩
                      | false =>
                        go_wp2_with fail
                        go_roundw
                        case rel =>
                          obtain ⟨h1, h2, n6, f6, M6, h3, h4, h5⟩ := H6.out
                          exact ⟨q + 1, by go_num, by omega, HStay.out (fun _ _ h => by have := h1.2 (HGoal.out.1 h); cases this) n6 f6 M6 _ h3 h4 h2 (h5 rfl)⟩
                        case measure => simp [intOf]; omega
                    | true =>
                      have HKn := Lib.hid hkn
                      have HF : Hid (∀ w', Kept wA w' → (fun w' : World => w'.cell? ⟨wL.heap.size, 7, none⟩ = some (.bool true) ∧ w'.cell? ⟨wL.heap.size, 8, none⟩ = some (.int .i64 s.rep.code) ∧ w'.cell? ⟨wL.heap.size, 9, none⟩ = some (.int .i64 s.rep.size) ∧ w'.cell? ⟨wL.heap.size, 10, none⟩ = some (.slice rA s.rep.d.length rc) ∧ w'.cell? ⟨w4.heap.size, 0, none⟩ = some (.int .i64 rc') ∧ w'.cell? ⟨w4.heap.size, 1, none⟩ = some (.int .i64 rs') ∧ w'.cell? ⟨w4.heap.size, 2, none⟩ = some (.slice A1 rd'.length c1) ∧ w'.cell? ⟨w.heap.size, 0, none⟩ = some (.int .u64 D) ∧ w'.cell? ⟨gc, 0, none⟩ = some (.func (.func 35) #[] #[.pointer (some ⟨mc, 0, none⟩), .pointer (some ⟨lc, 0, none⟩), .pointer (some ⟨gc, 0, none⟩)]) ∧ (convert 23 9 (.slice A2 rb'.length c3)).run Try.prog w' = .ok (.string ⟨rb'.toArray⟩) w') w') := fun w' hb => HCel.out w' hb true HKn.out
                      clear hkn
                      cases hsm : sameB ⟨rc', rs', rd'⟩ s.rep with
                      | true =>
                        have HSa := Lib.hid hsm
                        rw [hsm] at HSm
                        clear hsm
                        refine wp_region_held_drew (S := (fun w' : World => w'.cell? ⟨wL.heap.size, 7, none⟩ = some (.bool true) ∧ w'.cell? ⟨wL.heap.size, 8, none⟩ = some (.int .i64 s.rep.code) ∧ w'.cell? ⟨wL.heap.size, 9, none⟩ = some (.int .i64 s.rep.size) ∧ w'.cell? ⟨wL.heap.size, 10, none⟩ = some (.slice rA s.rep.d.length rc) ∧ w'.cell? ⟨w4.heap.size, 0, none⟩ = some (.int .i64 rc') ∧ w'.cell? ⟨w4.heap.size, 1, none⟩ = some (.int .i64 rs') ∧ w'.cell? ⟨w4.heap.size, 2, none⟩ = some (.slice A1 rd'.length c1) ∧ w'.cell? ⟨w.heap.size, 0, none⟩ = some (.int .u64 D) ∧ w'.cell? ⟨gc, 0, none⟩ = some (.func (.func 35) #[] #[.pointer (some ⟨mc, 0, none⟩), .pointer (some ⟨lc, 0, none⟩), .pointer (some ⟨gc, 0, none⟩)]) ∧ (convert 23 9 (.slice A2 rb'.length c3)).run Try.prog w' = .ok (.string ⟨rb'.toArray⟩) w')) (by kernel_rfl) (HF.out _ (Kept.refl _)) (fun hHeld => ?_)
                        refine wpAnyH_take (i := 0) (oi := ?_) (v := ?_) ?_ (by kernel_rfl) (by kernel_rfl) (by kernel_rfl) ?_ (Or.inl ⟨?_, ?_⟩) hHeld ?_
                        rotate_left 2
                        · (simp only [List.getElem?_toArray, List.getElem?_cons_zero]; rfl)
                        · exact fun _ _ _ h => h
                        · rfl
                        · (intro w' hSw; (try dsimp only at hSw); go_simp; first | done | with_reducible rfl)
                        try simp only [Act.put, List.setIfInBounds_toArray, List.set_cons_zero, List.set_cons_succ]
                        refine wpAnyH_take (i := 1) (oi := ?_) (v := ?_) ?_ (by kernel_rfl) (by kernel_rfl) (by kernel_rfl) ?_ (Or.inl ⟨?_, ?_⟩) hHeld ?_
                        rotate_left 2
                        · (simp only [List.getElem?_toArray, List.getElem?_cons_succ, List.getElem?_cons_zero]; rfl)
                        · exact fun _ _ _ h => h
                        · rfl
                        · (intro w' hSw; (try dsimp only at hSw); go_simp; first | done | with_reducible rfl)
                        try simp only [Act.put, List.setIfInBounds_toArray, List.set_cons_zero, List.set_cons_succ]
                        refine wpAnyH_take (i := 2) (oi := ?_) (v := ?_) ?_ (by kernel_rfl) (by kernel_rfl) (by kernel_rfl) ?_ (Or.inl ⟨?_, ?_⟩) hHeld ?_
                        rotate_left 2
                        · (simp only [List.getElem?_toArray, List.getElem?_cons_succ, List.getElem?_cons_zero]; rfl)
                        · exact fun _ _ _ h => h
                        · rfl
                        · (intro w' hSw; (try dsimp only at hSw); go_simp; first | done | with_reducible rfl)
                        try simp only [Act.put, List.setIfInBounds_toArray, List.set_cons_zero, List.set_cons_succ]
                        refine wpAnyH_take (i := 3) (oi := ?_) (v := ?_) ?_ (by kernel_rfl) (by kernel_rfl) (by kernel_rfl) ?_ (Or.inl ⟨?_, ?_⟩) hHeld ?_
                        rotate_left 2
                        · (simp only [List.getElem?_toArray, List.getElem?_cons_succ, List.getElem?_cons_zero]; rfl)
                        · exact fun _ _ _ h => h
                        · rfl
                        · (intro w' hSw; (try dsimp only at hSw); go_simp; first | done | with_reducible rfl)
                        try simp only [Act.put, List.setIfInBounds_toArray, List.set_cons_zero, List.set_cons_succ]
                        refine wpAnyH_take (i := 4) (oi := ?_) (v := ?_) ?_ (by kernel_rfl) (by kernel_rfl) (by kernel_rfl) ?_ (Or.inl ⟨?_, ?_⟩) hHeld ?_
                        rotate_left 2
                        · (simp only [List.getElem?_toArray, List.getElem?_cons_succ, List.getElem?_cons_zero]; rfl)
                        · exact fun _ _ _ h => h
                        · rfl
                        · (intro w' hSw; (try dsimp only at hSw); go_simp; first | done | with_reducible rfl)
                        try simp only [Act.put, List.setIfInBounds_toArray, List.set_cons_zero, List.set_cons_succ]
                        refine wpAnyH_take (i := 5) (oi := ?_) (v := ?_) ?_ (by kernel_rfl) (by kernel_rfl) (by kernel_rfl) ?_ (Or.inl ⟨?_, ?_⟩) hHeld ?_
                        rotate_left 2
                        · (simp only [List.getElem?_toArray, List.getElem?_cons_succ, List.getElem?_cons_zero]; rfl)
                        · exact fun _ _ _ h => h
                        · rfl
                        · (intro w' hSw; (try dsimp only at hSw); go_simp; first | done | with_reducible rfl)
                        try simp only [Act.put, List.setIfInBounds_toArray, List.set_cons_zero, List.set_cons_succ]
                        refine wpAnyH_take (i := 6) (oi := ?_) (v := ?_) ?_ (by kernel_rfl) (by kernel_rfl) (by kernel_rfl) ?_ (Or.inl ⟨?_, ?_⟩) hHeld ?_
                        rotate_left 2
                        · (simp only [List.getElem?_toArray, List.getElem?_cons_succ, List.getElem?_cons_zero]; rfl)
                        · exact fun _ _ _ h => h
                        · rfl
                        · (intro w' hSw; (try dsimp only at hSw); go_simp; first | done | with_reducible rfl)
                        try simp only [Act.put, List.setIfInBounds_toArray, List.set_cons_zero, List.set_cons_succ]
                        refine wpAnyH_ready (rs := [7]) (by kernel_rfl) (by simp) ?_
                        refine AllReadyH.cons rfl (fun K hK => ?_) AllReadyH.nil
                        go_simp
                        go_at_call 36
                        refine (HSm.out _ HbA.out.drew).mono ?_
                        rintro e w5 ⟨rfl, hb5⟩
                        have HF5 := Lib.hid (HF.out w5 (Kept.of_below hb5))
                        have Hb5 := Lib.hid hb5
                        clear hb5 hHeld
                        refine hK.out _ _ (HF5.out) (fun hHeld => ?_)
                        clear hK K
                        try simp only [Act.put, List.setIfInBounds_toArray, List.set_cons_zero, List.set_cons_succ]
                        refine wpAnyH_take (i := 8) (oi := ?_) (v := ?_) ?_ (by kernel_rfl) (by kernel_rfl) (by kernel_rfl) ?_ (Or.inl ⟨?_, ?_⟩) hHeld ?_
                        rotate_left 2
                        · (simp only [List.getElem?_toArray, List.getElem?_cons_succ, List.getElem?_cons_zero]; rfl)
                        · exact fun _ _ _ h => h
                        · rfl
                        · (intro w' hSw; (try dsimp only at hSw); go_simp; first | done | with_reducible rfl)
                        try simp only [Act.put, List.setIfInBounds_toArray, List.set_cons_zero, List.set_cons_succ]
                        refine wpAnyH_take (i := 9) (oi := ?_) (v := ?_) ?_ (by kernel_rfl) (by kernel_rfl) (by kernel_rfl) ?_ (Or.inl ⟨?_, ?_⟩) hHeld ?_
                        rotate_left 2
                        · (simp only [List.getElem?_toArray, List.getElem?_cons_succ, List.getElem?_cons_zero]; rfl)
                        · exact fun _ _ _ h => h
                        · rfl
                        · (intro w' hSw; (try dsimp only at hSw); go_simp; first | done | with_reducible rfl)
                        try simp only [Act.put, List.setIfInBounds_toArray, List.set_cons_zero, List.set_cons_succ]
                        refine wpAnyH_take (i := 10) (oi := ?_) (v := ?_) ?_ (by kernel_rfl) (by kernel_rfl) (by kernel_rfl) ?_ (Or.inl ⟨?_, ?_⟩) hHeld ?_
                        rotate_left 2
                        · (simp only [List.getElem?_toArray, List.getElem?_cons_succ, List.getElem?_cons_zero]; rfl)
                        · exact fun _ _ _ h => h
                        · rfl
                        · (intro w' hSw; (try dsimp only at hSw); go_simp; first | done | with_reducible rfl)
                        try simp only [Act.put, List.setIfInBounds_toArray, List.set_cons_zero, List.set_cons_succ]
                        refine wpAnyH_take (i := 11) (oi := ?_) (v := ?_) ?_ (by kernel_rfl) (by kernel_rfl) (by kernel_rfl) ?_ (Or.inl ⟨?_, ?_⟩) hHeld ?_
                        rotate_left 2
                        · (simp only [List.getElem?_toArray, List.getElem?_cons_succ, List.getElem?_cons_zero]; rfl)
                        · exact fun _ _ _ h => h
                        · rfl
                        · (intro w' hSw; (try dsimp only at hSw); go_simp; first | done | with_reducible rfl)
                        try simp only [Act.put, List.setIfInBounds_toArray, List.set_cons_zero, List.set_cons_succ]
                        refine wpAnyH_take (i := 12) (oi := ?_) (v := ?_) ?_ (by kernel_rfl) (by kernel_rfl) (by kernel_rfl) ?_ (Or.inl ⟨?_, ?_⟩) hHeld ?_
                        rotate_left 2
                        · (simp only [List.getElem?_toArray, List.getElem?_cons_succ, List.getElem?_cons_zero]; rfl)
                        · exact fun _ _ _ h => h
                        · rfl
                        · (intro w' hSw; (try dsimp only at hSw); go_simp; first | done | with_reducible rfl)
                        try simp only [Act.put, List.setIfInBounds_toArray, List.set_cons_zero, List.set_cons_succ]
                        refine wpAnyH_take (i := 13) (oi := ?_) (v := ?_) ?_ (by kernel_rfl) (by kernel_rfl) (by kernel_rfl) ?_ (Or.inl ⟨?_, ?_⟩) hHeld ?_
                        rotate_left 2
                        · (simp only [List.getElem?_toArray, List.getElem?_cons_succ, List.getElem?_cons_zero]; rfl)
                        · exact fun _ _ _ h => h
                        · rfl
                        · (intro w' hSw; (try dsimp only at hSw); go_simp; first | done | with_reducible rfl)
                        try simp only [Act.put, List.setIfInBounds_toArray, List.set_cons_zero, List.set_cons_succ]
                        refine wpAnyH_take (i := 14) (oi := ?_) (v := ?_) ?_ (by kernel_rfl) (by kernel_rfl) (by kernel_rfl) ?_ (Or.inl ⟨?_, ?_⟩) hHeld ?_
                        rotate_left 2
                        · (simp only [List.getElem?_toArray, List.getElem?_cons_succ, List.getElem?_cons_zero]; rfl)
                        · exact fun _ _ _ h => h
                        · rfl
                        · (intro w' hSw; (try dsimp only at hSw); go_simp; first | done | with_reducible rfl)
                        try simp only [Act.put, List.setIfInBounds_toArray, List.set_cons_zero, List.set_cons_succ]
                        refine wpAnyH_take (i := 15) (oi := ?_) (v := ?_) ?_ (by kernel_rfl) (by kernel_rfl) (by kernel_rfl) ?_ (Or.inl ⟨?_, ?_⟩) hHeld ?_
                        rotate_left 2
                        · (simp only [List.getElem?_toArray, List.getElem?_cons_succ, List.getElem?_cons_zero]; rfl)
                        · exact fun _ _ _ h => h
                        · rfl
                        · (intro w' hSw; (try dsimp only at hSw); go_simp; first | done | with_reducible rfl)
                        try simp only [Act.put, List.setIfInBounds_toArray, List.set_cons_zero, List.set_cons_succ]
                        refine wpAnyH_take (i := 16) (oi := ?_) (v := ?_) ?_ (by kernel_rfl) (by kernel_rfl) (by kernel_rfl) ?_ (Or.inl ⟨?_, ?_⟩) hHeld ?_
                        rotate_left 2
                        · (simp only [List.getElem?_toArray, List.getElem?_cons_succ, List.getElem?_cons_zero]; rfl)
                        · exact fun _ _ _ h => h
                        · rfl
                        · (intro w' hSw; (try dsimp only at hSw); go_simp; first | done | with_reducible rfl)
                        try simp only [Act.put, List.setIfInBounds_toArray, List.set_cons_zero, List.set_cons_succ]
                        refine wpAnyH_take (i := 17) (oi := ?_) (v := ?_) ?_ (by kernel_rfl) (by kernel_rfl) (by kernel_rfl) ?_ (Or.inl ⟨?_, ?_⟩) hHeld ?_
                        rotate_left 2
                        · (simp only [List.getElem?_toArray, List.getElem?_cons_succ, List.getElem?_cons_zero]; rfl)
                        · exact fun _ _ _ h => h
                        · rfl
                        · (intro w' hSw; (try dsimp only at hSw); go_simp; first | done | with_reducible rfl)
                        try simp only [Act.put, List.setIfInBounds_toArray, List.set_cons_zero, List.set_cons_succ]
                        refine wpAnyH_take (i := 18) (oi := ?_) (v := ?_) ?_ (by kernel_rfl) (by kernel_rfl) (by kernel_rfl) ?_ (Or.inl ⟨?_, ?_⟩) hHeld ?_
                        rotate_left 2
                        · (simp only [List.getElem?_toArray, List.getElem?_cons_succ, List.getElem?_cons_zero]; rfl)
                        · exact fun _ _ _ h => h
                        · rfl
                        · (intro w' hSw; (try dsimp only at hSw); go_simp; first | done | with_reducible rfl)
                        try simp only [Act.put, List.setIfInBounds_toArray, List.set_cons_zero, List.set_cons_succ]
                        refine wpAnyH_take (i := 19) (oi := ?_) (v := ?_) ?_ (by kernel_rfl) (by kernel_rfl) (by kernel_rfl) ?_ (Or.inl ⟨?_, ?_⟩) hHeld ?_
                        rotate_left 2
                        · (simp only [List.getElem?_toArray, List.getElem?_cons_succ, List.getElem?_cons_zero]; rfl)
                        · exact fun _ _ _ h => h
                        · rfl
                        · (intro w' hSw; (try dsimp only at hSw); go_simp; first | done | with_reducible rfl)
                        try simp only [Act.put, List.setIfInBounds_toArray, List.set_cons_zero, List.set_cons_succ]
                        refine wpAnyH_ready (rs := [20]) (by kernel_rfl) (by simp) ?_
                        refine AllReadyH.cons rfl (fun K hK => ?_) AllReadyH.nil
                        go_simp
                        (try rw [hbits])
                        go_at_call 35
                        refine (HEnd.out w5 Hb5.out).mono ?_
                        rintro e w6 ⟨r, rfl, hr, hk6, hfin⟩
                        have HF6 := Lib.hid (HF.out w6 ((Kept.of_below Hb5.out).trans hk6))
                        have H6 := Lib.hid (And.intro hr hfin)
                        clear hk6 hr hfin hHeld
                        refine hK.out _ _ (HF6.out) (fun hHeld => ?_)
                        clear hK K
                        try simp only [Act.put, List.setIfInBounds_toArray, List.set_cons_zero, List.set_cons_succ]
                        refine wpAnyH_take (i := 21) (oi := ?_) (v := ?_) ?_ (by kernel_rfl) (by kernel_rfl) (by kernel_rfl) ?_ (Or.inl ⟨?_, ?_⟩) hHeld ?_
                        rotate_left 2
                        · (simp only [List.getElem?_toArray, List.getElem?_cons_succ, List.getElem?_cons_zero]; rfl)
                        · exact fun _ _ _ h => h
                        · rfl
                        · (intro w' hSw; (try dsimp only at hSw); go_simp; first | done | with_reducible rfl)
                        try simp only [Act.put, List.setIfInBounds_toArray, List.set_cons_zero, List.set_cons_succ]
                        refine wpAnyH_done (by kernel_rfl) ?_ _
                        cases r with
                        | true =>
                          go_wp2_with fail
                          go_ret
                          exact ⟨true, rfl, by simp only [true_iff]; exact Goes.step D has b q hlq HMay.out (HFit.out.2 (.inr HSa.out)) (HGoal.out.2 (H6.out.1.1 (by first | rfl | trivial))), HGr.out.2.2.1.trans H6.out.2.1 (fun _ h _ => h), H6.out.2.2.choose, H6.out.2.2.choose_spec.choose, H6.out.2.2.choose_spec.choose_spec.choose, H6.out.2.2.choose_spec.choose_spec.choose_spec.1, H6.out.2.2.choose_spec.choose_spec.choose_spec.2.1, fun h => by cases h⟩
                        | false =>
                          go_wp2_with fail
                          go_roundw
                          case rel =>
                            obtain ⟨h1, h2, n6, f6, M6, h3, h4, h5⟩ := H6.out
                            exact ⟨q + 1, by go_num, by omega, HStay.out (fun _ _ h => by have := h1.2 (HGoal.out.1 h); cases this) n6 f6 M6 _ h3 h4 h2 (h5 rfl)⟩
                          case measure => simp [intOf]; omega
                      | false =>
                        have HSa := Lib.hid hsm
                        rw [hsm] at HSm
                        clear hsm
                        refine wp_region_held_drew (S := (fun w' : World => w'.cell? ⟨wL.heap.size, 7, none⟩ = some (.bool true) ∧ w'.cell? ⟨wL.heap.size, 8, none⟩ = some (.int .i64 s.rep.code) ∧ w'.cell? ⟨wL.heap.size, 9, none⟩ = some (.int .i64 s.rep.size) ∧ w'.cell? ⟨wL.heap.size, 10, none⟩ = some (.slice rA s.rep.d.length rc) ∧ w'.cell? ⟨w4.heap.size, 0, none⟩ = some (.int .i64 rc') ∧ w'.cell? ⟨w4.heap.size, 1, none⟩ = some (.int .i64 rs') ∧ w'.cell? ⟨w4.heap.size, 2, none⟩ = some (.slice A1 rd'.length c1) ∧ w'.cell? ⟨w.heap.size, 0, none⟩ = some (.int .u64 D) ∧ w'.cell? ⟨gc, 0, none⟩ = some (.func (.func 35) #[] #[.pointer (some ⟨mc, 0, none⟩), .pointer (some ⟨lc, 0, none⟩), .pointer (some ⟨gc, 0, none⟩)]) ∧ (convert 23 9 (.slice A2 rb'.length c3)).run Try.prog w' = .ok (.string ⟨rb'.toArray⟩) w')) (by kernel_rfl) (HF.out _ (Kept.refl _)) (fun hHeld => ?_)
                        refine wpAnyH_take (i := 0) (oi := ?_) (v := ?_) ?_ (by kernel_rfl) (by kernel_rfl) (by kernel_rfl) ?_ (Or.inl ⟨?_, ?_⟩) hHeld ?_
                        rotate_left 2
                        · (simp only [List.getElem?_toArray, List.getElem?_cons_zero]; rfl)
                        · exact fun _ _ _ h => h
                        · rfl
                        · (intro w' hSw; (try dsimp only at hSw); go_simp; first | done | with_reducible rfl)
                        try simp only [Act.put, List.setIfInBounds_toArray, List.set_cons_zero, List.set_cons_succ]
                        refine wpAnyH_take (i := 1) (oi := ?_) (v := ?_) ?_ (by kernel_rfl) (by kernel_rfl) (by kernel_rfl) ?_ (Or.inl ⟨?_, ?_⟩) hHeld ?_
                        rotate_left 2
                        · (simp only [List.getElem?_toArray, List.getElem?_cons_succ, List.getElem?_cons_zero]; rfl)
                        · exact fun _ _ _ h => h
                        · rfl
                        · (intro w' hSw; (try dsimp only at hSw); go_simp; first | done | with_reducible rfl)
                        try simp only [Act.put, List.setIfInBounds_toArray, List.set_cons_zero, List.set_cons_succ]
                        refine wpAnyH_take (i := 2) (oi := ?_) (v := ?_) ?_ (by kernel_rfl) (by kernel_rfl) (by kernel_rfl) ?_ (Or.inl ⟨?_, ?_⟩) hHeld ?_
                        rotate_left 2
                        · (simp only [List.getElem?_toArray, List.getElem?_cons_succ, List.getElem?_cons_zero]; rfl)
                        · exact fun _ _ _ h => h
                        · rfl
                        · (intro w' hSw; (try dsimp only at hSw); go_simp; first | done | with_reducible rfl)
                        try simp only [Act.put, List.setIfInBounds_toArray, List.set_cons_zero, List.set_cons_succ]
                        refine wpAnyH_take (i := 3) (oi := ?_) (v := ?_) ?_ (by kernel_rfl) (by kernel_rfl) (by kernel_rfl) ?_ (Or.inl ⟨?_, ?_⟩) hHeld ?_
                        rotate_left 2
                        · (simp only [List.getElem?_toArray, List.getElem?_cons_succ, List.getElem?_cons_zero]; rfl)
                        · exact fun _ _ _ h => h
                        · rfl
                        · (intro w' hSw; (try dsimp only at hSw); go_simp; first | done | with_reducible rfl)
                        try simp only [Act.put, List.setIfInBounds_toArray, List.set_cons_zero, List.set_cons_succ]
                        refine wpAnyH_take (i := 4) (oi := ?_) (v := ?_) ?_ (by kernel_rfl) (by kernel_rfl) (by kernel_rfl) ?_ (Or.inl ⟨?_, ?_⟩) hHeld ?_
                        rotate_left 2
                        · (simp only [List.getElem?_toArray, List.getElem?_cons_succ, List.getElem?_cons_zero]; rfl)
                        · exact fun _ _ _ h => h
                        · rfl
                        · (intro w' hSw; (try dsimp only at hSw); go_simp; first | done | with_reducible rfl)
                        try simp only [Act.put, List.setIfInBounds_toArray, List.set_cons_zero, List.set_cons_succ]
                        refine wpAnyH_take (i := 5) (oi := ?_) (v := ?_) ?_ (by kernel_rfl) (by kernel_rfl) (by kernel_rfl) ?_ (Or.inl ⟨?_, ?_⟩) hHeld ?_
                        rotate_left 2
                        · (simp only [List.getElem?_toArray, List.getElem?_cons_succ, List.getElem?_cons_zero]; rfl)
                        · exact fun _ _ _ h => h
                        · rfl
                        · (intro w' hSw; (try dsimp only at hSw); go_simp; first | done | with_reducible rfl)
                        try simp only [Act.put, List.setIfInBounds_toArray, List.set_cons_zero, List.set_cons_succ]
                        refine wpAnyH_take (i := 6) (oi := ?_) (v := ?_) ?_ (by kernel_rfl) (by kernel_rfl) (by kernel_rfl) ?_ (Or.inl ⟨?_, ?_⟩) hHeld ?_
                        rotate_left 2
                        · (simp only [List.getElem?_toArray, List.getElem?_cons_succ, List.getElem?_cons_zero]; rfl)
                        · exact fun _ _ _ h => h
                        · rfl
                        · (intro w' hSw; (try dsimp only at hSw); go_simp; first | done | with_reducible rfl)
                        try simp only [Act.put, List.setIfInBounds_toArray, List.set_cons_zero, List.set_cons_succ]
                        refine wpAnyH_ready (rs := [7]) (by kernel_rfl) (by simp) ?_
                        refine AllReadyH.cons rfl (fun K hK => ?_) AllReadyH.nil
                        go_simp
                        go_at_call 36
                        refine (HSm.out _ HbA.out.drew).mono ?_
                        rintro e w5 ⟨rfl, hb5⟩
                        have HF5 := Lib.hid (HF.out w5 (Kept.of_below hb5))
                        have Hb5 := Lib.hid hb5
                        clear hb5 hHeld
                        refine hK.out _ _ (HF5.out) (fun hHeld => ?_)
                        clear hK K
                        try simp only [Act.put, List.setIfInBounds_toArray, List.set_cons_zero, List.set_cons_succ]
                        refine wpAnyH_take (i := 8) (oi := ?_) (v := ?_) ?_ (by kernel_rfl) (by kernel_rfl) (by kernel_rfl) ?_ (Or.inl ⟨?_, ?_⟩) hHeld ?_
                        rotate_left 2
                        · (simp only [List.getElem?_toArray, List.getElem?_cons_succ, List.getElem?_cons_zero]; rfl)
                        · exact fun _ _ _ h => h
                        · rfl
                        · (intro w' hSw; (try dsimp only at hSw); go_simp; first | done | with_reducible rfl)
                        try simp only [Act.put, List.setIfInBounds_toArray, List.set_cons_zero, List.set_cons_succ]
                        refine wpAnyH_take (i := 9) (oi := ?_) (v := ?_) ?_ (by kernel_rfl) (by kernel_rfl) (by kernel_rfl) ?_ (Or.inl ⟨?_, ?_⟩) hHeld ?_
                        rotate_left 2
                        · (simp only [List.getElem?_toArray, List.getElem?_cons_succ, List.getElem?_cons_zero]; rfl)
                        · exact fun _ _ _ h => h
                        · rfl
                        · (intro w' hSw; (try dsimp only at hSw); go_simp; first | done | with_reducible rfl)
                        try simp only [Act.put, List.setIfInBounds_toArray, List.set_cons_zero, List.set_cons_succ]
                        refine wpAnyH_take (i := 10) (oi := ?_) (v := undef) ?_ (by kernel_rfl) (by kernel_rfl) (by kernel_rfl) ?_ (Or.inr ⟨?_, rfl⟩) hHeld ?_
                        rotate_left 1
                        · (simp only [List.getElem?_toArray, List.getElem?_cons_succ, List.getElem?_cons_zero]; rfl)
                        · exact fun _ _ _ h => h
                        · rfl
                        try simp only [Act.put, List.setIfInBounds_toArray, List.set_cons_zero, List.set_cons_succ]
                        refine wpAnyH_take (i := 11) (oi := ?_) (v := undef) ?_ (by kernel_rfl) (by kernel_rfl) (by kernel_rfl) ?_ (Or.inr ⟨?_, rfl⟩) hHeld ?_
                        rotate_left 1
                        · (simp only [List.getElem?_toArray, List.getElem?_cons_succ, List.getElem?_cons_zero]; rfl)
                        · exact fun _ _ _ h => h
                        · rfl
                        try simp only [Act.put, List.setIfInBounds_toArray, List.set_cons_zero, List.set_cons_succ]
                        refine wpAnyH_take (i := 12) (oi := ?_) (v := undef) ?_ (by kernel_rfl) (by kernel_rfl) (by kernel_rfl) ?_ (Or.inr ⟨?_, rfl⟩) hHeld ?_
                        rotate_left 1
                        · (simp only [List.getElem?_toArray, List.getElem?_cons_succ, List.getElem?_cons_zero]; rfl)
                        · exact fun _ _ _ h => h
                        · rfl
                        try simp only [Act.put, List.setIfInBounds_toArray, List.set_cons_zero, List.set_cons_succ]
                        refine wpAnyH_take (i := 13) (oi := ?_) (v := undef) ?_ (by kernel_rfl) (by kernel_rfl) (by kernel_rfl) ?_ (Or.inr ⟨?_, rfl⟩) hHeld ?_
                        rotate_left 1
                        · (simp only [List.getElem?_toArray, List.getElem?_cons_succ, List.getElem?_cons_zero]; rfl)
                        · exact fun _ _ _ h => h
                        · rfl
                        try simp only [Act.put, List.setIfInBounds_toArray, List.set_cons_zero, List.set_cons_succ]
                        refine wpAnyH_take (i := 14) (oi := ?_) (v := undef) ?_ (by kernel_rfl) (by kernel_rfl) (by kernel_rfl) ?_ (Or.inr ⟨?_, rfl⟩) hHeld ?_
                        rotate_left 1
                        · (simp only [List.getElem?_toArray, List.getElem?_cons_succ, List.getElem?_cons_zero]; rfl)
                        · exact fun _ _ _ h => h
                        · rfl
                        try simp only [Act.put, List.setIfInBounds_toArray, List.set_cons_zero, List.set_cons_succ]
                        refine wpAnyH_take (i := 15) (oi := ?_) (v := undef) ?_ (by kernel_rfl) (by kernel_rfl) (by kernel_rfl) ?_ (Or.inr ⟨?_, rfl⟩) hHeld ?_
                        rotate_left 1
                        · (simp only [List.getElem?_toArray, List.getElem?_cons_succ, List.getElem?_cons_zero]; rfl)
                        · exact fun _ _ _ h => h
                        · rfl
                        try simp only [Act.put, List.setIfInBounds_toArray, List.set_cons_zero, List.set_cons_succ]
                        refine wpAnyH_take (i := 16) (oi := ?_) (v := undef) ?_ (by kernel_rfl) (by kernel_rfl) (by kernel_rfl) ?_ (Or.inr ⟨?_, rfl⟩) hHeld ?_
                        rotate_left 1
                        · (simp only [List.getElem?_toArray, List.getElem?_cons_succ, List.getElem?_cons_zero]; rfl)
                        · exact fun _ _ _ h => h
                        · rfl
                        try simp only [Act.put, List.setIfInBounds_toArray, List.set_cons_zero, List.set_cons_succ]
                        refine wpAnyH_take (i := 17) (oi := ?_) (v := undef) ?_ (by kernel_rfl) (by kernel_rfl) (by kernel_rfl) ?_ (Or.inr ⟨?_, rfl⟩) hHeld ?_
                        rotate_left 1
                        · (simp only [List.getElem?_toArray, List.getElem?_cons_succ, List.getElem?_cons_zero]; rfl)
                        · exact fun _ _ _ h => h
                        · rfl
                        try simp only [Act.put, List.setIfInBounds_toArray, List.set_cons_zero, List.set_cons_succ]
                        refine wpAnyH_take (i := 18) (oi := ?_) (v := undef) ?_ (by kernel_rfl) (by kernel_rfl) (by kernel_rfl) ?_ (Or.inr ⟨?_, rfl⟩) hHeld ?_
                        rotate_left 1
                        · (simp only [List.getElem?_toArray, List.getElem?_cons_succ, List.getElem?_cons_zero]; rfl)
                        · exact fun _ _ _ h => h
                        · rfl
                        try simp only [Act.put, List.setIfInBounds_toArray, List.set_cons_zero, List.set_cons_succ]
                        refine wpAnyH_take (i := 19) (oi := ?_) (v := undef) ?_ (by kernel_rfl) (by kernel_rfl) (by kernel_rfl) ?_ (Or.inr ⟨?_, rfl⟩) hHeld ?_
                        rotate_left 1
                        · (simp only [List.getElem?_toArray, List.getElem?_cons_succ, List.getElem?_cons_zero]; rfl)
                        · exact fun _ _ _ h => h
                        · rfl
                        try simp only [Act.put, List.setIfInBounds_toArray, List.set_cons_zero, List.set_cons_succ]
                        refine wpAnyH_take (i := 20) (oi := ?_) (v := undef) ?_ (by kernel_rfl) (by kernel_rfl) (by kernel_rfl) ?_ (Or.inr ⟨?_, rfl⟩) hHeld ?_
                        rotate_left 1
                        · (simp only [List.getElem?_toArray, List.getElem?_cons_succ, List.getElem?_cons_zero]; rfl)
                        · exact fun _ _ _ h => h
                        · rfl
                        try simp only [Act.put, List.setIfInBounds_toArray, List.set_cons_zero, List.set_cons_succ]
                        refine wpAnyH_take (i := 21) (oi := ?_) (v := ?_) ?_ (by kernel_rfl) (by kernel_rfl) (by kernel_rfl) ?_ (Or.inl ⟨?_, ?_⟩) hHeld ?_
                        rotate_left 2
                        · (simp only [List.getElem?_toArray, List.getElem?_cons_succ, List.getElem?_cons_zero]; rfl)
                        · exact fun _ _ _ h => h
                        · rfl
                        · (intro w' hSw; (try dsimp only at hSw); go_simp; first | done | with_reducible rfl)
                        try simp only [Act.put, List.setIfInBounds_toArray, List.set_cons_zero, List.set_cons_succ]
                        refine wpAnyH_done (by kernel_rfl) ?_ _
                        go_wp2_with fail
                        go_roundw
                        case rel =>
                          have hLw := HWA.out.1.trans (Hb5.out.mono HWA.out.1.size)
                          refine ⟨q + 1, by go_num, by omega, HStay.out (fun _ hf => ?_) n3 f3 M3 _ (HGr.out.1.go hLw) HGr.out.2.1 (Chg.of_below hLw) (fun t ht => .inl ht)⟩
                          rcases HFit.out.1 hf with h | h
                          · rw [HKn.out] at h; cases h
                          · rw [HSa.out] at h; cases h
                        case measure => simp [intOf]; omega
              · have k1 : ¬ (q : Int) < (LV.length : Int) := by omega
                have hqe : q = LV.length := by omega
                have HNo : Hid (¬ Goes (LV.map Prod.fst) D has b) := fun h => by
                  rcases goes_cases h with h0 | ⟨i, hi, h1, h2, h3⟩
                  · rcases HES.out with ⟨e, _⟩ | ⟨_, _, _, j, hj, _, hu, hk, _⟩
                    · cases e
                    · rw [h0 j hj hu] at hk; cases hk
                  · exact HGr.out.2.2.2.2.2 i hi (by have h9 : i < LV.length := (by simpa using hi); omega) h1 h2 h3
                have HEnd : Hid (∀ t ∈ M3, t ∈ M ∨ ¬ Goes (LV.map Prod.fst) t.1 t.2.1 t.2.2) := fun t ht => by
                  rcases HGr.out.2.2.2.2.1 t ht with h | h | h
                  · exact .inl h
                  · right; rw [h]; exact HNo.out
                  · exact .inr h
                clear hqe hG3 hS3 hC3 hB3 hM3 hT3
                go_wp2_with fail
                go_ret
                exact ⟨false, rfl, by simp [HNo.out], HGr.out.2.2.1, n3, f3, M3, HGr.out.1, HGr.out.2.1, fun _ => HEnd.out⟩
end Go.Proofs.Ytbbbdhpihcbmmaa
