/- Ballot's Chosen: the walk. -/
import Derived.Test.YtaopfgoofhojeaaChos1
import Derived.Deep.Cut
namespace Go.Proofs.Ytaopfgoofhojeaa
open Go.RowKit Own
open Go.Maps (Keyed)

structure AccOk (x : Acc) : Prop where
  r : (Lit.int .i64 x.a.r).wf = true
  m : (Lit.int .i64 x.a.m).wf = true
  l : x.l.length ≤ 140737488351232

theorem accI_found {xs : List Acc} {b : Bal} (h : ∃ x ∈ xs, x.a = b) : ∃ q, ∃ hq : q < xs.length, accI b.r b.m xs = (q : Int) ∧ (xs[q]'hq).a = b := by
  have hex : ∃ x ∈ xs, accB b.r b.m x = true := by
    obtain ⟨x, hx, rfl⟩ := h
    exact ⟨x, hx, by simp [accB]⟩
  have hq := List.findIdx_lt_length_of_exists hex
  refine ⟨xs.findIdx (accB b.r b.m), hq, by unfold accI; rw [if_pos hq], ?_⟩
  have h1 := List.findIdx_getElem (w := hq)
  simp only [accB, Bool.and_eq_true, beq_iff_eq] at h1
  generalize (xs[xs.findIdx (accB b.r b.m)]'hq) = y at *
  obtain ⟨_, ⟨yr, ym⟩, _⟩ := y
  obtain ⟨br, bm⟩ := b
  simp at h1 ⊢
  exact h1
theorem lessB_trans {a b c : Bal} (h1 : lessB a b = true) (h2 : lessB b c = true) : lessB a c = true := by
  simp only [lessB, Bool.or_eq_true, Bool.and_eq_true, decide_eq_true_eq, beq_iff_eq] at *
  omega
theorem set2 {w : World} {b : Nat} {t : TypeId} {c0 c1 : Value} (h : w.heap[b]? = some (.cells #[c0, c1] t (0, 0))) (x0 x1 : Value) :
    ((w.setCell ⟨b, 0, none⟩ x0).setCell ⟨b, 1, none⟩ x1).heap[b]? = some (.cells #[x0, x1] t (0, 0)) :=
  Own.heap_setCell_same (Own.heap_setCell_same h 0 x0) 1 x1

set_option maxHeartbeats 8000000 in
set_option maxRecDepth 100000 in
theorem chosen_any (v : Value) (xs : List Acc) (w : World) (hv : ReadsAccs w v xs) (hok : ∀ x ∈ xs, AccOk x) (hn : xs.length ≤ 1000) :
    Calls Try.prog 13 #[v] w (ChosenPost xs w) := by
  obtain ⟨Av, cv, rfl⟩ := hv.slice
  have HV := Lib.hid (And.intro hv hok)
  have HS := Lib.hid (CM.start w)
  have HN := Lib.hid hn
  have hmm := @run_makeMap Try.prog
  clear hv hok hn
  go_enter Try.func13, Try.ntmps13
  go_wp2_with fail
  clear hmm
  go_loopw [15] (fun i wr => ∃ (j : Nat), i = .int .i64 j ∧ j ≤ xs.length ∧ Hid (CM w w.heap.size (w.heap.size + 1) j (xs.take j) wr)) (fun i _ => xs.length - (intOf i).toNat)
  case atStart => exact ⟨0, rfl, Nat.zero_le _, HS.out⟩
  case round =>
    obtain ⟨j, rfl, hj, HC⟩ := hrel
    obtain ⟨wL, rfl⟩ : ∃ wo : World, wo = wr := ⟨_, rfl⟩
    by_cases hlt : j < xs.length
    · have k1 : (j : Int) < (xs.length : Int) := by omega
      obtain ⟨bd, od, cd, hve, hat⟩ := (HV.out.1.below HC.out.below).at_ hlt
      cases hve
      have hyl := HV.out.2 _ (List.getElem_mem hlt)
      have HSn : Hid (xs.take (j + 1) = xs.take j ++ [xs[j]'hlt]) := List.take_succ_eq_append_getElem hlt
      generalize xs[j]'hlt = y at *
      obtain ⟨Ay, cy, e0, e1, e2, e3, e4, hry⟩ := hat
      obtain ⟨stamp, w3, w4, hst, hcm⟩ := (HC.out.go ((Below.refl _ _).alloc (Nat.le_refl _) (.cells #[.int .i64 y.p.r, .int .i64 y.p.m, .int .i64 y.a.r, .int .i64 y.a.m, .slice Ay y.l.length cy] 26))).steps y hyl.r hyl.m
      have hcl := cntA_le (xs.take j) y.a
      have hw1 : IntKind.i64.wrap ((cntA (xs.take j) y.a : Int) + 1) = (cntA (xs.take j) y.a : Int) + 1 := by
        have := HN.out
        rw [List.length_take] at hcl
        rw [IntKind.wrap_i64]; omega
      obtain ⟨s1, s2, s3, s4, s5⟩ := hst
      unfold Bal.v at s1 s2 s3 s4
      generalize cntA (xs.take j) y.a = cc at *
      have HM := Lib.hid hcm
      clear hcm hyl hry hcl
      have hj9 : (j : Int) < 1000 := by have := HN.out; omega
      go_wp2_with fail
      go_region
      all_goals
        go_wp2_with fail
        go_roundw
        case rel => exact ⟨j + 1, by go_num, by omega, Lib.hid (by rw [HSn.out]; exact HM.out)⟩
        case measure => simp [intOf]; omega
    · have k1 : ¬ (j : Int) < (xs.length : Int) := by omega
      have hcm := HC.out
      have hje : j = xs.length := by omega
      rw [hje, List.take_of_length_le (Nat.le_refl _)] at hcm
      have HM := Lib.hid hcm
      clear hcm HC HS
      go_upto_region 8 with (fail)
      obtain ⟨W8, hW8⟩ : ∃ W8, W8 = wL.alloc (.cells #[.int .i64 0, .int .i64 0] 23) := ⟨_, rfl⟩
      rw [← hW8]
      have hb8 : Below wL.heap.size wL W8 := by rw [hW8]; exact (Below.refl _ _).alloc (Nat.le_refl _) _
      have hn8 : W8.heap[wL.heap.size]? = some (.cells #[.int .i64 0, .int .i64 0] 23 (0, 0)) := by rw [hW8]; exact heap_alloc_new wL _
      have hm8 := HM.out.go hb8
      obtain ⟨f, ⟨es, clock, hmp, hst, _, _, hf⟩, hcnt⟩ := hm8.map
      have hrg := run_range_map (P := Try.prog) W8 55 23 3 _ _ _ Try.underlying55 hmp
      have hri := RI.start hmp hst
      have HE : Hid (∀ e ∈ es.toList, ∃ b : Bal, e.key = b.v ∧ 0 < cntA xs b ∧ e.val = .int .i64 (cntA xs b : Nat)) := fun e he => (hcnt e.key e.val).1 ((hf e.key e.val).2 ⟨e, he, rfl, rfl⟩)
      obtain ⟨wI, hwI⟩ : ∃ wI, wI = W8.alloc (.mapIter (some (w.heap.size + 1)) clock #[] clock) := ⟨_, rfl⟩
      rw [← hwI] at hrg hri
      have hbI : Below W8.heap.size W8 wI := by rw [hwI]; exact (Below.refl _ _).alloc (Nat.le_refl _) _
      have hnI := (hbI.block _ (Array.getElem?_eq_some_iff.1 hn8).1).trans hn8
      have hmI := hm8.go hbI
      have HI := Lib.hid (And.intro hri (And.intro hnI (And.intro hmI.box hmI.below)))
      have hmL : w.heap.size + 1 < wL.heap.size := by obtain ⟨_, q, _⟩ := HM.out.map; exact q.lt
      have HG : Hid (w.heap.size + 1 < wL.heap.size ∧ w.heap.size ≤ wL.heap.size ∧ wL.heap.size < W8.heap.size ∧ w.heap.size < wL.heap.size ∧ w.heap.size + 1 < W8.heap.size) :=
        ⟨hmL, HM.out.below.size, (Array.getElem?_eq_some_iff.1 hn8).1, (Array.getElem?_eq_some_iff.1 HM.out.box).1, (Array.getElem?_eq_some_iff.1 hmp).1⟩
      clear hb8 hn8 hm8 hmp hst hf hcnt hri hbI hnI hmI hwI hW8 HM hmL
      go_upto_region 9 with (fail)
      clear hrg
      go_loopw [10] (fun _ wr => ∃ (seen : Array Nat) (b : Bal), Hid (RI W8.heap.size (w.heap.size + 1) es clock seen wr ∧ wr.heap[wL.heap.size]? = some (.cells #[.int .i64 b.r, .int .i64 b.m] 23 (0, 0)) ∧ wr.heap[w.heap.size]? = some (.cells #[.int .i64 0, .int .i64 0] 23 (0, 0)) ∧ Below w.heap.size w wr ∧ BestB xs b)) (fun _ wr => itLeft W8.heap.size (w.heap.size + 1) wr)
      case atStart => exact ⟨#[], ⟨0, 0⟩, HI.out.1, HI.out.2.1, HI.out.2.2.1, HI.out.2.2.2, .inl rfl⟩
      case round =>
        obtain ⟨seen, b, HR⟩ := hrel
        obtain ⟨wR, rfl⟩ : ∃ wo : World, wo = wr := ⟨_, rfl⟩
        rcases HR.out.1.next (P := Try.prog) (by have := HG.out; omega) with ⟨_, hnx⟩ | ⟨e, he, w2, hnx, hri2, hch, hen, hmem⟩
        · obtain ⟨b0, b1, _⟩ := cells2 HR.out.2.1
          obtain ⟨r0, r1, rf⟩ := cells2 HR.out.2.2.1
          have HZ := Lib.hid (fun W => zero_any b.r b.m W)
          have HT := Lib.hid (fun W (hb : Below wR.heap.size wR W) => And.intro (cells2 ((hb.block _ (Array.getElem?_eq_some_iff.1 HR.out.2.1).1).trans HR.out.2.1)) (cells2 ((hb.block _ (Array.getElem?_eq_some_iff.1 HR.out.2.2.1).1).trans HR.out.2.2.1)))
          have HB := Lib.hid HR.out.2.2.2.1
          cases hz : zeroB ⟨b.r, b.m⟩ with
          | true =>
            rw [hz] at HZ
            clear hz
            go_wp2_with (go_at_call 22; (with_reducible refine (HZ.out _).mono ?_); rintro e w3 ⟨rfl, hb3⟩; obtain ⟨⟨b0, b1, _⟩, ⟨r0, r1, rf⟩⟩ := HT.out _ hb3; have HB3 := Lib.hid hb3; clear hb3)
            refine bodyPost_ret (v := .tuple #[.agg #[.int .i64 b.r, .int .i64 b.m], .slice none 0 0, .bool false]) (by simp [results, Try.results13, go_sem, *]) rfl ⟨b, none, 0, 0, false, rfl, ?_, fun h => by cases h⟩
            exact ((HB.out.trans (HB3.out.mono HB.out.size)).setCell (Nat.le_refl _) _).setCell (Nat.le_refl _) _
          | false =>
            have hbb : (∃ x ∈ xs, x.a = b) ∧ Maj xs b := by
              rcases HR.out.2.2.2.2 with h | h
              · rw [h] at hz; cases hz
              · exact h
            rw [hz] at HZ
            clear hz
            obtain ⟨q, hq, hqi, hqa⟩ := accI_found hbb.1
            obtain ⟨bd, od, cd, hve, hat⟩ := HV.out.1.at_ hq
            cases hve
            have hyl := HV.out.2 _ (List.getElem_mem hq)
            have HMem := Lib.hid (List.getElem_mem hq)
            generalize xs[q]'hq = y at *
            obtain ⟨Ay, cy, _, _, _, _, e4', hry⟩ := hat
            have HY := Lib.hid (And.intro hqa (And.intro hbb.2 (And.intro hry hyl.l)))
            have hltb : bd < w.heap.size := World.block_lt_of_cell? w _ e4'
            have HE4 : Hid (∀ W, Below w.heap.size w W → W.cell? ⟨bd, od + q * 5 + 4, none⟩ = some (.slice Ay y.l.length cy)) := fun W hb => (hb.cell (p := ⟨bd, od + q * 5 + 4, none⟩) hltb).trans e4'
            have HIx : Hid (∀ W, Below wR.heap.size wR W → Calls Try.prog 23 #[.slice (some ⟨bd, od, none⟩) xs.length cv, .func (.func 24) #[] #[.pointer (some ⟨wL.heap.size, 0, none⟩)]] W fun e w' => e = .returned (.int .i64 q) ∧ Below W.heap.size W w') := fun W hb => by
              have := idx_any wL.heap.size b.r b.m _ xs W (HV.out.1.below (HB.out.trans (hb.mono HB.out.size))) (HT.out W hb).1.1 (HT.out W hb).1.2.1 (by have := HN.out; omega)
              rwa [hqi] at this
            have HCl : Hid (∀ W, Below w.heap.size w W → Calls Try.prog 21 #[.slice Ay y.l.length cy] W fun e w' => ∃ A c, e = .returned (.slice A y.l.length c) ∧ w'.ownsRow W.heap.size 5 1 (.slice A y.l.length c) y.l.length (u8s y.l) ∧ Below W.heap.size W w') := fun W hb => by
              refine (clone_any _ y.l W (HY.out.2.2.1.below hb) HY.out.2.2.2).mono ?_
              rintro e w' ⟨v', rfl, hown, hb, _⟩
              obtain ⟨A', c', rfl⟩ := own_slice hown
              exact ⟨A', c', rfl, hown, hb⟩
            have hq0 : (0 : Int) ≤ (q : Int) := by omega
            have hq1 : (q : Int) < (xs.length : Int) := by omega
            clear hbb hqi hqa hyl hry e4'
            go_upto_region 16 with (first
              | (go_at_call 22; (with_reducible refine (HZ.out _).mono ?_); rintro e w3 ⟨rfl, hb3⟩; obtain ⟨⟨b0, b1, _⟩, ⟨r0, r1, rf⟩⟩ := HT.out _ hb3; have HB3 := Lib.hid hb3; clear hb3)
              | (go_at_call 23; (with_reducible refine (HIx.out _ HB3.out).mono ?_); rintro e w4 ⟨rfl, hb4⟩; have hb34 := HB3.out.trans (hb4.mono HB3.out.size); obtain ⟨⟨b0, b1, _⟩, ⟨r0, r1, rf⟩⟩ := HT.out _ hb34; have HB4 := Lib.hid hb34; clear hb4 hb34))
            have HD : Hid (Below w.heap.size w w4.drew) := (HB.out.trans (HB4.out.mono HB.out.size)).drew
            have e4 := HE4.out _ HD.out
            have e4n : w4.cell? ⟨bd, od + q * 5 + 4, none⟩ = some (.slice Ay y.l.length cy) := e4
            have HBd : Hid (Below wR.heap.size wR w4.drew) := HB4.out.drew
            have ne1 : ¬ wL.heap.size = w.heap.size := by have := HG.out; omega
            have ne2 : ¬ w.heap.size = wL.heap.size := by have := HG.out; omega
            have ne3 : ¬ bd = w.heap.size := by omega
            have ne4 : ¬ w.heap.size = bd := by omega
            go_region_held3 (fun W => W.cell? ⟨wL.heap.size, 0, none⟩ = some (.int .i64 b.r) ∧ W.cell? ⟨wL.heap.size, 1, none⟩ = some (.int .i64 b.m) ∧ W.cell? ⟨bd, od + q * 5 + 4, none⟩ = some (.slice Ay y.l.length cy)) (go_keep)
              (first | (go_at_call 21; refine (HCl.out _ HD.out).mono ?_; rintro e w6 ⟨A6, c6, rfl, hrd6, hb6⟩; have hb46 := HBd.out.trans (hb6.mono HBd.out.size); obtain ⟨⟨b0, b1, _⟩, ⟨r0, r1, rf⟩⟩ := HT.out _ hb46; have hbw6 := HB.out.trans (hb46.mono HB.out.size); have e4 := HE4.out _ hbw6; have HR6 := Lib.hid (And.intro hrd6 hbw6); clear hb6 hb46 hrd6 hbw6))
            all_goals
              go_wp2_with fail
              refine bodyPost_ret (v := .tuple #[.agg #[.int .i64 b.r, .int .i64 b.m], .slice A6 y.l.length c6, .bool true]) (by simp [results, Try.results13, go_sem, *]) rfl ⟨b, A6, _, c6, true, rfl, ?_, fun _ => ⟨HY.out.2.1, y, HMem.out, HY.out.1, rfl, ?_⟩⟩
              · exact (HR6.out.2.setCell (Nat.le_refl _) _).setCell (Nat.le_refl _) _
              · have hlt4 : w.heap.size < w4.drew.heap.size := Nat.lt_of_lt_of_le (by have := HG.out; exact Nat.lt_of_lt_of_le this.2.2.2.1 (by have h8 := (Array.getElem?_eq_some_iff.1 HR.out.2.1).1; omega)) HBd.out.size
                exact own_mono (own_low (own_low HR6.out.1 hlt4 _ _) hlt4 _ _) (Nat.le_of_lt hlt4)
        · obtain ⟨b', hk, hpos, hvv⟩ := HE.out e hmem
          have hk2 : e.key = .agg #[.int .i64 b'.r, .int .i64 b'.m] := hk
          have HM2 := Lib.hid (And.intro hpos (cntA_pos hpos))
          have HMj : Hid (Maj xs b' = (xs.length < 2 * cntA xs b' ∧ lessB ⟨0, 0⟩ b' = true)) := rfl
          have hcl := cntA_le xs b'
          generalize cntA xs b' = cc at *
          rw [hk2, hvv] at hnx hen
          have hb2 := (hch.block _ (Array.getElem?_eq_some_iff.1 HR.out.2.1).1 (by have := HG.out; simp; omega)).trans HR.out.2.1
          have hr2 := (hch.block _ (Array.getElem?_eq_some_iff.1 HR.out.2.2.1).1 (by have := HG.out; simp; omega)).trans HR.out.2.2.1
          have hbw2 : Below w.heap.size w w2 := HR.out.2.2.2.1.trans (hch.below HR.out.2.2.2.1.size (by have := HG.out; simp; omega))
          have HX := Lib.hid (fun W (hb : Below w2.heap.size w2 W) => And.intro ((hb.block _ (Array.getElem?_eq_some_iff.1 hb2).1).trans hb2) (And.intro ((hb.block _ (Array.getElem?_eq_some_iff.1 hr2).1).trans hr2) (And.intro (hri2.go hb) (hbw2.trans (hb.mono hbw2.size)))))
          have HAl : Hid (∀ o, Below w2.heap.size w2 (w2.alloc o)) := fun o => (Below.refl _ _).alloc (Nat.le_refl _) o
          have g0 := fun o => (cells2 (HX.out _ (HAl.out o)).1).1
          have g1 := fun o => (cells2 (HX.out _ (HAl.out o)).1).2.1
          have HL := Lib.hid (fun W => less_any b.r b.m b'.r b'.m W)
          have HTr : Hid (lessB ⟨b.r, b.m⟩ ⟨b'.r, b'.m⟩ = true → xs.length < 2 * cc → BestB xs b') := fun h1 h2 => by
            refine .inr ⟨HM2.out.2, ?_⟩
            rw [HMj.out]
            refine ⟨h2, ?_⟩
            rcases HR.out.2.2.2.2 with h | h
            · subst h; exact h1
            · exact lessB_trans h.2.2 h1
          have HMs : Hid (itLeft W8.heap.size (w.heap.size + 1) wR = (leftOf es seen).size ∧ (leftOf es (seen.push e.born)).size < (leftOf es seen).size) := ⟨HR.out.1.left, left_push es seen e he⟩
          generalize lessB ⟨b.r, b.m⟩ ⟨b'.r, b'.m⟩ = B at *
          clear hk hpos hvv hk2 hcl hb2 hr2 hbw2 hri2 hch he hmem
          have hn9 : (xs.length : Int) ≤ 1000 := by have := HN.out; omega
          by_cases hc : (xs.length : Int) / 2 < (cc : Int)
          · have HCc : Hid (xs.length < 2 * cc) := by show _ < _; omega
            cases B
            · go_wp2_with (go_at_call 16; (with_reducible refine (HL.out _).mono ?_); rintro e w5 ⟨rfl, hb5⟩; have hb25 := (HAl.out _).trans (hb5.mono (HAl.out _).size); have HB5 := Lib.hid hb25; clear hb5 hb25)
              go_roundw
              case rel => exact ⟨seen.push e.born, b, (HX.out _ HB5.out).2.2.1, (HX.out _ HB5.out).1, (HX.out _ HB5.out).2.1, (HX.out _ HB5.out).2.2.2, HR.out.2.2.2.2⟩
              case measure => rw [HMs.out.1, (HX.out _ HB5.out).2.2.1.left]; exact HMs.out.2
            · go_wp2_with (go_at_call 16; (with_reducible refine (HL.out _).mono ?_); rintro e w5 ⟨rfl, hb5⟩; have hb25 := (HAl.out _).trans (hb5.mono (HAl.out _).size); obtain ⟨n0, n1, _⟩ := cells2 ((hb5.block _ (by simp)).trans (heap_alloc_new w2 (.cells #[.int .i64 b'.r, .int .i64 b'.m] 23))); obtain ⟨m0, m1, mf⟩ := cells2 (HX.out _ hb25).1; have HB5 := Lib.hid hb25; clear hb5 hb25)
              have hri5 := (HX.out _ HB5.out).2.2.1
              have hri6 : RI W8.heap.size (w.heap.size + 1) es clock (seen.push e.born) ((w5.setCell ⟨wL.heap.size, 0, none⟩ (.int .i64 b'.r)).setCell ⟨wL.heap.size, 1, none⟩ (.int .i64 b'.m)) := hri5.same
                (by rw [Below.heap_setCell _ _ _ _ (by have := HG.out; simp; omega), Below.heap_setCell _ _ _ _ (by have := HG.out; simp; omega)]) (by rw [Below.heap_setCell _ _ _ _ (by have := HG.out; simp; omega), Below.heap_setCell _ _ _ _ (by have := HG.out; simp; omega)])
              have HR6 := Lib.hid hri6
              clear hri5 hri6
              go_roundw
              case rel =>
                refine ⟨seen.push e.born, b', HR6.out, set2 (HX.out _ HB5.out).1 _ _, ?_, (((HX.out _ HB5.out).2.2.2).setCell (by have := HG.out; simp; omega) _).setCell (by have := HG.out; simp; omega) _, HTr.out (by first | rfl | trivial) HCc.out⟩
                rw [Below.heap_setCell _ _ _ _ (by have := HG.out; simp; omega), Below.heap_setCell _ _ _ _ (by have := HG.out; simp; omega)]
                exact (HX.out _ HB5.out).2.1
              case measure => rw [HMs.out.1, HR6.out.left]; exact HMs.out.2
          · go_wp2_with fail
            go_roundw
            case rel => exact ⟨seen.push e.born, b, (HX.out _ (HAl.out _)).2.2.1, (HX.out _ (HAl.out _)).1, (HX.out _ (HAl.out _)).2.1, (HX.out _ (HAl.out _)).2.2.2, HR.out.2.2.2.2⟩
            case measure => rw [HMs.out.1, (HX.out _ (HAl.out _)).2.2.1.left]; exact HMs.out.2
end Go.Proofs.Ytaopfgoofhojeaa
