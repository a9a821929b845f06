/- The walk of spans, of one call begun and ended. -/
import Derived.Test.YtbbbdhpihcbmmaaPSpan
namespace Go.Proofs.Ytbbbdhpihcbmmaa
open Go.RowKit Own

/-- spans' answer -/
def SpanPost (x0 x1 : EvIn) (w : World) (mb : Nat) (w' : World) : Prop :=
  ∃ g cap dv rv, w'.heap[mb]? = some (.map #[⟨.string x0.call.s, .slice (some ⟨g, 0, none⟩) 1 cap, 0⟩] 1) ∧ w'.ownsRow w.heap.size 73 11 (.slice (some ⟨g, 0, none⟩) 1 cap) 1 (spanC x0.call dv 0 1 true x1.rep rv).toList ∧ ReadsB w' dv x0.call.d ∧ ReadsB w' rv x1.rep.d ∧ Below w.heap.size w w'
theorem SpanPost.go {x0 x1 : EvIn} {w w1 w2 : World} {mb : Nat} (h : SpanPost x0 x1 w mb w1) (hb : Below w1.heap.size w1 w2) : SpanPost x0 x1 w mb w2 := by
  obtain ⟨g, cap, dv, rv, h1, h2, h3, h4, h5⟩ := h
  exact ⟨g, cap, dv, rv, (hb.block _ (Array.getElem?_eq_some_iff.1 h1).1).trans h1, own_below h2 hb, h3.below hb, h4.below hb, h5.trans (hb.mono h5.size)⟩
theorem SpanPost.below {x0 x1 : EvIn} {w w1 : World} {mb : Nat} (h : SpanPost x0 x1 w mb w1) : Below w.heap.size w w1 := by
  obtain ⟨g, cap, dv, rv, h1, h2, h3, h4, h5⟩ := h
  exact h5
theorem endI_two (x0 x1 : EvIn) (h0 : x0.done = false) (h1 : x1.done = true) (hk : x1.kc = x0.kc ∧ x1.ks = x0.ks) : endI x0.kc x0.ks [x0, x1] = 1 := by
  have e0 : endB x0.kc x0.ks x0 = false := by simp [endB, h0]
  have e1 : endB x0.kc x0.ks x1 = true := by simp [endB, h1, hk.1, hk.2]
  have : List.findIdx (endB x0.kc x0.ks) [x0, x1] = 1 := by simp [List.findIdx_cons, e0, e1]
  unfold endI
  rw [this]; rfl

attribute [local go_sem ↓] hide_append
set_option maxHeartbeats 8000000 in
set_option maxRecDepth 100000 in
theorem spans_two (v : Value) (x0 x1 : EvIn) (w : World) (hv : ReadsEvs w v [x0, x1]) (hok : EvOk x0) (h0 : x0.done = false) (h1 : x1.done = true) (hu : x1.unk = false) (hk : x1.kc = x0.kc ∧ x1.ks = x0.ks) :
    Calls Try.prog 26 #[v] w fun e w' => e = .returned (.map (some w.heap.size)) ∧ SpanPost x0 x1 w w.heap.size w' := by
  obtain ⟨Av, cv, rfl⟩ := hv.slice
  have HV := Lib.hid hv
  have HOk := Lib.hid hok
  have hE := endI_two x0 x1 h0 h1 hk
  have HIdx : Hid (∀ W eb, Below w.heap.size w W → W.cell? ⟨eb, 0, none⟩ = some (.int .i64 x0.kc) → W.cell? ⟨eb, 1, none⟩ = some (.int .i64 x0.ks) → ∃ q : Nat, Hid (q = 1) ∧ Calls Try.prog 33 #[.slice Av [x0, x1].length cv, .func (.func 34) #[] #[.pointer (some ⟨eb, 0, none⟩)]] W fun e w' => e = .returned (.int .i64 q) ∧ Below W.heap.size W w') := fun W eb hW c0 c1 => by
    have := idx_any eb x0.kc x0.ks _ _ W (HV.out.below hW) c0 c1 (by simp)
    rw [hE] at this
    exact ⟨1, rfl, this⟩
  have HX0 : Hid (x0.done = false) := h0
  have HX1 : Hid (x1.done = true ∧ x1.unk = false) := ⟨h1, hu⟩
  have HA0 : Hid (∀ j (hj : j < [x0, x1].length), j = 0 → [x0, x1][j]'hj = x0) := fun j hj e => by subst e; rfl
  have HA1 : Hid (∀ j (hj : j < [x0, x1].length), 1 ≤ j → [x0, x1][j]'hj = x1) := fun j hj e => by
    obtain rfl : j = 1 := by simp at hj; omega
    rfl
  have hN : ∃ N : Nat, [x0, x1].length = N ∧ N = 2 := ⟨_, rfl, rfl⟩
  obtain ⟨N, hN, hN2⟩ := hN
  have HN2 : Hid (N = 2) := hN2
  clear hN2
  have HAt : Hid (∀ j (hj : j < [x0, x1].length), ∃ bb off, Av = some ⟨bb, off, none⟩ ∧ ∀ W, Below w.heap.size w W → EvAt W bb (off + j * 12) ([x0, x1][j]'hj)) := fun j hj => by
    rcases hv with ⟨_, h⟩ | ⟨b, off, c, he, hc⟩
    · cases h
    · cases he
      exact ⟨b, off, rfl, fun W hW => (hc j hj).below hW⟩
  generalize hxs : [x0, x1] = xs at *
  rw [hN] at HIdx
  clear hv hok h0 h1 hu hk hE HV hxs
  have hmm := @run_makeMap Try.prog
  rw [hN]
  go_enter Try.func26, Try.ntmps26
  go_wp2_with fail
  go_loopw [11] (fun i wr => ∃ j : Nat, i = .int .i64 j ∧ j ≤ N ∧ Hid ((j = 0 ∧ wr = w.alloc (.map #[] 0)) ∨ (1 ≤ j ∧ SpanPost x0 x1 w w.heap.size wr))) (fun i _ => N - (intOf i).toNat)
  case atStart => exact ⟨0, rfl, Nat.zero_le _, .inl ⟨rfl, rfl⟩⟩
  case round =>
    obtain ⟨j, rfl, hjN, HJ⟩ := hrel
    obtain ⟨wL, rfl⟩ : ∃ wo : World, wo = wr := ⟨_, rfl⟩
    have kN : (N : Int) ≤ 100 := by have : N = 2 := HN2.out; omega
    by_cases hj : j < N
    · have k1 : (j : Int) < (N : Int) := by omega
      have k0 : (0 : Int) ≤ (j : Int) := by omega
      have hjx : j < xs.length := by omega
      obtain ⟨bb, off, rfl, hat⟩ := HAt.out j hjx
      by_cases hj0 : j = 0
      · have HJ00 := Lib.hid hj0
        rcases HJ.out with ⟨hj00, hwL⟩ | ⟨h, _⟩
        · have hx := HA0.out j hjx hj0
          have hlt1 : 1 < xs.length := by have : N = 2 := HN2.out; omega
          obtain ⟨bb', off', he, hat1⟩ := HAt.out 1 hlt1
          cases he
          have hx1 := HA1.out 1 hlt1 (Nat.le_refl _)
          have hbL : Below w.heap.size w wL := by rw [hwL]; exact (Below.refl _ _).alloc (Nat.le_refl _) _
          have hact := hat w (Below.refl _ _)
          rw [hx] at hact
          rw [hx1] at hat1
          obtain ⟨dA, dc, rA, rc, hce, hrd, _⟩ := hact.cellsB
          obtain ⟨sA, sc, tA, tc, hcf, _, hyr⟩ := (hat1 w (Below.refl _ _)).cellsB
          obtain ⟨e0, e1, e2, e3, e4, e5, e6, e7, e8, e9, e10, e11⟩ := hce wL hbL
          rw [HX0.out] at e2
          have hmapL : wL.heap[w.heap.size]? = some (.map #[] 0) := by rw [hwL]; exact heap_alloc_new w _
          obtain ⟨O1, hO1⟩ : ∃ O1, O1 = Obj.cells (evC x0 (.slice dA x0.call.d.length dc) (.slice rA x0.rep.d.length rc)) 44 := ⟨_, rfl⟩
          obtain ⟨O2, hO2⟩ : ∃ O2, O2 = Obj.cells (spanC x0.call (.slice dA x0.call.d.length dc) j N false ⟨0, 0, []⟩ (.slice none 0 0)) 73 := ⟨_, rfl⟩
          have b1 : Below wL.heap.size wL (wL.alloc O1) := (Below.refl _ _).alloc (Nat.le_refl _) _
          have b2 : Below (wL.alloc O1).heap.size (wL.alloc O1) ((wL.alloc O1).alloc O2) := (Below.refl _ _).alloc (Nat.le_refl _) _
          have hsz : (wL.alloc O1).heap.size = wL.heap.size + 1 := by simp
          have x1b : (wL.alloc O1).heap[wL.heap.size]? = some (.cells (evC x0 (.slice dA x0.call.d.length dc) (.slice rA x0.rep.d.length rc)) 44 (0, 0)) := by rw [hO1]; exact heap_alloc_new wL _
          have x2b : ((wL.alloc O1).alloc O2).heap[wL.heap.size + 1]? = some (.cells (spanC x0.call (.slice dA x0.call.d.length dc) j N false ⟨0, 0, []⟩ (.slice none 0 0)) 73 (0, 0)) := by rw [hO2, ← hsz]; exact heap_alloc_new (wL.alloc O1) _
          have x1c := (b2.block wL.heap.size (by omega)).trans x1b
          have b12 := b1.trans (b2.mono b1.size)
          obtain ⟨q, hq, hI⟩ := HIdx.out ((wL.alloc O1).alloc O2) wL.heap.size (hbL.trans (b12.mono hbL.size)) (by rw [cell_of_row _ _ 0 _ _ _ x1c]; rfl) (by rw [cell_of_row _ _ 1 _ _ _ x1c]; rfl)
          have q0 : (0 : Int) ≤ (q : Int) := by omega
          have q1 : (q : Int) < (N : Int) := by have : q = 1 := hq; have : N = 2 := HN2.out; omega
          have HAft : Hid (∀ w3, Below ((wL.alloc O1).alloc O2).heap.size ((wL.alloc O1).alloc O2) w3 → w3.heap[wL.heap.size]? = some (.cells (evC x0 (.slice dA x0.call.d.length dc) (.slice rA x0.rep.d.length rc)) 44 (0, 0)) ∧ w3.heap[wL.heap.size + 1]? = some (.cells (spanC x0.call (.slice dA x0.call.d.length dc) j N false ⟨0, 0, []⟩ (.slice none 0 0)) 73 (0, 0)) ∧ w3.heap[w.heap.size]? = some (.map #[] 0) ∧ Below w.heap.size w w3 ∧ w.heap.size < wL.heap.size) := fun w3 hb => by
            have hlL : w.heap.size < wL.heap.size := (Array.getElem?_eq_some_iff.1 hmapL).1
            have hs2 : ((wL.alloc O1).alloc O2).heap.size = wL.heap.size + 2 := by simp
            have b3 := b12.trans (hb.mono b12.size)
            exact ⟨(hb.block _ (by omega)).trans x1c, (hb.block _ (by omega)).trans x2b, (b3.block _ hlL).trans hmapL, hbL.trans (b3.mono hbL.size), hlL⟩
          rw [show 1 = q from hq.symm] at hcf
          have HCf := Lib.hid hcf
          have HRd := Lib.hid (And.intro hrd hyr)
          have HI := Lib.hid hI
          have HQ : Hid (q = 1 ∧ j = 0) := ⟨hq, hj0⟩
          rw [hO1, hO2] at HI HAft
          obtain ⟨xc, xk, xdone, xunk, ⟨k, xs', a, d, n⟩, ⟨code, size, rd⟩⟩ := x0
          obtain ⟨yc, yk, ydone, yunk, ycall, ⟨ycode, ysize, yrd⟩⟩ := x1
          dsimp only at e0 e1 e2 e3 e4 e5 e6 e7 e8 e9 e10 e11 HOk HX1 HX0 HCf HRd
          dsimp only [evC, spanC] at HI HAft
          obtain rfl : xdone = false := HX0.out
          obtain ⟨z1, z2⟩ := HX1.out
          subst z1
          subst z2
          clear HX0 HX1
          clear hact hat1 hx hx1 hI hq hO1 hO2 b1 b2 hsz x1b x2b x1c b12 hmapL hbL hrd hyr hce hcf hat HJ hj0 HIdx HAt HA0 HA1 hj00 hwL hlt1
          go_wp2_with (go_at_call 33; refine HI.out.mono ?_; rintro e w3 ⟨rfl, hb3⟩; obtain ⟨y1, y2, y4, y6, y7⟩ := HAft.out w3 hb3; obtain ⟨f0, f1, f2, f3, f4, f5, f6, f7, f8, f9, f10, f11⟩ := HCf.out w3 y6)
          have t0 := cell_of_row w3 (wL.heap.size + 1) 0 _ _ _ y2
          have t1 := cell_of_row w3 (wL.heap.size + 1) 1 _ _ _ y2
          have t2 := cell_of_row w3 (wL.heap.size + 1) 2 _ _ _ y2
          have t3 := cell_of_row w3 (wL.heap.size + 1) 3 _ _ _ y2
          have t4 := cell_of_row w3 (wL.heap.size + 1) 4 _ _ _ y2
          have t5 := cell_of_row w3 (wL.heap.size + 1) 5 _ _ _ y2
          have t6 := cell_of_row w3 (wL.heap.size + 1) 6 _ _ _ y2
          have t7 := cell_of_row w3 (wL.heap.size + 1) 7 _ _ _ y2
          have t8 := cell_of_row w3 (wL.heap.size + 1) 8 _ _ _ y2
          have t9 := cell_of_row w3 (wL.heap.size + 1) 9 _ _ _ y2
          have t10 := cell_of_row w3 (wL.heap.size + 1) 10 _ _ _ y2
          have z6 := frozen_of_block y2 6
          have z7 := frozen_of_block y2 7
          have z8 := frozen_of_block y2 8
          have z9 := frozen_of_block y2 9
          have z10 := frozen_of_block y2 10
          have HY := Lib.hid (And.intro y1 (And.intro y2 (And.intro y4 (And.intro y6 y7))))
          simp only [List.getElem?_toArray, List.getElem?_cons_zero, List.getElem?_cons_succ] at t0 t1 t2 t3 t4 t5 t6 t7 t8 t9 t10
          clear y1 y2 y4 y6 y7 HAft e0 e1 e2 e3 e4 e5 e6 e7 e8 e9 e10 e11 hb3
          go_region
          all_goals
            obtain ⟨y1, y2, y4, y6, y7⟩ := HY.out
            obtain ⟨Y, hY⟩ : ∃ Y, Y = (((((w3.setCell ⟨wL.heap.size + 1, 6, none⟩ (.int .i64 q)).setCell ⟨wL.heap.size + 1, 7, none⟩ (.bool true)).setCell ⟨wL.heap.size + 1, 8, none⟩ (.int .i64 ycode)).setCell ⟨wL.heap.size + 1, 9, none⟩ (.int .i64 ysize)).setCell ⟨wL.heap.size + 1, 10, none⟩ (.slice tA yrd.length tc)).drew := ⟨_, rfl⟩
            have v1 := Own.heap_setCell_same y2 6 (.int .i64 q)
            have v2 := Own.heap_setCell_same v1 7 (.bool true)
            have v3 := Own.heap_setCell_same v2 8 (.int .i64 ycode)
            have v4 := Own.heap_setCell_same v3 9 (.int .i64 ysize)
            have v5 := Own.heap_setCell_same v4 10 (.slice tA yrd.length tc)
            have hch : Chg [wL.heap.size + 1] w3 Y := by rw [hY]; exact chg_set5 w3 _ _ _ _ _ _ _ _ _ _ _
            have u2 : Y.heap[wL.heap.size + 1]? = some (.cells (spanC ⟨k, xs', a, d, n⟩ (.slice dA d.length dc) j q true ⟨ycode, ysize, yrd⟩ (.slice tA yrd.length tc)) 73 (0, 0)) := by rw [hY]; exact v5
            have u1 := (hch.block wL.heap.size (Array.getElem?_eq_some_iff.1 y1).1 (by simp)).trans y1
            have u4 := (hch.block w.heap.size (Array.getElem?_eq_some_iff.1 y4).1 (by simp; omega)).trans y4
            have u6 : Below w.heap.size w Y := y6.trans (hch.below y6.size (by simp; omega))
            rw [← hY]
            have HOs : Hid (xs'.size ≤ 140737488351232) := HOk.out.call.s
            have hdr : Below Y.heap.size Y Y.drew := ⟨rfl, rfl, rfl, Nat.le_refl _, fun _ _ => rfl⟩
            have hal : ∀ o, Below Y.heap.size Y (Y.alloc o) := fun o => (Below.refl _ _).alloc (Nat.le_refl _) o
            have lk1 := empty_look w.heap.size xs' HOs.out Y.drew ((hdr.block _ (Array.getElem?_eq_some_iff.1 u4).1).trans u4)
            have lk2 := fun o => empty_look w.heap.size xs' HOs.out (Y.alloc o).drew ((((hal o).drew).block _ (Array.getElem?_eq_some_iff.1 u4).1).trans u4)
            obtain ⟨g, cap, W, hr, hown, hbW⟩ := span_append Y w.heap.size u6.size ⟨k, xs', a, d, n⟩ dA tA d.length dc yrd.length tc j q true ⟨ycode, ysize, yrd⟩
            have u4W := (hbW.block _ (Array.getElem?_eq_some_iff.1 u4).1).trans u4
            have hput := empty_put w.heap.size xs' HOs.out (.slice (some ⟨g, 0, none⟩) 1 cap) W u4W
            have n0 := cell_of_row Y wL.heap.size 5 _ _ _ u1
            have n1 := fun o => cell_of_row (Y.alloc o) wL.heap.size 5 _ _ _ (((hal o).block _ (Array.getElem?_eq_some_iff.1 u1).1).trans u1)
            have n2 := cell_of_row W wL.heap.size 5 _ _ _ ((hbW.block _ (Array.getElem?_eq_some_iff.1 u1).1).trans u1)
            have t0 := cell_of_row Y (wL.heap.size + 1) 0 _ _ _ u2
            have t1 := cell_of_row Y (wL.heap.size + 1) 1 _ _ _ u2
            have t2 := cell_of_row Y (wL.heap.size + 1) 2 _ _ _ u2
            have t3 := cell_of_row Y (wL.heap.size + 1) 3 _ _ _ u2
            have t4 := cell_of_row Y (wL.heap.size + 1) 4 _ _ _ u2
            have t5 := cell_of_row Y (wL.heap.size + 1) 5 _ _ _ u2
            have t6 := cell_of_row Y (wL.heap.size + 1) 6 _ _ _ u2
            have t7 := cell_of_row Y (wL.heap.size + 1) 7 _ _ _ u2
            have t8 := cell_of_row Y (wL.heap.size + 1) 8 _ _ _ u2
            have t9 := cell_of_row Y (wL.heap.size + 1) 9 _ _ _ u2
            have t10 := cell_of_row Y (wL.heap.size + 1) 10 _ _ _ u2
            dsimp only [spanC] at hr t0 t1 t2 t3 t4 t5 t6 t7 t8 t9 t10
            simp only [List.getElem?_toArray, List.getElem?_cons_zero, List.getElem?_cons_succ] at n0 n1 n2 t0 t1 t2 t3 t4 t5 t6 t7 t8 t9 t10
            have HFin : Hid (SpanPost ⟨xc, xk, false, xunk, ⟨k, xs', a, d, n⟩, ⟨code, size, rd⟩⟩ ⟨yc, yk, true, false, ycall, ⟨ycode, ysize, yrd⟩⟩ w w.heap.size (ChangeMaps.setBlock W w.heap.size (.map #[⟨.string xs', .slice (some ⟨g, 0, none⟩) 1 cap, 0⟩] 1))) := by
              obtain ⟨hq1, hj1⟩ := HQ.out
              have hcb := chg_setBlock w.heap.size (.map #[⟨.string xs', .slice (some ⟨g, 0, none⟩) 1 cap, 0⟩] 1) W
              have hbZ : Below w.heap.size w (ChangeMaps.setBlock W w.heap.size (.map #[⟨.string xs', .slice (some ⟨g, 0, none⟩) 1 cap, 0⟩] 1)) := (u6.trans (hbW.mono u6.size)).trans (hcb.below (Nat.le_trans u6.size hbW.size) (by simp))
              refine ⟨g, cap, .slice dA d.length dc, .slice tA yrd.length tc, ChangeMaps.heap_setBlock_same u4W _, ?_, HRd.out.1.below hbZ, HRd.out.2.below hbZ, hbZ⟩
              have := own_same hown (w' := ChangeMaps.setBlock W w.heap.size (.map #[⟨.string xs', .slice (some ⟨g, 0, none⟩) 1 cap, 0⟩] 1)) (fun b hb => hcb.block b (hown.lt b hb).2 (by
                rw [List.mem_singleton]
                rintro rfl
                obtain ⟨cur, hc⟩ := own_type hown hb
                rw [u4W] at hc; cases hc))
              rw [hq1, hj1] at this
              exact this
            clear v1 v2 v3 v4 v5 hch u1 u2 u4 u6 hY hdr hal hown hbW u4W y1 y2 y4 y6 y7 f0 f1 f2 f3 f4 f5 f6 f7 f8 f9 f10 f11 z6 z7 z8 z9 z10
            go_wp2_with fail
            go_region
            all_goals
              go_wp2_with fail
              go_roundw
              case rel => exact ⟨j + 1, by go_num, by omega, .inr ⟨Nat.le_add_left 1 j, HFin.out⟩⟩
              case measure => simp [intOf]; omega
        · omega
      · have hsp : SpanPost x0 x1 w w.heap.size wL := by
          rcases HJ.out with ⟨h, _⟩ | ⟨_, h⟩
          · exact absurd h hj0
          · exact h
        have hx := HA1.out j hjx (by omega)
        have hact := hat wL hsp.below
        rw [hx] at hact
        obtain ⟨dA, dc, rA, rc, ⟨e0, e1, e2, e3, e4, e5, e6, e7, e8, e9, e10, e11⟩, _, _⟩ := hact.cells
        rw [HX1.out.1] at e2
        have HSP := Lib.hid hsp
        have HJ1 : Hid (1 ≤ j + 1) := by show _ ≤ _; omega
        clear hact hx hat hsp HJ hj0
        go_wp2_with fail
        go_roundw
        case rel => exact ⟨j + 1, by go_num, by omega, .inr ⟨HJ1.out, HSP.out.go ((Below.refl _ _).alloc (Nat.le_refl _) _)⟩⟩
        case measure => simp [intOf]; omega
    · have hsp : SpanPost x0 x1 w w.heap.size wL := by
        rcases HJ.out with ⟨h, _⟩ | ⟨_, h⟩
        · have : N = 2 := HN2.out
          omega
        · exact h
      obtain rfl : j = N := by omega
      have HSP := Lib.hid hsp
      clear hsp HJ
      go_wp2_with fail
      go_ret
      exact ⟨rfl, HSP.out⟩
end Go.Proofs.Ytbbbdhpihcbmmaa
