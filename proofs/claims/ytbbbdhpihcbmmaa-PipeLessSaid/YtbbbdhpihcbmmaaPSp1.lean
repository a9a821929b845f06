/- The walk of spans, of any history. (Printed by gen_spans.py.) -/
import Derived.Test.YtbbbdhpihcbmmaaPSp0
namespace Go.Proofs.Ytbbbdhpihcbmmaa
open Go.RowKit Own

def SpansPost (xs : List EvIn) (w : World) (w' : World) : Prop := ∃ n f, GI w w.heap.size n (fun s => upTo xs s xs.length) f w'
theorem endI_some {kc ks : Int} {xs : List EvIn} (h : xs.findIdx (endB kc ks) < xs.length) : endI kc ks xs = (xs.findIdx (endB kc ks) : Int) := by unfold endI; rw [if_pos h]
theorem endI_none {kc ks : Int} {xs : List EvIn} (h : ¬ xs.findIdx (endB kc ks) < xs.length) : endI kc ks xs = -1 := by unfold endI; rw [if_neg h]

attribute [local go_sem ↓] hide_append
set_option maxHeartbeats 16000000 in
set_option maxRecDepth 100000 in
theorem spans_any (v : Value) (xs : List EvIn) (w : World) (hv : ReadsEvs w v xs) (hok : ∀ x ∈ xs, EvOk x) (hn : xs.length ≤ 64) :
    Calls Try.prog 26 #[v] w fun e w' => e = .returned (.map (some w.heap.size)) ∧ SpansPost xs w w' := by
  obtain ⟨Av, cv, rfl⟩ := hv.slice
  have HV := Lib.hid hv
  have HOk := Lib.hid hok
  have HIdx : Hid (∀ kc ks W eb, Below w.heap.size w W → W.cell? ⟨eb, 0, none⟩ = some (.int .i64 kc) → W.cell? ⟨eb, 1, none⟩ = some (.int .i64 ks) → Calls Try.prog 33 #[.slice Av xs.length cv, .func (.func 34) #[] #[.pointer (some ⟨eb, 0, none⟩)]] W fun e w' => e = .returned (.int .i64 (endI kc ks xs)) ∧ Below W.heap.size W w') := fun kc ks W eb hW c0 c1 => idx_any eb kc ks _ _ W (HV.out.below hW) c0 c1 (by omega)
  obtain ⟨N, hN⟩ : ∃ N : Nat, xs.length = N := ⟨_, rfl⟩
  have HN : Hid (xs.length = N ∧ N ≤ 64) := ⟨hN, by omega⟩
  have HAt : Hid (∀ j (hj : j < xs.length), ∃ bb off, Av = some ⟨bb, off, none⟩ ∧ ∀ W, Below w.heap.size w W → EvAt W bb (off + j * 12) (xs[j]'hj)) := fun j hj => by
    rcases hv with ⟨_, h⟩ | ⟨b, off, c, he, hc⟩
    · subst h; cases hj
    · cases he
      exact ⟨b, off, rfl, fun W hW => (hc j hj).below hW⟩
  rw [hN] at HIdx
  clear hv hok HV
  have hmm := @run_makeMap Try.prog
  have HS := Lib.hid (GI.made w xs)
  rw [hN]
  clear hN hn
  go_enter Try.func26, Try.ntmps26
  go_wp2_with fail
  go_loopw [11] (fun i wr => ∃ j : Nat, i = .int .i64 j ∧ j ≤ N ∧ Hid (∃ n f, GI w w.heap.size n (fun s => upTo xs s j) f wr)) (fun i _ => N - (intOf i).toNat)
  case atStart => exact ⟨0, rfl, Nat.zero_le _, 0, noKeys, HS.out⟩
  case round =>
    obtain ⟨j, rfl, hjN, HJ⟩ := hrel
    obtain ⟨wL, rfl⟩ : ∃ wo : World, wo = wr := ⟨_, rfl⟩
    obtain ⟨nn, f, hgi⟩ := HJ.out
    clear HJ HS
    have kN : (N : Int) ≤ 100 := by have := HN.out.2; omega
    by_cases hj : j < N
    · have k1 : (j : Int) < (N : Int) := by omega
      have k0 : (0 : Int) ≤ (j : Int) := by omega
      have hjx : j < xs.length := by have := HN.out.1; omega
      obtain ⟨bb, off, rfl, hat⟩ := HAt.out j hjx
      have hbL := hgi.bel
      cases hd : (xs[j]'hjx).done with
      | true =>
        obtain ⟨dA, dc, rA, rc, ⟨e0, e1, e2, e3, e4, e5, e6, e7, e8, e9, e10, e11⟩, _, _⟩ := (hat wL hbL).cells
        rw [hd] at e2
        have HG := Lib.hid (hgi.eqv (upTo_done hjx hd))
        clear hat hgi hbL hd
        generalize xs[j]'hjx = x at *
        clear hjx
        go_wp2_with fail
        go_roundw
        case rel => exact ⟨j + 1, by go_num, by omega, nn, f, HG.out.go ((Below.refl _ _).alloc (Nat.le_refl _) _)⟩
        case measure => simp [intOf]; omega
      | false =>
        have hux := upTo_begin hjx hd
        have hxo := HOk.out _ (List.getElem_mem hjx)
        have hlen := upTo_len xs (xs[j]'hjx).call.s j
        have hso := spanOf.eq_1 xs (xs[j]'hjx) j
        obtain ⟨dA, dc, rA, rc, hce, hrd, _⟩ := (hat w (Below.refl _ _)).cellsB
        clear hat
        generalize xs[j]'hjx = x at *
        obtain ⟨e0, e1, e2, e3, e4, e5, e6, e7, e8, e9, e10, e11⟩ := hce wL hbL
        rw [hd] at e2
        obtain ⟨O1, hO1⟩ : ∃ O1, O1 = Obj.cells (evC x (.slice dA x.call.d.length dc) (.slice rA x.rep.d.length rc)) 44 := ⟨_, rfl⟩
        obtain ⟨O2, hO2⟩ : ∃ O2, O2 = Obj.cells (spanC x.call (.slice dA x.call.d.length dc) j N false ⟨0, 0, []⟩ (.slice none 0 0)) 73 := ⟨_, rfl⟩
        have b1 : Below wL.heap.size wL (wL.alloc O1) := (Below.refl _ _).alloc (Nat.le_refl _) _
        have b2 : Below (wL.alloc O1).heap.size (wL.alloc O1) ((wL.alloc O1).alloc O2) := (Below.refl _ _).alloc (Nat.le_refl _) _
        have hsz : (wL.alloc O1).heap.size = wL.heap.size + 1 := by simp
        have x1b : (wL.alloc O1).heap[wL.heap.size]? = some (.cells (evC x (.slice dA x.call.d.length dc) (.slice rA x.rep.d.length rc)) 44 (0, 0)) := by rw [hO1]; exact heap_alloc_new wL _
        have x2b : ((wL.alloc O1).alloc O2).heap[wL.heap.size + 1]? = some (.cells (spanC x.call (.slice dA x.call.d.length dc) j N false ⟨0, 0, []⟩ (.slice none 0 0)) 73 (0, 0)) := by rw [hO2, ← hsz]; exact heap_alloc_new (wL.alloc O1) _
        have x1c := (b2.block wL.heap.size (by omega)).trans x1b
        have b12 := b1.trans (b2.mono b1.size)
        have hI := HIdx.out x.kc x.ks ((wL.alloc O1).alloc O2) wL.heap.size (hbL.trans (b12.mono hbL.size)) (by rw [cell_of_row _ _ 0 _ _ _ x1c]; rfl) (by rw [cell_of_row _ _ 1 _ _ _ x1c]; rfl)
        have HAft : Hid (∀ w3, Below ((wL.alloc O1).alloc O2).heap.size ((wL.alloc O1).alloc O2) w3 → w3.heap[wL.heap.size]? = some (.cells (evC x (.slice dA x.call.d.length dc) (.slice rA x.rep.d.length rc)) 44 (0, 0)) ∧ w3.heap[wL.heap.size + 1]? = some (.cells (spanC x.call (.slice dA x.call.d.length dc) j N false ⟨0, 0, []⟩ (.slice none 0 0)) 73 (0, 0)) ∧ Below wL.heap.size wL w3 ∧ Below w.heap.size w w3) := fun w3 hb => by
          have hs2 : ((wL.alloc O1).alloc O2).heap.size = wL.heap.size + 2 := by simp
          have b3 := b12.trans (hb.mono b12.size)
          exact ⟨(hb.block _ (by omega)).trans x1c, (hb.block _ (by omega)).trans x2b, b3, hbL.trans (b3.mono hbL.size)⟩
        have HG := Lib.hid hgi
        have HLen : Hid ((upTo xs x.call.s j).length ≤ 100) := by have := HN.out.2; show _ ≤ _; omega
        have HRd := Lib.hid hrd
        have HXo := Lib.hid hxo
        rw [hO1, hO2] at HAft
        rw [hO1, hO2] at hI
        clear hgi hlen hrd hce hO1 hO2 b1 b2 hsz x1b x2b x1c b12 hbL hxo HOk HIdx
        by_cases hq : xs.findIdx (endB x.kc x.ks) < xs.length
        · rw [dif_pos hq] at hso
          rw [endI_some hq] at hI
          obtain ⟨bb', off', he, hatq⟩ := HAt.out _ hq
          cases he
          obtain ⟨sA, sc, tA, tc, hcf, _, hyr⟩ := (hatq w (Below.refl _ _)).cellsB
          generalize xs[xs.findIdx (endB x.kc x.ks)]'hq = y at *
          clear hatq
          have hqN : xs.findIdx (endB x.kc x.ks) < N := by have := HN.out.1; omega
          clear hq
          generalize xs.findIdx (endB x.kc x.ks) = q at *
          have q0 : (0 : Int) ≤ (q : Int) := by omega
          have q1 : (q : Int) < (N : Int) := by omega
          have HCf := Lib.hid hcf
          have HYr := Lib.hid hyr
          clear hcf hyr
          cases hu : y.unk with
          | false =>
            rw [if_neg (by rw [hu]; decide)] at hso
            have HSo : Hid ((fun s => upTo xs s (j + 1)) = fun s => if s = x.call.s then upTo xs s j ++ [⟨x.call, j, q, true, y.rep⟩] else upTo xs s j) := by rw [← hso]; exact hux
            clear hso hux
            obtain ⟨xc, xk, xdone, xunk, ⟨k, xs', a, d, n⟩, ⟨code, size, rd⟩⟩ := x
            dsimp only at e0 e1 e2 e3 e4 e5 e6 e7 e8 e9 e10 e11 HXo HRd HLen HSo hd hI
            subst hd
            dsimp only [evC, spanC] at hI HAft
            have HI := Lib.hid hI
            clear hI
            obtain ⟨yc, yk, ydone, yunk, ycall, ⟨ycode, ysize, yrd⟩⟩ := y
            dsimp only at HCf HYr HSo hu
            subst hu
            go_wp2_with (go_at_call 33; refine HI.out.mono ?_; rintro e w3 ⟨rfl, hb3⟩; obtain ⟨y1, y2, y4, y6⟩ := HAft.out w3 hb3; obtain ⟨f0, f1, f2, f3, f4, f5, f6, f7, f8, f9, f10, f11⟩ := HCf.out w3 y6)
            have t0 := cell_of_row w3 (wL.heap.size + 1) 0 _ _ _ y2
            have t1 := cell_of_row w3 (wL.heap.size + 1) 1 _ _ _ y2
            have t2 := cell_of_row w3 (wL.heap.size + 1) 2 _ _ _ y2
            have t3 := cell_of_row w3 (wL.heap.size + 1) 3 _ _ _ y2
            have t4 := cell_of_row w3 (wL.heap.size + 1) 4 _ _ _ y2
            have t5 := cell_of_row w3 (wL.heap.size + 1) 5 _ _ _ y2
            have t6 := cell_of_row w3 (wL.heap.size + 1) 6 _ _ _ y2
            have t7 := cell_of_row w3 (wL.heap.size + 1) 7 _ _ _ y2
            have t8 := cell_of_row w3 (wL.heap.size + 1) 8 _ _ _ y2
            have t9 := cell_of_row w3 (wL.heap.size + 1) 9 _ _ _ y2
            have t10 := cell_of_row w3 (wL.heap.size + 1) 10 _ _ _ y2
            have z6 := frozen_of_block y2 6
            have z7 := frozen_of_block y2 7
            have z8 := frozen_of_block y2 8
            have z9 := frozen_of_block y2 9
            have z10 := frozen_of_block y2 10
            have HY := Lib.hid (And.intro y1 (And.intro y2 (And.intro y4 y6)))
            simp only [List.getElem?_toArray, List.getElem?_cons_zero, List.getElem?_cons_succ] at t0 t1 t2 t3 t4 t5 t6 t7 t8 t9 t10
            clear y1 y2 y4 y6 HAft e0 e1 e2 e3 e4 e5 e6 e7 e8 e9 e10 e11 hb3
            go_region
            all_goals
              obtain ⟨y1, y2, y4, y6⟩ := HY.out
              obtain ⟨Y, hY⟩ : ∃ Y, Y = (((((w3.setCell ⟨wL.heap.size + 1, 6, none⟩ (.int .i64 q)).setCell ⟨wL.heap.size + 1, 7, none⟩ (.bool true)).setCell ⟨wL.heap.size + 1, 8, none⟩ (.int .i64 ycode)).setCell ⟨wL.heap.size + 1, 9, none⟩ (.int .i64 ysize)).setCell ⟨wL.heap.size + 1, 10, none⟩ (.slice tA yrd.length tc)).drew := ⟨_, rfl⟩
              have v1 := Own.heap_setCell_same y2 6 (.int .i64 q)
              have v2 := Own.heap_setCell_same v1 7 (.bool true)
              have v3 := Own.heap_setCell_same v2 8 (.int .i64 ycode)
              have v4 := Own.heap_setCell_same v3 9 (.int .i64 ysize)
              have v5 := Own.heap_setCell_same v4 10 (.slice tA yrd.length tc)
              have hch : Chg [wL.heap.size + 1] w3 Y := by rw [hY]; exact chg_set5 w3 _ _ _ _ _ _ _ _ _ _ _
              have u2 : Y.heap[wL.heap.size + 1]? = some (.cells (spanC ⟨k, xs', a, d, n⟩ (.slice dA d.length dc) j q true ⟨ycode, ysize, yrd⟩ (.slice tA yrd.length tc)) 73 (0, 0)) := by rw [hY]; exact v5
              have u1 := (hch.block wL.heap.size (Array.getElem?_eq_some_iff.1 y1).1 (by simp)).trans y1
              have u6 : Below wL.heap.size wL Y := y4.trans (hch.below y4.size (by simp))
              rw [← hY]
              clear v1 v2 v3 v4 v5 hch hY y1 y2 y4 y6 f0 f1 f2 f3 f4 f5 f6 f7 f8 f9 f10 f11 z6 z7 z8 z9 z10
              clear t0 t1 t2 t3 t4 t5 t6 t7 t8 t9 t10
              have HOs : Hid (xs'.size ≤ 140737488351232) := HXo.out.call.s
              have hal : ∀ o, Below Y.heap.size Y (Y.alloc o) := fun o => (Below.refl _ _).alloc (Nat.le_refl _) o
              have hgY := HG.out.go u6
              obtain ⟨A0, N0, c0, g, cap, W, Z, hlk, hr, hkp, hput, f', hgZ⟩ := hgY.put (Nat.le_refl _) ⟨k, xs', a, d, n⟩ HOs.out HLen.out dA tA dc tc j q true ⟨ycode, ysize, yrd⟩ HRd.out HYr.out
              have lk1 := hlk Y.drew (Below.refl _ _).drew
              have lk2 := fun o => hlk (Y.alloc o).drew (hal o).drew
              have n0 := cell_of_row Y wL.heap.size 5 _ _ _ u1
              have n1 := fun o => cell_of_row (Y.alloc o) wL.heap.size 5 _ _ _ (((hal o).block _ (Array.getElem?_eq_some_iff.1 u1).1).trans u1)
              have n2 := cell_of_row W wL.heap.size 5 _ _ _ (hkp _ _ _ _ u1 (by decide))
              have t0 := cell_of_row Y (wL.heap.size + 1) 0 _ _ _ u2
              have t1 := cell_of_row Y (wL.heap.size + 1) 1 _ _ _ u2
              have t2 := cell_of_row Y (wL.heap.size + 1) 2 _ _ _ u2
              have t3 := cell_of_row Y (wL.heap.size + 1) 3 _ _ _ u2
              have t4 := cell_of_row Y (wL.heap.size + 1) 4 _ _ _ u2
              have t5 := cell_of_row Y (wL.heap.size + 1) 5 _ _ _ u2
              have t6 := cell_of_row Y (wL.heap.size + 1) 6 _ _ _ u2
              have t7 := cell_of_row Y (wL.heap.size + 1) 7 _ _ _ u2
              have t8 := cell_of_row Y (wL.heap.size + 1) 8 _ _ _ u2
              have t9 := cell_of_row Y (wL.heap.size + 1) 9 _ _ _ u2
              have t10 := cell_of_row Y (wL.heap.size + 1) 10 _ _ _ u2
              dsimp only [spanC, List.length_nil] at hr t0 t1 t2 t3 t4 t5 t6 t7 t8 t9 t10
              dsimp only at hput lk1 lk2
              simp only [List.getElem?_toArray, List.getElem?_cons_zero, List.getElem?_cons_succ] at n0 n1 n2 t0 t1 t2 t3 t4 t5 t6 t7 t8 t9 t10
              have HFin : Hid (∃ n f, GI w w.heap.size n (fun s => upTo xs s (j + 1)) f Z) := ⟨_, f', hgZ.eqv HSo.out⟩
              clear hgY hgZ hkp hlk hal u1 u2 u6 
              go_wp2_with fail
              go_region
              all_goals
                go_wp2_with fail
                go_roundw
                case rel => exact ⟨j + 1, by go_num, by omega, HFin.out⟩
                case measure => simp [intOf]; omega
          | true =>
            rw [if_pos hu] at hso
            have HSo : Hid ((fun s => upTo xs s (j + 1)) = fun s => if s = x.call.s then upTo xs s j ++ [⟨x.call, j, N, false, ⟨0, 0, []⟩⟩] else upTo xs s j) := by rw [← HN.out.1, ← hso]; exact hux
            clear hso hux HYr
            obtain ⟨xc, xk, xdone, xunk, ⟨k, xs', a, d, n⟩, ⟨code, size, rd⟩⟩ := x
            dsimp only at e0 e1 e2 e3 e4 e5 e6 e7 e8 e9 e10 e11 HXo HRd HLen HSo hd hI
            subst hd
            dsimp only [evC, spanC] at hI HAft
            have HI := Lib.hid hI
            clear hI
            obtain ⟨yc, yk, ydone, yunk, ycall, ⟨ycode, ysize, yrd⟩⟩ := y
            dsimp only at HCf hu
            subst hu
            go_wp2_with (go_at_call 33; refine HI.out.mono ?_; rintro e w3 ⟨rfl, hb3⟩; obtain ⟨y1, y2, y4, y6⟩ := HAft.out w3 hb3; obtain ⟨f0, f1, f2, f3, f4, f5, f6, f7, f8, f9, f10, f11⟩ := HCf.out w3 y6)
            obtain ⟨Y, hY⟩ : ∃ Y, Y = w3 := ⟨_, rfl⟩
            have u1 := y1
            rw [← hY] at u1
            have u2 : Y.heap[wL.heap.size + 1]? = some (.cells (spanC ⟨k, xs', a, d, n⟩ (.slice dA d.length dc) j N false ⟨0, 0, []⟩ (.slice none 0 0)) 73 (0, 0)) := by rw [hY]; exact y2
            have u6 : Below wL.heap.size wL Y := by rw [hY]; exact y4
            rw [← hY]
            clear hY y1 y2 y4 y6 HAft e0 e1 e2 e3 e4 e5 e6 e7 e8 e9 e10 e11 hb3 f0 f1 f2 f3 f4 f5 f6 f7 f8 f9 f10 f11
            have HOs : Hid (xs'.size ≤ 140737488351232) := HXo.out.call.s
            have hal : ∀ o, Below Y.heap.size Y (Y.alloc o) := fun o => (Below.refl _ _).alloc (Nat.le_refl _) o
            have hgY := HG.out.go u6
            obtain ⟨A0, N0, c0, g, cap, W, Z, hlk, hr, hkp, hput, f', hgZ⟩ := hgY.put (Nat.le_refl _) ⟨k, xs', a, d, n⟩ HOs.out HLen.out dA none dc 0 j N false ⟨0, 0, []⟩ HRd.out (.inl ⟨rfl, rfl⟩)
            have lk1 := hlk Y.drew (Below.refl _ _).drew
            have lk2 := fun o => hlk (Y.alloc o).drew (hal o).drew
            have n0 := cell_of_row Y wL.heap.size 5 _ _ _ u1
            have n1 := fun o => cell_of_row (Y.alloc o) wL.heap.size 5 _ _ _ (((hal o).block _ (Array.getElem?_eq_some_iff.1 u1).1).trans u1)
            have n2 := cell_of_row W wL.heap.size 5 _ _ _ (hkp _ _ _ _ u1 (by decide))
            have t0 := cell_of_row Y (wL.heap.size + 1) 0 _ _ _ u2
            have t1 := cell_of_row Y (wL.heap.size + 1) 1 _ _ _ u2
            have t2 := cell_of_row Y (wL.heap.size + 1) 2 _ _ _ u2
            have t3 := cell_of_row Y (wL.heap.size + 1) 3 _ _ _ u2
            have t4 := cell_of_row Y (wL.heap.size + 1) 4 _ _ _ u2
            have t5 := cell_of_row Y (wL.heap.size + 1) 5 _ _ _ u2
            have t6 := cell_of_row Y (wL.heap.size + 1) 6 _ _ _ u2
            have t7 := cell_of_row Y (wL.heap.size + 1) 7 _ _ _ u2
            have t8 := cell_of_row Y (wL.heap.size + 1) 8 _ _ _ u2
            have t9 := cell_of_row Y (wL.heap.size + 1) 9 _ _ _ u2
            have t10 := cell_of_row Y (wL.heap.size + 1) 10 _ _ _ u2
            dsimp only [spanC, List.length_nil] at hr t0 t1 t2 t3 t4 t5 t6 t7 t8 t9 t10
            dsimp only at hput lk1 lk2
            simp only [List.getElem?_toArray, List.getElem?_cons_zero, List.getElem?_cons_succ] at n0 n1 n2 t0 t1 t2 t3 t4 t5 t6 t7 t8 t9 t10
            have HFin : Hid (∃ n f, GI w w.heap.size n (fun s => upTo xs s (j + 1)) f Z) := ⟨_, f', hgZ.eqv HSo.out⟩
            clear hgY hgZ hkp hlk hal u1 u2 u6 
            go_region
            all_goals
              go_wp2_with fail
              go_roundw
              case rel => exact ⟨j + 1, by go_num, by omega, HFin.out⟩
              case measure => simp [intOf]; omega
        · rw [dif_neg hq] at hso
          rw [endI_none hq] at hI
          have HSo : Hid ((fun s => upTo xs s (j + 1)) = fun s => if s = x.call.s then upTo xs s j ++ [⟨x.call, j, N, false, ⟨0, 0, []⟩⟩] else upTo xs s j) := by rw [← HN.out.1, ← hso]; exact hux
          clear hso hux hq HAt
          obtain ⟨xc, xk, xdone, xunk, ⟨k, xs', a, d, n⟩, ⟨code, size, rd⟩⟩ := x
          dsimp only at e0 e1 e2 e3 e4 e5 e6 e7 e8 e9 e10 e11 HXo HRd HLen HSo hd hI
          subst hd
          dsimp only [evC, spanC] at hI HAft
          have HI := Lib.hid hI
          clear hI

          go_wp2_with (go_at_call 33; refine HI.out.mono ?_; rintro e w3 ⟨rfl, hb3⟩; obtain ⟨y1, y2, y4, y6⟩ := HAft.out w3 hb3)
          obtain ⟨Y, hY⟩ : ∃ Y, Y = w3 := ⟨_, rfl⟩
          have u1 := y1
          rw [← hY] at u1
          have u2 : Y.heap[wL.heap.size + 1]? = some (.cells (spanC ⟨k, xs', a, d, n⟩ (.slice dA d.length dc) j N false ⟨0, 0, []⟩ (.slice none 0 0)) 73 (0, 0)) := by rw [hY]; exact y2
          have u6 : Below wL.heap.size wL Y := by rw [hY]; exact y4
          rw [← hY]
          clear hY y1 y2 y4 y6 HAft e0 e1 e2 e3 e4 e5 e6 e7 e8 e9 e10 e11 hb3 
          have HOs : Hid (xs'.size ≤ 140737488351232) := HXo.out.call.s
          have hal : ∀ o, Below Y.heap.size Y (Y.alloc o) := fun o => (Below.refl _ _).alloc (Nat.le_refl _) o
          have hgY := HG.out.go u6
          obtain ⟨A0, N0, c0, g, cap, W, Z, hlk, hr, hkp, hput, f', hgZ⟩ := hgY.put (Nat.le_refl _) ⟨k, xs', a, d, n⟩ HOs.out HLen.out dA none dc 0 j N false ⟨0, 0, []⟩ HRd.out (.inl ⟨rfl, rfl⟩)
          have lk1 := hlk Y.drew (Below.refl _ _).drew
          have lk2 := fun o => hlk (Y.alloc o).drew (hal o).drew
          have n0 := cell_of_row Y wL.heap.size 5 _ _ _ u1
          have n1 := fun o => cell_of_row (Y.alloc o) wL.heap.size 5 _ _ _ (((hal o).block _ (Array.getElem?_eq_some_iff.1 u1).1).trans u1)
          have n2 := cell_of_row W wL.heap.size 5 _ _ _ (hkp _ _ _ _ u1 (by decide))
          have t0 := cell_of_row Y (wL.heap.size + 1) 0 _ _ _ u2
          have t1 := cell_of_row Y (wL.heap.size + 1) 1 _ _ _ u2
          have t2 := cell_of_row Y (wL.heap.size + 1) 2 _ _ _ u2
          have t3 := cell_of_row Y (wL.heap.size + 1) 3 _ _ _ u2
          have t4 := cell_of_row Y (wL.heap.size + 1) 4 _ _ _ u2
          have t5 := cell_of_row Y (wL.heap.size + 1) 5 _ _ _ u2
          have t6 := cell_of_row Y (wL.heap.size + 1) 6 _ _ _ u2
          have t7 := cell_of_row Y (wL.heap.size + 1) 7 _ _ _ u2
          have t8 := cell_of_row Y (wL.heap.size + 1) 8 _ _ _ u2
          have t9 := cell_of_row Y (wL.heap.size + 1) 9 _ _ _ u2
          have t10 := cell_of_row Y (wL.heap.size + 1) 10 _ _ _ u2
          dsimp only [spanC, List.length_nil] at hr t0 t1 t2 t3 t4 t5 t6 t7 t8 t9 t10
          dsimp only at hput lk1 lk2
          simp only [List.getElem?_toArray, List.getElem?_cons_zero, List.getElem?_cons_succ] at n0 n1 n2 t0 t1 t2 t3 t4 t5 t6 t7 t8 t9 t10
          have HFin : Hid (∃ n f, GI w w.heap.size n (fun s => upTo xs s (j + 1)) f Z) := ⟨_, f', hgZ.eqv HSo.out⟩
          clear hgY hgZ hkp hlk hal u1 u2 u6 
          go_region
          all_goals
            go_wp2_with fail
            go_roundw
            case rel => exact ⟨j + 1, by go_num, by omega, HFin.out⟩
            case measure => simp [intOf]; omega
    · have HG := Lib.hid hgi
      obtain rfl : j = N := by omega
      clear hgi
      go_wp2_with fail
      go_ret
      exact ⟨rfl, nn, f, by rw [HN.out.1]; exact HG.out⟩
end Go.Proofs.Ytbbbdhpihcbmmaa
