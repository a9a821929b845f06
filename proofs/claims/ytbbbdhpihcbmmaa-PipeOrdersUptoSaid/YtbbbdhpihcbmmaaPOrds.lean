/- The walk of PipeOrders. -/
import Derived.Test.YtbbbdhpihcbmmaaGSeq
import Derived.Test.YtbbbdhpihcbmmaaGRGo4
import Derived.Test.YtbbbdhpihcbmmaaPBox
import Derived.Test.YtbbbdhpihcbmmaaPRDo4
import Derived.Test.YtbbbdhpihcbmmaaGLess
import Derived.Test.YtbbbdhpihcbmmaaPMay
import Derived.Test.YtbbbdhpihcbmmaaLaw
import Derived.Deep.RegionHeld3
import Derived.Deep.CutRange
import Derived.Deep.CutBlock
namespace Go.Proofs.Ytbbbdhpihcbmmaa
open Go.RowKit Own

theorem ReadsCalls.below {w w1 : World} {v : Value} {xs : List CallIn} (h : ReadsCalls w v xs) (hb : Below w.heap.size w w1) : ReadsCalls w1 v xs := by
  rcases h with h | ⟨a, c, hv, hc⟩
  · exact .inl h
  · exact .inr ⟨a, c, hv, fun i hi => by
      obtain ⟨b, off, e, h⟩ := hc i hi
      exact ⟨b, off, e, h.below hb⟩⟩
attribute [local go_sem ↓] hide_append
set_option maxHeartbeats 8000000 in
set_option maxRecDepth 100000 in
theorem porders_any (v : Value) (tt : Int) (xs : List CallIn) (w : World) (hv : ReadsCalls w v xs) (hok : ∀ x ∈ xs, CallOk x ∧ x.s.size ≤ 1048576) (hn : xs.length ≤ 1048576) :
    Calls Try.prog 4 #[v, .int .i64 tt] w fun e w' => e = .returned (.bool true) ∧ Below w.heap.size w w' := by
  obtain ⟨Av, cv, rfl⟩ := hv.slice
  have HV := Lib.hid hv
  have HA := Lib.hid (fun W => awake_any W)
  have HOk := Lib.hid hok
  have hM : (xs.length : Int) ≤ 1048576 := by omega
  have HM0 := Lib.hid (OS.made w)
  clear hv hok
  have hmm := @run_makeMap Try.prog
  go_enter Try.func4, Try.ntmps4
  go_wp2_with fail
  clear hmm
  go_loopw [5, 8] (fun hx i wr => ∃ (j n c : Nat) (A : Option Addr), i = .int .i64 j ∧ hx = .slice A n c ∧ j ≤ xs.length ∧ n ≤ 62 ∧ Hid (∃ L l fo fc, n = L.length ∧ n = 2 * l.length ∧ OS w (w.heap.size + 1) (w.heap.size + 2) (.slice A n c) L l l l fo fc wr ∧ PO l j)) (fun _ i _ => xs.length - (intOf i).toNat)
  case atStart => exact ⟨0, 0, 0, _, rfl, rfl, Nat.zero_le _, by omega, [], [], noKeys, noKeys, rfl, rfl, HM0.out, PO.nil⟩
  case round =>
    obtain ⟨j, n, c, A, rfl, rfl, hj, hn62, HX⟩ := hrel
    obtain ⟨wL, rfl⟩ : ∃ wo : World, wo = wr := ⟨_, rfl⟩
    obtain ⟨L, l, fo, fc, hnL, hnl, hOS, hPO⟩ := HX.out
    have HS := Lib.hid (And.intro hOS (And.intro hPO (And.intro hnL hnl)))
    clear HX hOS hPO hnL hnl
    by_cases hlt : j < xs.length ∧ n < 62
    · obtain ⟨hlt, h62⟩ := hlt
      have k1 : (j : Int) < (xs.length : Int) := by omega
      have k0 : (0 : Int) ≤ (j : Int) := by omega
      have k2 : (n : Int) < 62 := by omega
      obtain ⟨bb, off, cc, hvv, hact⟩ := HV.out.at_ hlt
      obtain ⟨rfl, rfl⟩ : Av = some ⟨bb, off, none⟩ ∧ cv = cc := by
        rw [Value.slice.injEq] at hvv
        exact ⟨hvv.1, hvv.2.2⟩
      obtain ⟨dv, e0, e1, e2, e3, e4, hrd⟩ := hact
      have hox := HOk.out _ (List.getElem_mem hlt)
      generalize xs[j]'hlt = x at *
      obtain ⟨dA, dc, rfl⟩ := hrd.slice
      have HCl : Hid (∀ W, Below w.heap.size w W → (W.cell? ⟨bb, off + j * 5, none⟩ = some (.int .i64 x.k) ∧ W.cell? ⟨bb, off + j * 5 + 1, none⟩ = some (.string x.s) ∧ W.cell? ⟨bb, off + j * 5 + 2, none⟩ = some (.int .i64 x.a) ∧ W.cell? ⟨bb, off + j * 5 + 3, none⟩ = some (.slice dA x.d.length dc) ∧ W.cell? ⟨bb, off + j * 5 + 4, none⟩ = some (.int .i64 x.n)) ∧ ReadsB W (.slice dA x.d.length dc) x.d) := fun W hW => by
        have t : ∀ bk o u, w.cell? ⟨bk, o, none⟩ = some u → W.cell? ⟨bk, o, none⟩ = some u := fun bk o u hu => (hW.cell (World.block_lt_of_cell? w _ hu)).trans hu
        exact ⟨⟨t _ _ _ e0, t _ _ _ e1, t _ _ _ e2, t _ _ _ e3, t _ _ _ e4⟩, hrd.below hW⟩
      have hbb : bb < w.heap.size := World.block_lt_of_cell? w _ e0
      have HBl : Hid (Below w.heap.size w wL) := HS.out.1.bel
      obtain ⟨⟨f0, f1, f2, f3, f4⟩, hrdL⟩ := HCl.out _ HBl.out
      have HRd := Lib.hid hox
      have HMay : Hid (Calls Try.prog 10 #[.agg #[.int .i64 x.k, .string x.s, .int .i64 x.a, .slice dA x.d.length dc, .int .i64 x.n]] wL fun e w' => e = .returned (.bool (mayB x)) ∧ Below wL.heap.size wL w') := by
        have := rmay_any x (.slice dA x.d.length dc) wL hrdL hox.2
        unfold callV at this
        exact this
      obtain ⟨C, hC⟩ : ∃ C : Nat, C = (crs l x.s).length := ⟨_, rfl⟩
      have HC := Lib.hid hC
      have HLk : Hid (∀ W, Below wL.heap.size wL W → (Instr.lookup 36 (.map (some (w.heap.size + 2))) (.string x.s) false).run Try.prog W = .ok (.int .i64 C) W) := fun W hW => by rw [hC]; exact HS.out.1.look_c x.s (by have := hox.2; omega) W hW
      have hC8 : (C : Int) ≤ 8 := by have := HS.out.2.1.cnt x.s; omega
      have ho1 := hox.1
      have hd64 : (x.d.length : Int) ≤ 140737488351232 := by have := ho1.d; omega
      clear hvv hrd hox hC ho1 e0 e1 e2 e3 e4 hrdL
      have hcase : (mayB x = false ∨ (mayB x = true ∧ (8 : Int) ≤ C) ∨ (mayB x = true ∧ ¬ (8 : Int) ≤ C ∧ (100 : Int) < x.d.length) ∨ (mayB x = true ∧ ¬ (8 : Int) ≤ C ∧ ¬ (100 : Int) < x.d.length ∧ 200 < x.n) ∨ (mayB x = true ∧ ¬ (8 : Int) ≤ C ∧ ¬ (100 : Int) < x.d.length ∧ ¬ 200 < x.n ∧ 200 < x.a)) ∨ (mayB x = true ∧ ¬ (8 : Int) ≤ C ∧ ¬ (100 : Int) < x.d.length ∧ ¬ 200 < x.n ∧ ¬ 200 < x.a) := by
        cases mayB x with
        | false => exact .inl (.inl rfl)
        | true =>
          by_cases h1 : (8 : Int) ≤ C
          · exact .inl (.inr (.inl ⟨rfl, h1⟩))
          by_cases h2 : (100 : Int) < x.d.length
          · exact .inl (.inr (.inr (.inl ⟨rfl, h1, h2⟩)))
          by_cases h3 : 200 < x.n
          · exact .inl (.inr (.inr (.inr (.inl ⟨rfl, h1, h2, h3⟩))))
          by_cases h4 : 200 < x.a
          · exact .inl (.inr (.inr (.inr (.inr ⟨rfl, h1, h2, h3, h4⟩))))
          exact .inr ⟨rfl, h1, h2, h3, h4⟩
      rcases hcase with hskip | ⟨hmay, h1, h2, h3, h4⟩
      · rcases hskip with hs1 | ⟨hmay, h1⟩ | ⟨hmay, h1, h2⟩ | ⟨hmay, h1, h2, h3⟩ | ⟨hmay, h1, h2, h3, h4⟩
        all_goals
          generalize hmb : mayB x = mb at *
          first | subst hs1 | subst hmay
          go_wp2_with (go_at_call 10; (with_reducible refine HMay.out.mono ?_); rintro e w1 ⟨rfl, hb1⟩; have g := HLk.out w1 hb1; obtain ⟨⟨e0, e1, e2, e3, e4⟩, _⟩ := HCl.out w1 (HBl.out.trans (hb1.mono HBl.out.size)); have HB1 := Lib.hid hb1; clear hb1)
          go_roundw
          case rel => exact ⟨j + 1, n, c, A, by go_num, rfl, by omega, hn62, L, l, fo, fc, HS.out.2.2.1, HS.out.2.2.2, HS.out.1.go HB1.out, HS.out.2.1.skip⟩
          case measure => simp [intOf]; omega
      · have hm : MayC x := of_decide_eq_true hmay
        generalize hmb : mayB x = mb at *
        subst hmay
        obtain ⟨has, b, hfo⟩ : ∃ has b, finO false [] (crs l x.s) = (has, b) := ⟨_, _, rfl⟩
        obtain ⟨DD, hDD⟩ : ∃ DD, DD = doR x has b := ⟨_, rfl⟩
        have hPO2 : PO (l ++ [⟨x, (j : Int) % 3, (j : Int), repOf DD⟩]) (j + 1) := by
          have := HS.out.2.1.add (by have := HS.out.2.2.2; omega) HRd.out.1 HRd.out.2 hm (by rw [← HC.out]; omega)
          unfold newE at this
          rw [hfo] at this
          simp only [] at this
          rw [← hDD] at this
          exact this
        have HCnt : Hid (∀ W, Below wL.heap.size wL W → ∃ w' fc', (Instr.mapUpdate 36 (.map (some (w.heap.size + 2))) (.string x.s) (.int .i64 ((C : Int) + 1))).run Try.prog W = .ok () w' ∧ OS w (w.heap.size + 1) (w.heap.size + 2) (.slice A n c) L l l (l ++ [⟨x, (j : Int) % 3, (j : Int), repOf DD⟩]) fo fc' w') := fun W hW => by
          obtain ⟨w', fc', q1, q2, _⟩ := (HS.out.1.go hW).count ⟨x, (j : Int) % 3, (j : Int), repOf DD⟩ (by have := HRd.out.2; simp only []; omega)
          simp only [] at q1
          rw [← HC.out] at q1
          exact ⟨w', fc', q1, q2⟩
        have HPl := Lib.hid (And.intro hfo (And.intro hDD hPO2))
        have hlen := HS.out.2.1.len x.s
        rw [hfo] at hlen
        have HLen := Lib.hid hlen
        clear hfo hDD hPO2 hm hlen
        go_upto_region 9 with (go_at_call 10; (with_reducible refine HMay.out.mono ?_); rintro e w1 ⟨rfl, hb1⟩; have g := HLk.out w1 hb1; obtain ⟨⟨e0, e1, e2, e3, e4⟩, _⟩ := HCl.out w1 (HBl.out.trans (hb1.mono HBl.out.size)); obtain ⟨w2, fc2, hst, hOS2⟩ := HCnt.out w1 hb1; have HO2 := Lib.hid hOS2; clear hb1 hOS2)
        obtain ⟨A6, m6, c6, hro, hlo⟩ := HO2.out.look_o x.s (by have := HRd.out.2; omega)
        rw [HPl.out.1] at hro hlo
        unfold objV at hlo
        simp only [] at hro hlo
        have hwz : w.heap.size ≤ w2.heap.size := HO2.out.bel.size
        have HDo : Hid (∀ W, Below w2.heap.size w2 W → Calls Try.prog 11 #[.agg #[.int .i64 x.k, .string x.s, .int .i64 x.a, .slice dA x.d.length dc, .int .i64 x.n], .agg #[.bool has, .slice A6 m6 c6]] W (RDoPost DD W)) := fun W hW => by
          have := rdo_any x (.slice dA x.d.length dc) (.slice A6 m6 c6) has b W (HCl.out W (HO2.out.bel.trans (hW.mono HO2.out.bel.size))).2 (hro.below hW) HLen.out HRd.out.2 (Law.wf_i64 HRd.out.1.a).2
          unfold callV at this
          rw [← HPl.out.2.1] at this
          exact this
        have HSt : Hid (∀ W, Below w2.heap.size w2 W → W.cell? ⟨bb, off + j * 5, none⟩ = some (.int .i64 x.k) ∧ W.cell? ⟨bb, off + j * 5 + 1, none⟩ = some (.string x.s) ∧ W.cell? ⟨bb, off + j * 5 + 2, none⟩ = some (.int .i64 x.a) ∧ W.cell? ⟨bb, off + j * 5 + 3, none⟩ = some (.slice dA x.d.length dc) ∧ W.cell? ⟨bb, off + j * 5 + 4, none⟩ = some (.int .i64 x.n)) := fun W hW => (HCl.out W (HO2.out.bel.trans (hW.mono HO2.out.bel.size))).1
        obtain ⟨e0, e1, e2, e3, e4⟩ := HSt.out w2 (Below.refl _ _)
        clear hro
        go_cut [9, 10] from 79 to 93 (fun px qx wx => ∃ (gp gq : Nat) (dv' bv' : Value), px = .pointer (some ⟨gp, 0, none⟩) ∧ qx = .pointer (some ⟨gq, 0, none⟩) ∧ Hid (RgBox w2 DD gp gq dv' bv' wx))
        case first =>
          have ne1 : ¬ bb = w2.heap.size := by omega
          have ne2 : ¬ w2.heap.size = bb := by omega
          have ne5 : ¬ bb = w2.heap.size + 1 := by omega
          have ne6 : ¬ w2.heap.size + 1 = bb := by omega
          have HD0 : Hid (Below w2.heap.size w2 w2.drew) := (Below.refl _ _).drew
          have hl0 := hlo _ HD0.out
          have HD1 : Hid (Below w2.heap.size w2 (w2.alloc (.cells #[.int .i64 0, .int .i64 0, .slice none 0 0] 26)).drew) := ((Below.refl _ _).alloc (Nat.le_refl _) _).drew
          have hl1 := hlo _ HD1.out
          have HD2 : Hid (Below w2.heap.size w2 (w2.alloc (.cells #[.bool false, .slice none 0 0] 38)).drew) := ((Below.refl _ _).alloc (Nat.le_refl _) _).drew
          have hl2 := hlo _ HD2.out
          have HD3 : Hid (Below w2.heap.size w2 ((w2.alloc (.cells #[.int .i64 0, .int .i64 0, .slice none 0 0] 26)).alloc (.cells #[.bool false, .slice none 0 0] 38)).drew) := (((Below.refl _ _).alloc (Nat.le_refl _) _).alloc (by simp) _).drew
          have hl3 := hlo _ HD3.out
          have HD4 : Hid (Below w2.heap.size w2 ((w2.alloc (.cells #[.bool false, .slice none 0 0] 38)).alloc (.cells #[.int .i64 0, .int .i64 0, .slice none 0 0] 26)).drew) := (((Below.refl _ _).alloc (Nat.le_refl _) _).alloc (by simp) _).drew
          have hl4 := hlo _ HD4.out
          clear hlo
          go_region_held3 (fun W => W.cell? ⟨bb, off + j * 5, none⟩ = some (.int .i64 x.k) ∧ W.cell? ⟨bb, off + j * 5 + 1, none⟩ = some (.string x.s) ∧ W.cell? ⟨bb, off + j * 5 + 2, none⟩ = some (.int .i64 x.a) ∧ W.cell? ⟨bb, off + j * 5 + 3, none⟩ = some (.slice dA x.d.length dc) ∧ W.cell? ⟨bb, off + j * 5 + 4, none⟩ = some (.int .i64 x.n)) (go_keep)
            (first
              | (go_at_call 11; (with_reducible refine (HDo.out _ HD0.out).mono ?_); rintro e w5 ⟨dv', bv', rfl, hd5, hb5, hbl5⟩; obtain ⟨A5, c5, rfl⟩ := hd5.slice; obtain ⟨A6, c6, rfl⟩ := hb5.slice; have hk5 := HD0.out.trans (hbl5.mono HD0.out.size); obtain ⟨e0, e1, e2, e3, e4⟩ := HSt.out _ hk5; have ls5 := hk5.size; have nb1 : ¬ bb = w5.heap.size := (by omega); have nb2 : ¬ w5.heap.size = bb := (by omega); have H5 := Lib.hid (And.intro hd5 (And.intro hb5 (And.intro hbl5 hk5))); clear hd5 hb5 hbl5 hk5)
              | (go_at_call 11; (with_reducible refine (HDo.out _ HD1.out).mono ?_); rintro e w5 ⟨dv', bv', rfl, hd5, hb5, hbl5⟩; obtain ⟨A5, c5, rfl⟩ := hd5.slice; obtain ⟨A6, c6, rfl⟩ := hb5.slice; have hk5 := HD1.out.trans (hbl5.mono HD1.out.size); obtain ⟨e0, e1, e2, e3, e4⟩ := HSt.out _ hk5; have ls5 := hk5.size; have nb1 : ¬ bb = w5.heap.size := (by omega); have nb2 : ¬ w5.heap.size = bb := (by omega); have ls6 : w2.heap.size + 1 ≤ w5.heap.size := (by have h6 := hbl5.size; simp at h6; omega); have nb5 : ¬ w2.heap.size = w5.heap.size := (by omega); have nb6 : ¬ w5.heap.size = w2.heap.size := (by omega); have hbxR := (hbl5.block (w2.heap.size) (by simp <;> omega)).trans (heap_alloc_new w2 (.cells #[.int .i64 0, .int .i64 0, .slice none 0 0] 26)); obtain ⟨z0, z1, z2, zf⟩ := cells3R hbxR; obtain ⟨z0', z1', z2', zf'⟩ := cells3R' hbxR; have HBxR := Lib.hid hbxR; clear hbxR; have H5 := Lib.hid (And.intro hd5 (And.intro hb5 (And.intro hbl5 hk5))); clear hd5 hb5 hbl5 hk5)
              | (go_at_call 11; (with_reducible refine (HDo.out _ HD2.out).mono ?_); rintro e w5 ⟨dv', bv', rfl, hd5, hb5, hbl5⟩; obtain ⟨A5, c5, rfl⟩ := hd5.slice; obtain ⟨A6, c6, rfl⟩ := hb5.slice; have hk5 := HD2.out.trans (hbl5.mono HD2.out.size); obtain ⟨e0, e1, e2, e3, e4⟩ := HSt.out _ hk5; have ls5 := hk5.size; have nb1 : ¬ bb = w5.heap.size := (by omega); have nb2 : ¬ w5.heap.size = bb := (by omega); have ls6 : w2.heap.size + 1 ≤ w5.heap.size := (by have h6 := hbl5.size; simp at h6; omega); have nb5 : ¬ w2.heap.size = w5.heap.size := (by omega); have nb6 : ¬ w5.heap.size = w2.heap.size := (by omega); have hbxO := (hbl5.block (w2.heap.size) (by simp <;> omega)).trans (heap_alloc_new w2 (.cells #[.bool false, .slice none 0 0] 38)); obtain ⟨y0, y1, yf⟩ := cells2O hbxO; obtain ⟨y0', y1', yf'⟩ := cells2O' hbxO; have HBxO := Lib.hid hbxO; clear hbxO; have H5 := Lib.hid (And.intro hd5 (And.intro hb5 (And.intro hbl5 hk5))); clear hd5 hb5 hbl5 hk5)
              | (go_at_call 11; (with_reducible refine (HDo.out _ HD3.out).mono ?_); rintro e w5 ⟨dv', bv', rfl, hd5, hb5, hbl5⟩; obtain ⟨A5, c5, rfl⟩ := hd5.slice; obtain ⟨A6, c6, rfl⟩ := hb5.slice; have hk5 := HD3.out.trans (hbl5.mono HD3.out.size); obtain ⟨e0, e1, e2, e3, e4⟩ := HSt.out _ hk5; have ls5 := hk5.size; have nb1 : ¬ bb = w5.heap.size := (by omega); have nb2 : ¬ w5.heap.size = bb := (by omega); have ls6 : w2.heap.size + 2 ≤ w5.heap.size := (by have h6 := hbl5.size; simp at h6; omega); have nb5 : ¬ w2.heap.size = w5.heap.size := (by omega); have nb6 : ¬ w5.heap.size = w2.heap.size := (by omega); have nb7 : ¬ w2.heap.size + 1 = w5.heap.size := (by omega); have nb8 : ¬ w5.heap.size = w2.heap.size + 1 := (by omega); have hbxR := (hbl5.block (w2.heap.size) (by simp <;> omega)).trans (((((Below.refl _ _).alloc (Nat.le_refl _) (.cells #[.bool false, .slice none 0 0] 38)) : Below (w2.alloc (.cells #[.int .i64 0, .int .i64 0, .slice none 0 0] 26)).heap.size (w2.alloc (.cells #[.int .i64 0, .int .i64 0, .slice none 0 0] 26)) ((w2.alloc (.cells #[.int .i64 0, .int .i64 0, .slice none 0 0] 26)).alloc (.cells #[.bool false, .slice none 0 0] 38))).block w2.heap.size (by simp)).trans (heap_alloc_new w2 (.cells #[.int .i64 0, .int .i64 0, .slice none 0 0] 26))); obtain ⟨z0, z1, z2, zf⟩ := cells3R hbxR; obtain ⟨z0', z1', z2', zf'⟩ := cells3R' hbxR; have HBxR := Lib.hid hbxR; clear hbxR; have hbxO := (hbl5.block (w2.heap.size + 1) (by simp <;> omega)).trans (new2 w2 (.cells #[.int .i64 0, .int .i64 0, .slice none 0 0] 26) (.cells #[.bool false, .slice none 0 0] 38)); obtain ⟨y0, y1, yf⟩ := cells2O hbxO; obtain ⟨y0', y1', yf'⟩ := cells2O' hbxO; have HBxO := Lib.hid hbxO; clear hbxO; have H5 := Lib.hid (And.intro hd5 (And.intro hb5 (And.intro hbl5 hk5))); clear hd5 hb5 hbl5 hk5)
              | (go_at_call 11; (with_reducible refine (HDo.out _ HD4.out).mono ?_); rintro e w5 ⟨dv', bv', rfl, hd5, hb5, hbl5⟩; obtain ⟨A5, c5, rfl⟩ := hd5.slice; obtain ⟨A6, c6, rfl⟩ := hb5.slice; have hk5 := HD4.out.trans (hbl5.mono HD4.out.size); obtain ⟨e0, e1, e2, e3, e4⟩ := HSt.out _ hk5; have ls5 := hk5.size; have nb1 : ¬ bb = w5.heap.size := (by omega); have nb2 : ¬ w5.heap.size = bb := (by omega); have ls6 : w2.heap.size + 2 ≤ w5.heap.size := (by have h6 := hbl5.size; simp at h6; omega); have nb5 : ¬ w2.heap.size = w5.heap.size := (by omega); have nb6 : ¬ w5.heap.size = w2.heap.size := (by omega); have nb7 : ¬ w2.heap.size + 1 = w5.heap.size := (by omega); have nb8 : ¬ w5.heap.size = w2.heap.size + 1 := (by omega); have hbxO := (hbl5.block (w2.heap.size) (by simp <;> omega)).trans (((((Below.refl _ _).alloc (Nat.le_refl _) (.cells #[.int .i64 0, .int .i64 0, .slice none 0 0] 26)) : Below (w2.alloc (.cells #[.bool false, .slice none 0 0] 38)).heap.size (w2.alloc (.cells #[.bool false, .slice none 0 0] 38)) ((w2.alloc (.cells #[.bool false, .slice none 0 0] 38)).alloc (.cells #[.int .i64 0, .int .i64 0, .slice none 0 0] 26))).block w2.heap.size (by simp)).trans (heap_alloc_new w2 (.cells #[.bool false, .slice none 0 0] 38))); obtain ⟨y0, y1, yf⟩ := cells2O hbxO; obtain ⟨y0', y1', yf'⟩ := cells2O' hbxO; have HBxO := Lib.hid hbxO; clear hbxO; have hbxR := (hbl5.block (w2.heap.size + 1) (by simp <;> omega)).trans (new2 w2 (.cells #[.bool false, .slice none 0 0] 38) (.cells #[.int .i64 0, .int .i64 0, .slice none 0 0] 26)); obtain ⟨z0, z1, z2, zf⟩ := cells3R hbxR; obtain ⟨z0', z1', z2', zf'⟩ := cells3R' hbxR; have HBxR := Lib.hid hbxR; clear hbxR; have H5 := Lib.hid (And.intro hd5 (And.intro hb5 (And.intro hbl5 hk5))); clear hd5 hb5 hbl5 hk5))
          all_goals
            go_wp2_with fail
            go_meet
            have hal5 := fun o => (Below.refl w5.heap.size w5).alloc (Nat.le_refl _) o
            have hsz5 : w2.heap.size ≤ w5.heap.size := H5.out.2.2.2.size
            first
              | (with_reducible refine ⟨w5.heap.size, w5.heap.size + 1, .slice A5 DD.data.length c5, .slice A6 DD.b.length c6, rfl, rfl, ?_⟩; exact Lib.hid (fin_new1 H5.out.1 H5.out.2.1 H5.out.2.2.2))
              | (with_reducible refine ⟨w5.heap.size + 1, w5.heap.size, .slice A5 DD.data.length c5, .slice A6 DD.b.length c6, rfl, rfl, ?_⟩; exact Lib.hid (fin_new2 H5.out.1 H5.out.2.1 H5.out.2.2.2))
              | (with_reducible refine ⟨w2.heap.size, w5.heap.size, .slice A5 DD.data.length c5, .slice A6 DD.b.length c6, rfl, rfl, ?_⟩; exact Lib.hid (fin_sets (up_alloc _ HBxR.out) (heap_alloc_new w5 _) (Nat.le_refl _) hsz5 (H5.out.1.below (hal5 _)) (H5.out.2.1.below (hal5 _)) (H5.out.2.2.2.trans ((hal5 _).mono hsz5))))
              | (with_reducible refine ⟨w2.heap.size, w2.heap.size + 1, .slice A5 DD.data.length c5, .slice A6 DD.b.length c6, rfl, rfl, ?_⟩; exact Lib.hid (fin_sets HBxR.out HBxO.out (Nat.le_refl _) (Nat.le_succ _) H5.out.1 H5.out.2.1 H5.out.2.2.2))
              | (with_reducible refine ⟨w5.heap.size, w2.heap.size, .slice A5 DD.data.length c5, .slice A6 DD.b.length c6, rfl, rfl, ?_⟩; exact Lib.hid (fin_o (heap_alloc_new w5 _) (up_alloc _ HBxO.out) hsz5 (Nat.le_refl _) (H5.out.1.below (hal5 _)) (H5.out.2.1.below (hal5 _)) (H5.out.2.2.2.trans ((hal5 _).mono hsz5))))
              | (with_reducible refine ⟨w2.heap.size + 1, w2.heap.size, .slice A5 DD.data.length c5, .slice A6 DD.b.length c6, rfl, rfl, ?_⟩; exact Lib.hid (fin_sets HBxR.out HBxO.out (Nat.le_succ _) (Nat.le_refl _) H5.out.1 H5.out.2.1 H5.out.2.2.2))
        case rest =>
          obtain ⟨gp, gq, dv', bv', rfl, rfl, HX⟩ := hcut
          obtain ⟨A7, c7, rfl⟩ := HX.out.2.2.2.2.1.slice
          obtain ⟨A8, c8, rfl⟩ := HX.out.2.2.2.2.2.1.slice
          have hbd : Below wc.heap.size wc wc.drew := (Below.refl _ _).drew
          have hOSc := HO2.out.go (w' := wc.drew) HX.out.2.2.2.2.2.2.drew
          obtain ⟨w4, fo4, hst4, hOS4, hkr4, hch4, es4, cl4, hes4⟩ := hOSc.putO ⟨x, (j : Int) % 3, (j : Int), repOf DD⟩ (by have := HRd.out.2; simp only []; omega) DD (by simp only []; rw [HPl.out.1]; exact HPl.out.2.1) A8 DD.b.length c8 (HX.out.2.2.2.2.2.1.below hbd)
          unfold objV at hst4
          simp only [] at hst4
          have hR4 : w4.heap[gp]? = some (.cells #[.int .i64 DD.code, .int .i64 DD.size, .slice A7 DD.data.length c7] 26 (0, 0)) := by
            refine (hch4.block gp (Array.getElem?_eq_some_iff.1 HX.out.1).1 ?_).trans HX.out.1
            rw [List.mem_singleton]
            rintro rfl
            have := HX.out.1
            rw [show wc.heap[w.heap.size + 1]? = _ from hes4] at this
            cases this
          obtain ⟨y0, y1, _⟩ := cells2O HX.out.2.1
          obtain ⟨e0, e1, e2, e3, e4⟩ := HSt.out wc HX.out.2.2.2.2.2.2
          have hrd4 := hkr4 _ _ (HX.out.2.2.2.2.1.below hbd)
          have HO4 := Lib.hid (And.intro hOS4 (And.intro hR4 hrd4))
          clear hbd hOSc hkr4 hch4 hes4 hOS4 hR4 hrd4
          go_wp2_with fail
          go_region
          all_goals
            obtain ⟨e0, e1, e2, e3, e4⟩ := (HCl.out w4 HO4.out.1.bel).1
            clear hst4
            go_upto_region 12 with (fail)
            obtain ⟨w5, hw5⟩ : ∃ w5, w5 = w4.alloc (.cells #[.int .i64 ((j : Int) % 3), .int .i64 j] 42) := ⟨_, rfl⟩
            have hb5 : Below w4.heap.size w4 w5 := by rw [hw5]; exact (Below.refl _ _).alloc (Nat.le_refl _) _
            have hk5 : w5.heap[w4.heap.size]? = some (.cells #[.int .i64 ((j : Int) % 3), .int .i64 j] 42 (0, 0)) := by rw [hw5]; exact heap_alloc_new w4 _
            obtain ⟨s0, s1, _⟩ := cells2O hk5
            obtain ⟨z0, z1, z2, _⟩ := cells3R ((hb5.block gp (Array.getElem?_eq_some_iff.1 HO4.out.2.1).1).trans HO4.out.2.1)
            have hOS5 := HO4.out.1.go hb5
            obtain ⟨⟨e0, e1, e2, e3, e4⟩, hrd5⟩ := HCl.out w5 hOS5.bel
            have hbY : Below w5.heap.size w5 (w5.alloc (.cells #[.int .i64 ((j : Int) % 3), .int .i64 j, .bool false, .bool false, .int .i64 x.k, .string x.s, .int .i64 x.a, .slice dA x.d.length dc, .int .i64 x.n, .int .i64 0, .int .i64 0, .slice none 0 0, .int .i64 ((j : Int) % 3), .int .i64 j, .bool true, .bool false, .int .i64 0, .string ⟨#[]⟩, .int .i64 0, .slice none 0 0, .int .i64 0, .int .i64 DD.code, .int .i64 DD.size, .slice A7 DD.data.length c7] 44)).drew := ((Below.refl _ _).alloc (Nat.le_refl _) _).drew
            have hevc : evC (bgE ⟨x, (j : Int) % 3, (j : Int), repOf DD⟩) (.slice dA x.d.length dc) (.slice none 0 0) ++ evC (enE ⟨x, (j : Int) % 3, (j : Int), repOf DD⟩) (.slice none 0 0) (.slice A7 DD.data.length c7) = #[.int .i64 ((j : Int) % 3), .int .i64 j, .bool false, .bool false, .int .i64 x.k, .string x.s, .int .i64 x.a, .slice dA x.d.length dc, .int .i64 x.n, .int .i64 0, .int .i64 0, .slice none 0 0, .int .i64 ((j : Int) % 3), .int .i64 j, .bool true, .bool false, .int .i64 0, .string ⟨#[]⟩, .int .i64 0, .slice none 0 0, .int .i64 0, .int .i64 DD.code, .int .i64 DD.size, .slice A7 DD.data.length c7] := by simp [evC, bgE, enE, repOf]
            obtain ⟨A9, c9, W7, ha, hOS7⟩ := hOS5.app ⟨x, (j : Int) % 3, (j : Int), repOf DD⟩ (w5.alloc (.cells #[.int .i64 ((j : Int) % 3), .int .i64 j, .bool false, .bool false, .int .i64 x.k, .string x.s, .int .i64 x.a, .slice dA x.d.length dc, .int .i64 x.n, .int .i64 0, .int .i64 0, .slice none 0 0, .int .i64 ((j : Int) % 3), .int .i64 j, .bool true, .bool false, .int .i64 0, .string ⟨#[]⟩, .int .i64 0, .slice none 0 0, .int .i64 0, .int .i64 DD.code, .int .i64 DD.size, .slice A7 DD.data.length c7] 44)).drew hbY dA A7 dc c7 w5.heap.size 2 (hrd5.below hbY) ((HO4.out.2.2.below hb5).below hbY) ((heap_alloc_new w5 _).trans (congrArg (fun q => some (Obj.cells q 44 (0, 0))) hevc.symm)) (by have := HS.out.2.2.1; omega)
            rw [← HS.out.2.2.1] at ha hOS7
            have HO7 := Lib.hid hOS7
            rw [← hw5]
            clear hw5 hb5 hk5 hOS5 hrd5 hbY hevc hOS7
            go_region
            all_goals
              clear ha
              go_wp2_with fail
              go_roundw
              case rel => exact ⟨j + 1, n + 2, c9, A9, by go_num, rfl, by omega, by have := HS.out.2.2.2; omega, _, _, _, _, by have := HS.out.2.2.1; simp; omega, by have := HS.out.2.2.2; simp; omega, HO7.out, HPl.out.2.2⟩
              case measure => simp [intOf]; omega
    · have hex : ¬ (j : Int) < (xs.length : Int) ∨ ((j : Int) < (xs.length : Int) ∧ ¬ (n : Int) < 62) := by omega
      have hn64 : (n : Int) ≤ 62 := by omega
      obtain ⟨hPF, hRB⟩ := HS.out.2.1.fin (by omega)
      have hev := HS.out.1.reads HS.out.2.2.1
      have hln : (evsOf l).length = n := by rw [evsOf_len]; exact HS.out.2.2.2.symm
      have HBL : Hid (Below w.heap.size w wL) := HS.out.1.bel
      have HR : Hid (∀ W, Below wL.heap.size wL W → Calls Try.prog 12 #[.slice A n c] W fun e w' => e = .returned (.tuple #[.bool true, .int .i64 0]) ∧ Below W.heap.size W w') := fun W hb => right_yes _ (evsOf l) W (hev.below hb) hPF.ok.ev (by omega) hPF.chk hRB
      have HD0 : Hid (Below wL.heap.size wL wL) := Below.refl _ _
      obtain ⟨M, hM2⟩ : ∃ M : Nat, n = 2 * M := ⟨l.length, HS.out.2.2.2⟩
      have HM2 := Lib.hid hM2
      by_cases h0 : n = 0
      · subst h0
        have hx : ¬ (j : Int) < (xs.length : Int) := by omega
        clear hPF hRB hev hln hM2 hex hlt
        go_wp2_with (first
          | (go_at_call 12; (with_reducible refine (HR.out _ HD0.out).mono ?_); rintro e w2 ⟨rfl, hb2⟩; have HB2 := Lib.hid (HBL.out.trans (hb2.mono HBL.out.size)); clear hb2)
          | (go_at_call 9; (with_reducible refine (HA.out _).mono ?_); rintro e w3 ⟨rfl, hb3⟩; have HB3 := Lib.hid hb3; clear hb3))
        go_ret
        exact ⟨rfl, HB2.out.trans (HB3.out.mono HB2.out.size)⟩
      · have hn0 : ¬ ((n : Int) = 0) := by omega
        have hMp : 0 < M := by omega
        have hM0 : ¬ ((M : Int) = 0) := by omega
        have hMb : (M : Int) ≤ 31 := by omega
        have hq1 : (n : Int) / 2 = (M : Int) := by omega
        have hq2 : (n : Int).tdiv 2 = (M : Int) := by rw [Int.tdiv_eq_ediv_of_nonneg (by omega)]; omega
        have hm1 := Int.tmod_lt_of_pos tt (show (0 : Int) < (M : Int) by omega)
        have hm2 := Int.lt_tmod_of_pos tt (show (0 : Int) < (M : Int) by omega)
        obtain ⟨z, hz⟩ : ∃ z, z = tt.tmod (M : Int) := ⟨_, rfl⟩
        rw [← hz] at hm1 hm2
        obtain ⟨i, hiM, hzi⟩ : ∃ i : Nat, i < M ∧ ((¬ z < 0 ∧ z = (i : Int)) ∨ (z < 0 ∧ z + (M : Int) = (i : Int))) := by
          by_cases h1 : z < 0
          · exact ⟨(z + M).toNat, by omega, .inr ⟨h1, by omega⟩⟩
          · exact ⟨z.toNat, by omega, .inl ⟨h1, by omega⟩⟩
        have hi : i < l.length := by have := HS.out.2.2.2; omega
        obtain ⟨hPF', hnr, hbad⟩ := HS.out.2.1.turn (by omega) hi
        have hco := HS.out.2.1.code _ (List.getElem_mem hi)
        have hlk : (l.set i (turnE (l[i]'hi))).length = l.length := List.length_set
        have hln' : (evsOf (l.set i (turnE (l[i]'hi)))).length = n := by rw [evsOf_len, hlk]; exact HS.out.2.2.2.symm
        have hi' : i < (l.set i (turnE (l[i]'hi))).length := by rw [hlk]; exact hi
        have hcs : ((l.set i (turnE (l[i]'hi)))[i]'hi').c.s = (l[i]'hi).c.s := by rw [List.getElem_set_self]; rfl
        have hbad' : chainB false [] (crs (l.set i (turnE (l[i]'hi))) ((l.set i (turnE (l[i]'hi)))[i]'hi').c.s) = false := by
          rw [hcs]
          cases hb : chainB false [] (crs (l.set i (turnE (l[i]'hi))) (l[i]'hi).c.s) with
          | false => rfl
          | true => exact absurd ((chainB_iff _ _ _).2 hb) hbad
        obtain ⟨g, rfl, _⟩ := HS.out.1.turn HS.out.2.2.1 hi
        obtain ⟨cd, hcode⟩ : ∃ cd, cd = (l[i]'hi).r.code := ⟨_, rfl⟩
        rw [← hcode] at hco
        obtain ⟨hco1, hco2⟩ := hco
        have HTu : Hid (∀ W, Below wL.heap.size wL W → W.cell? ⟨g, (2 * i + 1) * 12 + 9, none⟩ = some (.int .i64 cd) ∧ W.frozen? ⟨g, (2 * i + 1) * 12 + 9, none⟩ = false ∧ ReadsEvs (W.setCell ⟨g, (2 * i + 1) * 12 + 9, none⟩ (.int .i64 (cd + 1))) (.slice (some ⟨g, 0, none⟩) n c) (evsOf (l.set i (turnE (l[i]'hi)))) ∧ Below w.heap.size w (W.setCell ⟨g, (2 * i + 1) * 12 + 9, none⟩ (.int .i64 (cd + 1)))) := fun W hW => by
          obtain ⟨g', hgg, _, hcd, hfz, hev', hbl'⟩ := (HS.out.1.go hW).turn HS.out.2.2.1 hi
          rw [Option.some.injEq, Addr.mk.injEq] at hgg
          obtain ⟨rfl, _⟩ := hgg
          rw [hcode]
          exact ⟨hcd, hfz _, hev', hbl'⟩
        have HR2 : Hid (∀ W, ReadsEvs W (.slice (some ⟨g, 0, none⟩) n c) (evsOf (l.set i (turnE (l[i]'hi)))) → (Calls Try.prog 12 #[.slice (some ⟨g, 0, none⟩) n c] W fun e w' => e = .returned (.tuple #[.bool false, .int .i64 0]) ∧ Below W.heap.size W w') ∧ ∀ W2, Below W.heap.size W W2 → Calls Try.prog 13 #[.slice (some ⟨g, 0, none⟩) n c] W2 fun e w' => e = .returned (.bool false) ∧ Below W2.heap.size W2 w') := fun W hW => by
          constructor
          · have := right_no _ _ W hW hPF'.ok.ev (by omega) (fun h => hnr h.2)
            rw [hPF'.chk] at this
            exact this
          · intro W2 hW2
            have h9 := hW.below hW2
            rw [← hln'] at h9 ⊢
            exact rright_bad _ hPF'.ok i hi' hbad' _ c W2 h9
        have hz2 : tt.tmod (M : Int) = z := hz.symm
        have hi1 : (i : Int) < (M : Int) := by omega
        have hi0 : (0 : Int) ≤ (i : Int) := by omega
        have hin : 2 * (i : Int) + 1 < (n : Int) := by omega
        have hex2 : ¬ (j : Int) < (xs.length : Int) ∨ ((j : Int) < (xs.length : Int) ∧ ¬ (n : Int) < 62) := by omega
        clear hPF' hnr hbad hlk hln' hcs hbad' hcode hPF hRB hev hln hM2 hex hlt hz hi' h0 hMp
        rcases hex2 with hx | ⟨hx1, hx2⟩
        all_goals
          go_upto_region 18 with (first
            | (go_at_call 12; (with_reducible refine (HR.out _ HD0.out).mono ?_); rintro e w2 ⟨rfl, hb2⟩; have HB2 := Lib.hid hb2; clear hb2))
          obtain ⟨hcd, hfz, hev7, hbl7⟩ := HTu.out _ HB2.out
          have H7 := Lib.hid (And.intro (HR2.out _ hev7) hbl7)
          clear hev7 hbl7
          rcases hzi with ⟨hz0, rfl⟩ | ⟨hz0, hzN⟩
          all_goals
            go_upto_region 22 with (fail)
            obtain ⟨w7, hw7⟩ : ∃ w7, w7 = w2.setCell ⟨g, (2 * i + 1) * 12 + 9, none⟩ (.int .i64 (cd + 1)) := ⟨_, rfl⟩
            rw [← hw7] at H7 ⊢
            clear hw7 hcd hfz
            have HD7 : Hid (Below w7.heap.size w7 w7) := Below.refl _ _
            go_wp2_with (first
              | (go_at_call 12; (with_reducible refine H7.out.1.1.mono ?_); rintro e w8 ⟨rfl, hb8⟩; have HB8 := Lib.hid hb8; clear hb8)
              | (go_at_call 13; (with_reducible refine (H7.out.1.2 _ HB8.out).mono ?_); rintro e w9 ⟨rfl, hb9⟩; have HB9 := Lib.hid hb9; clear hb9)
              | (go_at_call 9; (with_reducible refine (HA.out _).mono ?_); rintro e w10 ⟨rfl, hb10⟩; have HB10 := Lib.hid hb10; clear hb10))
            go_ret
            exact ⟨rfl, H7.out.2.trans ((HB8.out.trans ((HB9.out.trans (HB10.out.mono HB9.out.size)).mono HB8.out.size)).mono H7.out.2.size)⟩
end Go.Proofs.Ytbbbdhpihcbmmaa
