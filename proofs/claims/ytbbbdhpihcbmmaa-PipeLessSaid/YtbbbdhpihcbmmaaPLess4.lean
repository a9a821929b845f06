/- The walk of PipeLess: a right history, the walk. -/
import Derived.Test.YtbbbdhpihcbmmaaPLess3
import Derived.Deep.CutBlock
namespace Go.Proofs.Ytbbbdhpihcbmmaa
open Go.RowKit Own

attribute [local go_sem ↓] hide_append hide_slice
set_option maxHeartbeats 8000000 in
set_option maxRecDepth 100000 in
theorem pless_main (v : Value) (tt : Int) (xs : List EvIn) (w : World) (hv : ReadsEvs w v xs) (hok : ∀ x ∈ xs, EvOk x) (hsl : ∃ A c, v = .slice A xs.length c ∧ xs.length ≤ c)
    (hh : heavyB xs = false) (hn0 : xs ≠ []) (hc : chkH xs = 0) (hr : RightB xs) :
    Calls Try.prog 5 #[v, .int .i64 tt] w fun e w' => e = .returned (.bool true) ∧ Below w.heap.size w w' := by
  obtain ⟨Av, cv, rfl, hcv⟩ := hsl
  have h64 := (chk_few hc).1
  have HH := heavy_any _ xs w (.inr hv) ⟨Av, cv, rfl⟩ (by omega)
  rw [hh] at HH
  replace HH := Lib.hid HH
  have HA := Lib.hid (fun W => awake_any W)
  have HR : Hid (∀ W, Below w.heap.size w W → Calls Try.prog 12 #[.slice Av xs.length cv] W fun e w' => e = .returned (.tuple #[.bool true, .int .i64 0]) ∧ Below W.heap.size W w') := fun W hb => right_yes _ xs W (hv.below hb) hok (by omega) hc hr
  have hpos : 0 < xs.length := List.length_pos_iff.2 hn0
  -- the event that is meant
  have hm1 := Int.tmod_lt_of_pos tt (show (0 : Int) < (xs.length : Int) by omega)
  have hm2 := Int.lt_tmod_of_pos tt (show (0 : Int) < (xs.length : Int) by omega)
  obtain ⟨z, hz⟩ : ∃ z, z = tt.tmod (xs.length : Int) := ⟨_, rfl⟩
  rw [← hz] at hm1 hm2
  obtain ⟨N, hNe⟩ : ∃ N : Nat, N = xs.length := ⟨_, rfl⟩
  obtain ⟨i, hiN, hzi⟩ : ∃ i : Nat, i < N ∧ ((¬ z < 0 ∧ z = (i : Int)) ∨ (z < 0 ∧ z + (N : Int) = (i : Int))) := by
    by_cases h0 : z < 0
    · exact ⟨(z + N).toNat, by omega, .inr ⟨h0, by omega⟩⟩
    · exact ⟨z.toNat, by omega, .inl ⟨h0, by omega⟩⟩
  have hi' : i < xs.length := by omega
  obtain ⟨bb, off, cc, hvv, _⟩ := hv.at_ hi'
  obtain ⟨rfl, rfl⟩ : Av = some ⟨bb, off, none⟩ ∧ cv = cc := by
    rw [Value.slice.injEq] at hvv
    exact ⟨hvv.1, hvv.2.2⟩
  obtain ⟨L, hLx, hcells, hrd⟩ : ∃ L : List EvV, L.map Prod.fst = xs ∧ (∀ j u, (cellsEv L)[j]? = some u → w.cell? ⟨bb, off + j, none⟩ = some u) ∧ ∀ p ∈ L, EvReads w p := by
    rcases hv with ⟨h1, _⟩ | ⟨b, o, c, h1, h2⟩
    · cases h1
    · cases h1
      exact evs_open xs off h2
  have hLn : L.length = N := by rw [hNe, ← hLx, List.length_map]
  have hM : (xs.length : Int) ≤ 64 := by omega
  have hN : ¬ ((xs.length : Int) = 0) := by omega
  have hz2 : tt.tmod (xs.length : Int) = z := hz.symm
  obtain ⟨A2, hs2, hA2⟩ := slice_hi bb off N cv i hiN (by omega)
  have hs1 := slice_lo bb off N cv i hiN (by omega)
  have hout := pless_out w bb off N cv i L hLn hiN (by omega) hcells hrd A2 hA2
  simp only [hLx] at hout
  have HOut := Lib.hid hout
  have HCp := Lib.hid (pless_copy w bb off N cv L hLn (by omega) (by omega) hcells hrd)
  have HCells := Lib.hid (And.intro hcells hrd)
  have HEv : Hid (∀ W, Below w.heap.size w W → EvAt W bb (off + i * 12) (xs[i]'hi')) := fun W hb => by
    rcases hv with ⟨h1, _⟩ | ⟨b, o, c, h1, h2⟩
    · cases h1
    · cases h1
      exact (h2 i hi').below hb
  have HOkE := Lib.hid (And.intro hok (And.intro hc (And.intro hr (And.intro hi' (And.intro hLx (And.intro hLn h64))))))
  have hi1 : (i : Int) < (N : Int) := by omega
  have hi0 : (0 : Int) ≤ (i : Int) := by omega
  rw [← hNe] at hm1 hm2 hM hN hz2 HH HR
  rw [← hNe]
  generalize hxe : xs[i]'hi' = x at *
  have HLs : Hid (x.done = true → (chkH (xs.take i ++ xs.drop (i + 1)) = 0 ∧ RightB (xs.take i ++ xs.drop (i + 1))) ∧ chkH (xs.set i (unkE x)) = 0 ∧ RightB (xs.set i (unkE x))) := fun hd => by
    rw [← hxe] at hd ⊢
    exact ⟨less_out hc hr hi' hd, less_unk hc hr hi' hd⟩
  have HX : Hid (EvOk x ∧ (∀ p, p.1 = unkE x → p.2 = (.slice none 0 0, .slice none 0 0) → EvReads w p)) := by
    constructor
    · rw [← hxe]; exact hok _ (List.getElem_mem hi')
    · rintro ⟨p1, p2⟩ rfl rfl
      exact ⟨.inl ⟨rfl, rfl⟩, .inl ⟨rfl, rfl⟩⟩
  have hunk : EvOk (unkE x) := by
    have hx : EvOk x := HX.out.1
    exact ⟨hx.kc, hx.ks, ⟨(by decide : (Lit.int .i64 0).wf = true), (by decide : (Lit.int .i64 0).wf = true), (by decide : (Lit.int .i64 0).wf = true), Nat.zero_le _, Nat.zero_le _⟩, Nat.zero_le _⟩
  have HRo : Hid (x.done = true → ∀ W A K c, ReadsEvs W (.slice A K c) (xs.take i ++ xs.drop (i + 1)) → Calls Try.prog 12 #[.slice A K c] W fun e w' => e = .returned (.tuple #[.bool true, .int .i64 0]) ∧ Below W.heap.size W w') := fun hd W A K c h =>
    right_yes _ _ W h (fun y hy => hok y (by
      rcases List.mem_append.1 hy with hy | hy
      · exact List.mem_of_mem_take hy
      · exact List.mem_of_mem_drop hy)) (by rw [List.length_append, List.length_take, List.length_drop]; omega) (HLs.out hd).1.1 (HLs.out hd).1.2
  have HRu : Hid (x.done = true → ∀ W A c, ReadsEvs W (.slice A N c) (xs.set i (unkE x)) → Calls Try.prog 12 #[.slice A N c] W fun e w' => e = .returned (.tuple #[.bool true, .int .i64 0]) ∧ Below W.heap.size W w') := fun hd W A c h =>
    right_yes _ _ W h (fun y hy => by
      rcases List.mem_or_eq_of_mem_set hy with hy | hy
      · exact hok y hy
      · rw [hy]; exact hunk) (by rw [List.length_set]; omega) (HLs.out hd).2.1 (HLs.out hd).2.2
  clear hxe hv hok hc hr hcv hNe hz h64 hpos hn0 hh hcells hrd hLx hLn hA2 hvv hi' hunk hout
  cases hd : x.done with
  | false =>
    rcases hzi with ⟨hz0, rfl⟩ | ⟨hz0, hzN⟩
    all_goals
      go_enter Try.func5, Try.ntmps5
      go_upto_region 9 with (first
        | (go_at_call 14; (with_reducible refine HH.out.mono ?_); rintro e w1 ⟨rfl, hb1⟩; have HB1 := Lib.hid hb1; clear hb1)
        | (go_at_call 12; (with_reducible refine (HR.out _ HB1.out).mono ?_); rintro e w2 ⟨rfl, hb2⟩; have HB2 := Lib.hid (HB1.out.trans (hb2.mono HB1.out.size)); clear hb2))
      obtain ⟨dA, dc, rA, rc, ⟨e0, e1, e2, e3, e4, e5, e6, e7, e8, e9, e10, e11⟩, _, _⟩ := (HEv.out _ HB2.out).cells
      rw [hd] at e2
      go_wp2_with (go_at_call 9; (with_reducible refine (HA.out _).mono ?_); rintro e w3 ⟨rfl, hb3⟩; have HB3 := Lib.hid hb3; clear hb3)
      go_ret
      exact ⟨rfl, HB2.out.trans (HB3.out.mono HB2.out.size)⟩
  | true =>
    rcases hzi with ⟨hz0, rfl⟩ | ⟨hz0, hzN⟩
    all_goals
      go_enter Try.func5, Try.ntmps5
      go_upto_region 9 with (first
        | (go_at_call 14; (with_reducible refine HH.out.mono ?_); rintro e w1 ⟨rfl, hb1⟩; have HB1 := Lib.hid hb1; clear hb1)
        | (go_at_call 12; (with_reducible refine (HR.out _ HB1.out).mono ?_); rintro e w2 ⟨rfl, hb2⟩; have HB2 := Lib.hid (HB1.out.trans (hb2.mono HB1.out.size)); clear hb2))
      obtain ⟨dA, dc, rA, rc, ⟨e0, e1, e2, e3, e4, e5, e6, e7, e8, e9, e10, e11⟩, _, _⟩ := (HEv.out _ HB2.out).cells
      rw [hd] at e2
      go_upto_region 11 with (fail)
      obtain ⟨A3, c3, W3, A4, K, c4, W4, ha1, ha2, hev4, hb4⟩ := HOut.out w2 HB2.out
      have HR4 := Lib.hid (HRo.out hd W4 A4 K c4 hev4)
      have HB4 := Lib.hid hb4
      have HD := Lib.hid hd
      clear hev4 hb4 hd
      go_region
      all_goals
        clear ha1 ha2
        go_upto_region 14 with (go_at_call 12; (with_reducible refine HR4.out.mono ?_); rintro e w5 ⟨rfl, hb5⟩; have HB5 := Lib.hid (HB4.out.trans (hb5.mono HB4.out.size)); obtain ⟨g, cap, W6, hr6, hown6, hb6⟩ := HCp.out w5 HB5.out; have HO6 := Lib.hid (And.intro hown6 hb6); clear hown6 hb6)
        have hlen := HOkE.out.2.2.2.2.2.1
        have hown6 := HO6.out.1
        obtain ⟨d0, d1, d2, d3, ⟨f0, f1, f2, f3, f4, f5, f6, f7, f8, f9, f10, f11⟩, _, _⟩ := (HEv.out _ HO6.out.2).cells
        obtain ⟨cur, hcur⟩ := own_type hown6 rfl
        have hil : i < L.length := by omega
        have hq : ∀ j, j < 12 → ∃ u, W6.cell? ⟨g, i * 12 + j, none⟩ = some u := fun j hj => by
          have h5 := evL_len (L[i]'hil)
          have := hown6.cells (g := g) rfl (i * 12 + j) _ (by rw [cellsEv_at L i hil j hj]; exact List.getElem?_eq_getElem (by omega))
          rw [Addr.add_lit, Nat.zero_add] at this
          exact ⟨_, this⟩
        obtain ⟨q0, r0⟩ := hq 0 (by omega)
        obtain ⟨q1, r1⟩ := hq 1 (by omega)
        obtain ⟨q2, r2⟩ := hq 2 (by omega)
        obtain ⟨q3, r3⟩ := hq 3 (by omega)
        obtain ⟨q4, r4⟩ := hq 4 (by omega)
        obtain ⟨q5, r5⟩ := hq 5 (by omega)
        obtain ⟨q6, r6⟩ := hq 6 (by omega)
        obtain ⟨q7, r7⟩ := hq 7 (by omega)
        obtain ⟨q8, r8⟩ := hq 8 (by omega)
        obtain ⟨q9, r9⟩ := hq 9 (by omega)
        obtain ⟨q10, r10⟩ := hq 10 (by omega)
        obtain ⟨q11, r11⟩ := hq 11 (by omega)
        rw [Nat.add_zero] at r0
        have z0 := frozen_of_block hcur (i * 12)
        have z1 := frozen_of_block hcur (i * 12 + 1)
        have z2 := frozen_of_block hcur (i * 12 + 2)
        have z3 := frozen_of_block hcur (i * 12 + 3)
        have z4 := frozen_of_block hcur (i * 12 + 4)
        have z5 := frozen_of_block hcur (i * 12 + 5)
        have z6 := frozen_of_block hcur (i * 12 + 6)
        have z7 := frozen_of_block hcur (i * 12 + 7)
        have z8 := frozen_of_block hcur (i * 12 + 8)
        have z9 := frozen_of_block hcur (i * 12 + 9)
        have z10 := frozen_of_block hcur (i * 12 + 10)
        have z11 := frozen_of_block hcur (i * 12 + 11)
        clear hcur hq hil hown6 hlen hb5 hr6 e0 e1 e2 e3 e4 e5 e6 e7 e8 e9 e10 e11
        go_upto_region 15 with (fail)
        obtain ⟨W7, hW7⟩ : ∃ W7, W7 = (((((((((((W6.setCell ⟨g, i * 12, none⟩ (.int .i64 x.kc)).setCell ⟨g, i * 12 + 1, none⟩ (.int .i64 x.ks)).setCell ⟨g, i * 12 + 2, none⟩ (.bool true)).setCell ⟨g, i * 12 + 3, none⟩ (.bool true)).setCell ⟨g, i * 12 + 4, none⟩ (.int .i64 0)).setCell ⟨g, i * 12 + 5, none⟩ (.string ⟨#[]⟩)).setCell ⟨g, i * 12 + 6, none⟩ (.int .i64 0)).setCell ⟨g, i * 12 + 7, none⟩ (.slice none 0 0)).setCell ⟨g, i * 12 + 8, none⟩ (.int .i64 0)).setCell ⟨g, i * 12 + 9, none⟩ (.int .i64 0)).setCell ⟨g, i * 12 + 10, none⟩ (.int .i64 0)).setCell ⟨g, i * 12 + 11, none⟩ (.slice none 0 0) := ⟨_, rfl⟩
        rw [← hW7]
        have hW : W7 = W6.setCells g (i * 12) (evL (unkE x, .slice none 0 0, .slice none 0 0)) := by rw [hW7]; rfl
        have hlen := HOkE.out.2.2.2.2.2.1
        have h7 := evs_set (w0 := w) (W := W6) (B := w5.heap.size) (g := g) (cap := cap) (i := i) (L := L) (by rw [hlen]; exact HO6.out.1) (by omega) (unkE x, .slice none 0 0, .slice none 0 0) HO6.out.2 HB5.out.size HCells.out.2 (HX.out.2 _ rfl rfl)
        rw [hlen, HOkE.out.2.2.2.2.1, ← hW] at h7
        have HR7 := Lib.hid (HRu.out HD.out W7 _ cap h7.1)
        have HB7 := Lib.hid h7.2
        clear hW7 hW h7 hlen z0 z1 z2 z3 z4 z5 z6 z7 z8 z9 z10 z11 r0 r1 r2 r3 r4 r5 r6 r7 r8 r9 r10 r11 f0 f1 f2 f3 f4 f5 f6 f7 f8 f9 f10 f11
        go_wp2_with (first
          | (go_at_call 12; (with_reducible refine HR7.out.mono ?_); rintro e w8 ⟨rfl, hb8⟩; have HB8 := Lib.hid (HB7.out.trans (hb8.mono HB7.out.size)); clear hb8)
          | (go_at_call 9; (with_reducible refine (HA.out _).mono ?_); rintro e w9 ⟨rfl, hb9⟩; have HB9 := Lib.hid hb9; clear hb9))
        go_ret
        exact ⟨rfl, HB8.out.trans (HB9.out.mono HB8.out.size)⟩
end Go.Proofs.Ytbbbdhpihcbmmaa
