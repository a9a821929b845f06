/- The reference's goes, at calls one behind the other. The reference's Right, at calls one behind the other that cannot have been so. -/
import Derived.Test.YtbbbdhpihcbmmaaPRGo3
import Derived.Test.YtbbbdhpihcbmmaaGSeq
import Derived.Deep.RegionHeld3
namespace Go.Proofs.Ytbbbdhpihcbmmaa
open Go.RowKit Own

theorem rgoes_any (l : List OE) (hl : OkL l) (Av : Option Addr) (cv : Nat) (s : ByteArray) (db : Nat) : ∀ (n m : Nat), l.length - m ≤ n → m ≤ l.length → ∀ (has : Bool) (b : List UInt8) (bv : Value) (w : World), b.length ≤ 4096 → ReadsEvs w (.slice Av (evsOf l).length cv) (evsOf l) → w.heap[db]? = some (.cells (dnA l s m) 4 (0, 0)) → ReadsB w bv b →
    Calls Try.prog 28 #[.slice Av (evsOf l).length cv, .string s, .slice (some ⟨db, 0, none⟩) (evsOf l).length (evsOf l).length, .agg #[.bool has, bv]] w fun e w' => e = .returned (.bool (chainB has b (crs (l.drop m) s))) ∧ Below w.heap.size w w'
  | n, m, hn, hm, has, b, bv, w, hb4, hv, hd, hb => by
    rcases next_or l s _ m rfl with hK | ⟨k, hK⟩
    · rw [crs_none hK]
      exact rgoes_none l hl Av cv s db m hK has b bv w hv hd hb
    · obtain ⟨hk, hcr⟩ := crs_next hK
      rw [hcr]
      have hcl := hl.call _ (List.getElem_mem hk)
      have hlen : (doR (l[k]'hk).c has b).b.length ≤ 4096 := doR_len _ _ _ hb4 hcl.2.2
      match n, hn with
      | 0, hn => exact absurd hK.1 (by omega)
      | n + 1, hn =>
        exact rgoes_some l hl Av cv s db m k hK hk has b hb4 (sameB (repOf (doR (l[k]'hk).c has b)) (l[k]'hk).r) (chainB (doR (l[k]'hk).c has b).has (doR (l[k]'hk).c has b).b (crs (l.drop (k + 1)) s)) rfl bv w hv hd hb
          fun _ bv' W hv' hd' hb' => rgoes_any l hl Av cv s db n (k + 1) (by have := hK.1; omega) (by omega) _ _ bv' W hlen hv' hd' hb'
end Go.Proofs.Ytbbbdhpihcbmmaa
namespace Go.Proofs.Ytbbbdhpihcbmmaa
open Go.RowKit Own

theorem infoBoolR : (Try.prog.info? 4).map (fun i => (i.zero, i.size, i.bytes)) = some (some (.bool false), 1, 1) := by kernel_rfl
def madeD (l : List OE) (s : ByteArray) : Obj := .cells (dnA l s 0) 4
theorem run_mkD (l : List OE) (hl : l.length ≤ 32) (s : ByteArray) (w : World) : (Instr.makeSlice 66 (.int .i64 (evsOf l).length) (.int .i64 (evsOf l).length)).run Try.prog w = .ok (.slice (some ⟨w.heap.size, 0, none⟩) (evsOf l).length (evsOf l).length) (w.alloc (madeD l s)) := by
  obtain ⟨i0, hi, hz0, hz1, hz2⟩ := info_parts infoBoolR
  have hn : (evsOf l).length ≤ 64 := by rw [evsOf_len]; omega
  have := run_make (P := Try.prog) w 66 4 i0 (.bool false) Try.underlying66 hi hz0 .i64 .i64 (evsOf l).length (evsOf l).length (by omega) (Int.le_refl _) (by rw [hz2]; omega) (by omega)
  rw [this, hz1]
  have e : madeCells #[.bool false] (evsOf l).length = dnA l s 0 := by
    rw [dnA_zero, ← evsOf_len]
    apply Array.ext'
    rw [toList_madeCells_one]
    simp
  simp [madeD, Value.cells, e]
set_option maxHeartbeats 4000000 in
set_option maxRecDepth 100000 in
theorem rright_bad (l : List OE) (hl : OkL l) (kb : Nat) (hkb : kb < l.length) (hbad : chainB false [] (crs l (l[kb]'hkb).c.s) = false) (Av : Option Addr) (cv : Nat) (w : World) (hv : ReadsEvs w (.slice Av (evsOf l).length cv) (evsOf l)) :
    Calls Try.prog 13 #[.slice Av (evsOf l).length cv] w fun e w' => e = .returned (.bool false) ∧ Below w.heap.size w w' := by
  obtain ⟨N, hN⟩ : ∃ N, N = (evsOf l).length := ⟨_, rfl⟩
  have hN2 : N = 2 * l.length := by rw [hN, evsOf_len]
  have hN64 : (N : Int) ≤ 64 := by have := hl.n; omega
  have HV := Lib.hid hv
  have HL := Lib.hid (And.intro hl (And.intro hbad (And.intro hN (And.intro hN2 hkb))))
  have HG : Hid (∀ (s : ByteArray) (db : Nat) (W : World), Below w.heap.size w W → W.heap[db]? = some (.cells (dnA l s 0) 4 (0, 0)) → Calls Try.prog 28 #[.slice Av N cv, .string s, .slice (some ⟨db, 0, none⟩) N N, .agg #[.bool false, .slice none 0 0]] W fun e w' => e = .returned (.bool (chainB false [] (crs l s))) ∧ Below W.heap.size W w') := fun s db W hW hd => by
    have := rgoes_any l hl Av cv s db l.length 0 (by omega) (Nat.zero_le _) false [] (.slice none 0 0) W (Nat.zero_le _) (hv.below hW) hd (.inl ⟨rfl, rfl⟩)
    rw [← hN] at this
    exact this
  have HM : Hid (∀ (s : ByteArray) (W : World), (Instr.makeSlice 66 (.int .i64 N) (.int .i64 N)).run Try.prog W = .ok (.slice (some ⟨W.heap.size, 0, none⟩) N N) (W.alloc (madeD l s))) := fun s W => by rw [hN]; exact run_mkD l hl.n s W
  rw [← hN]
  clear hv hl hbad hN hN2
  go_enter Try.func13, Try.ntmps13
  go_wp2_with fail
  go_loopw [3] (fun i wr => ∃ j : Nat, i = .int .i64 j ∧ j ≤ 2 * kb ∧ Hid (Below w.heap.size w wr)) (fun i _ => N - (intOf i).toNat)
  case atStart => exact ⟨0, rfl, Nat.zero_le _, Below.refl _ _⟩
  case round =>
    obtain ⟨j, rfl, hj, HB⟩ := hrel
    obtain ⟨wL, rfl⟩ : ∃ wo : World, wo = wr := ⟨_, rfl⟩
    have hlt : j < N := by have := HL.out.2.2.2.1; have := HL.out.2.2.2.2; omega
    have k1 : (j : Int) < (N : Int) := by omega
    have k0 : (0 : Int) ≤ (j : Int) := by omega
    have hjx : j < (evsOf l).length := by have := HL.out.2.2.1; omega
    obtain ⟨bb, off, cc, hvv, hact⟩ := (HV.out.below HB.out).at_ hjx
    obtain ⟨rfl, rfl⟩ : Av = some ⟨bb, off, none⟩ ∧ cv = cc := by
      rw [Value.slice.injEq] at hvv
      exact ⟨hvv.1, hvv.2.2⟩
    obtain ⟨dA, dc, rA, rc, ⟨e0, e1, e2, e3, e4, e5, e6, e7, e8, e9, e10, e11⟩, _, _⟩ := hact.cells
    rcases Nat.mod_two_eq_zero_or_one j with hpar | hpar
    · obtain ⟨k, rfl⟩ : ∃ k, j = 2 * k := ⟨j / 2, by omega⟩
      have hk : k < l.length := by have := HL.out.2.2.2.1; omega
      have hx := evsOf_bg l k hk
      rw [List.getElem?_eq_getElem hjx, Option.some.injEq] at hx
      rw [hx] at e0 e1 e2 e3 e4 e5 e6 e7 e8 e9 e10 e11
      simp only [bgE] at e0 e1 e2 e3 e4 e5 e6 e7 e8 e9 e10 e11
      obtain ⟨s, hs⟩ : ∃ s, s = (l[k]'hk).c.s := ⟨_, rfl⟩
      rw [← hs] at e5
      obtain ⟨q, hq⟩ : ∃ q, q = chainB false [] (crs l s) := ⟨_, rfl⟩
      have HQ := Lib.hid hq
      have HGs : Hid (Calls Try.prog 28 #[.slice (some ⟨bb, off, none⟩) N cv, .string s, .slice (some ⟨wL.heap.size, 0, none⟩) N N, .agg #[.bool false, .slice none 0 0]] (wL.alloc (madeD l s)).drew fun e w' => e = .returned (.bool q) ∧ Below wL.heap.size wL w') := by
        have hal : Below wL.heap.size wL (wL.alloc (madeD l s)).drew := ((Below.refl _ _).alloc (Nat.le_refl _) _).drew
        rw [hq]
        exact (HG.out s wL.heap.size _ (HB.out.trans (hal.mono HB.out.size)) (heap_alloc_new wL _)).mono fun e w' h => ⟨h.1, hal.trans (h.2.mono hal.size)⟩
      have hmk := HM.out s
      have HK : Hid (q = true → 2 * k + 1 ≤ 2 * kb) := fun hqt => by
        have hne : k ≠ kb := by
          rintro rfl
          rw [hq, hs] at hqt
          rw [HL.out.2.1] at hqt
          cases hqt
        omega
      have hlt1 := World.block_lt_of_cell? wL _ e2
      simp only [] at hlt1
      have ne1 : ¬ bb = wL.heap.size := Nat.ne_of_lt hlt1
      have ne2 : ¬ wL.heap.size = bb := Nat.ne_of_gt hlt1
      clear hx hvv hact hs hq
      generalize hQe : 2 * k = Q at *
      have HQe := Lib.hid hQe
      clear hQe e0 e1 e3 e4 e6 e7 e8 e9 e10 e11
      have HCl : Hid (∀ W, Below wL.heap.size wL W → W.cell? ⟨bb, off + Q * 12 + 2, none⟩ = some (.bool false) ∧ W.cell? ⟨bb, off + Q * 12 + 5, none⟩ = some (.string s)) := fun W hW => by
        have t : ∀ bk o u, wL.cell? ⟨bk, o, none⟩ = some u → W.cell? ⟨bk, o, none⟩ = some u := fun bk o u hu => (hW.cell (World.block_lt_of_cell? wL _ hu)).trans hu
        exact ⟨t _ _ _ e2, t _ _ _ e5⟩
      go_upto_region 4 with (fail)
      go_region_held3 (fun W => W.cell? ⟨bb, off + Q * 12 + 2, none⟩ = some (.bool false) ∧ W.cell? ⟨bb, off + Q * 12 + 5, none⟩ = some (.string s)) (go_keep)
        ((go_at_call 28; (with_reducible refine HGs.out.mono ?_); rintro e w3 ⟨rfl, hb3⟩; obtain ⟨e2, e5⟩ := HCl.out _ hb3; have HB3 := Lib.hid (HB.out.trans (hb3.mono HB.out.size)); clear hb3))
      cases q with
      | false =>
        go_wp2_with fail
        go_ret
        exact ⟨rfl, HB3.out⟩
      | true =>
        have hk9 := HK.out rfl
        go_wp2_with fail
        go_roundw
        case rel => exact ⟨Q + 1, by go_num, by omega, HB3.out⟩
        case measure => simp [intOf]; omega
    · obtain ⟨k, rfl⟩ : ∃ k, j = 2 * k + 1 := ⟨j / 2, by omega⟩
      have hk : k < l.length := by have := HL.out.2.2.2.1; omega
      have hx := evsOf_en l k hk
      rw [List.getElem?_eq_getElem hjx, Option.some.injEq] at hx
      rw [hx] at e0 e1 e2 e3 e4 e5 e6 e7 e8 e9 e10 e11
      simp only [enE] at e0 e1 e2 e3 e4 e5 e6 e7 e8 e9 e10 e11
      clear hx hvv hact
      go_upto_region 4 with (fail)
      go_quiet (fail)
      go_wp2_with fail
      go_roundw
      case rel => exact ⟨2 * k + 1 + 1, by go_num, by omega, HB.out.trans ((bel_drewN _ _).mono HB.out.size)⟩
      case measure => simp [intOf]; omega
end Go.Proofs.Ytbbbdhpihcbmmaa
